import Derived.Test.YtjmobepipfbbnaaAny
import Derived.Test.YtjmobepipfbbnaaExLaw
import Derived.Test.YtjmobepipfbbnaaFines
/- The document's truths: rows of one's own side by side; the row of all truths. The document's truths: the state of the region in which truths calls itself. The document's truths, plainly: who did what, and when, in the order in which the program lists them. -/
set_option linter.unusedSimpArgs false
set_option linter.unusedVariables false
namespace Go.Proofs.Ytjmobepipfbbnaa
open Go.RowKit Go.Shelf
/-- Holds, whatever is done to block b. -/
def St (b : Option Nat) (w : World) (R : World → Prop) : Prop := ∀ w', w.grownBy w' b → R w'
/-- The old block, or one that is new. -/
def Newer (n : Nat) (b b' : Option Nat) : Prop := b' = b ∨ ∃ k, b' = some k ∧ n ≤ k
theorem grownBy_of_below {w w' : World} (h : Below w.heap.size w w') (b : Option Nat) : w.grownBy w' b := ⟨h.os, h.tape, h.output, h.size, fun k hk _ => h.block k hk⟩
section
variable {b b' : Option Nat} {w w' : World} {R R' : World → Prop}
theorem St.now (h : St b w R) : R w := h w (World.grownBy.refl w b)
theorem St.on (h : St b w R) (hg : w.grownBy w' b) : St b w' R := fun w'' k => h w'' (hg.trans k)
theorem grown_newer {w'' : World} (hg : w.grownBy w' b) (hn : Newer w.heap.size b b') (k : w'.grownBy w'' b') : w.grownBy w'' b :=
  hg.andThen k (fun j hj => by
    rcases hn with rfl | ⟨x, rfl, hx⟩
    · exact .inr hj
    · cases hj; exact .inl hx)
theorem St.newer (h : St b w R) (hg : w.grownBy w' b) (hn : Newer w.heap.size b b') : St b' w' R := fun _ k => h _ (grown_newer hg hn k)
theorem St.below (h : St b w R) (hb : Below w.heap.size w w') : St b w' R := h.on (grownBy_of_below hb b)
theorem St.imp (h : St b w R) (hi : ∀ w', R w' → R' w') : St b w R' := fun w' k => hi w' (h w' k)
theorem St.and (h : St b w R) (h' : St b w R') : St b w (fun w => R w ∧ R' w) := fun w' k => ⟨h w' k, h' w' k⟩
end
theorem Newer.refl (n : Nat) (b : Option Nat) : Newer n b b := .inl rfl
theorem Newer.trans {n m : Nat} {a b c : Option Nat} (h : Newer n a b) (k : Newer m b c) (hm : n ≤ m) : Newer n a c := by
  rcases k with rfl | ⟨x, rfl, hx⟩
  · exact h
  · exact .inr ⟨x, rfl, by omega⟩
/-- A cell of a block that is not touched. -/
theorem St.cell {b : Option Nat} {w : World} {A : Addr} {v : Value} (h : w.cell? A = some v) (hne : some A.block ≠ b) : St b w (fun w => w.cell? A = some v) := fun w' hg => hg.cell h hne
/-- In which block an appended row lies. -/
theorem append_blockS {P : Program} {w : World} {base : Nat} {t ty e : TypeId} {i : TypeInfo} {z : Value} {size bytes : Nat} (ht : P.underlying t = some (.slice e)) (hi : P.info? e = some i) (hz : i.zero = some z)
    (hsize : i.size = size) (hby : i.bytes = bytes) (hsz : 0 < size) {v : Value} {n : Nat} {xs : List Value} (hown : w.ownsRow base e size v n xs) {a : Addr} {m c : Nat} {news : List Value}
    (hl : news.length = m * size) (hnews : ∀ j u, news[j]? = some u → w.cell? (a.add j) = some u) (h1 : ∀ u ∈ news, u.oneCell' = true) (h63 : n + m ≤ maxLen) (hbytes : (n + m) * bytes ≤ 140737488355328)
    {v' : Value} {w' : World} (hr : (Builtin.append_ #[t, t] ty #[v, .slice (some a) m c]).run P w = .ok v' w') : v'.ownBlock = v.ownBlock ∨ v'.ownBlock = some w.heap.size := by
  subst hsize
  subst hby
  have hsmall : n + m ≤ 9223372036854775807 := by simp only [maxLen] at h63; omega
  rcases hown.2 with ⟨rfl, rfl⟩ | ⟨g, cap, cur, rfl, hbg, hg, hnc, hcm, hcs, htake⟩
  · by_cases hm : m = 0
    · subst hm
      have hn : news = [] := List.eq_nil_of_length_eq_zero (by simpa using hl)
      subst hn
      have h2 : (Builtin.append_ #[t, t] ty #[.slice none 0 0, .slice (some a) 0 c]).run P w = .ok (.slice none 0 0) w := by
        simp [Builtin.append_, run_underlying ht, sizeOf, typeInfo, hi, Builtin.lenOf, Builtin.firstCells, loadCells, loadCellsFrom]
      rw [h2] at hr
      injection hr with e1 e2
      exact .inl (by rw [← e1])
    · have h2 := run_append_nil (P := P) w t ty e i z ht hi hz a m c news hl hnews (by omega) (by omega) (by have hb := hbytes; simp only [Nat.zero_add] at hb; omega)
      rw [h2] at hr
      injection hr with e1 e2
      exact .inr (by rw [← e1]; rfl)
  · by_cases hroom : n + m ≤ cap
    · have hfit : n * i.size + news.length ≤ cur.size := by rw [hl, hcs, ← Nat.add_mul]; exact Nat.mul_le_mul_right _ hroom
      have h2 := run_append_room (P := P) w t ty e i ht hi g n cap cur hg a m c news hl hnews h1 hroom hfit
      rw [h2] at hr
      injection hr with e1 e2
      exact .inl (by rw [← e1]; rfl)
    · have holds : ∀ j u, xs[j]? = some u → w.cell? ((⟨g, 0, none⟩ : Addr).add j) = some u := hown.cells (g := g) rfl
      have h2 := run_append_grow (P := P) w t ty e i z ht hi hz ⟨g, 0, none⟩ n cap xs hown.1 holds a m c news hl hnews (by omega) (by omega) (growslice_fits (by omega) hbytes)
      rw [h2] at hr
      injection hr with e1 e2
      exact .inr (by rw [← e1]; rfl)
/-- Append of rows that are read onto rows of one's own. -/
theorem append_rows {P : Program} {w : World} (base : Nat) (t ty e : TypeId) (i : TypeInfo) (z : Value) (size bytes : Nat) (ht : P.underlying t = some (.slice e)) (hi : P.info? e = some i) (hz : i.zero = some z)
    (hsize : i.size = size) (hby : i.bytes = bytes) (hzs : z.cells.size = size) (hsz : 0 < size)
    (v : Value) (n : Nat) (xs : List Value) (hown : w.ownsRow base e size v n xs) (src : Value) (m : Nat) (row : Nat → Nat → Value) (hsrc : IsRows w src m size row) (h1 : ∀ k j, k < m → j < size → (row k j).oneCell' = true)
    (h63 : n + m ≤ maxLen) (hbytes : (n + m) * bytes ≤ 140737488355328) (hbase : base ≤ w.heap.size) :
    ∃ v' w', (Builtin.append_ #[t, t] ty #[v, src]).run P w = .ok v' w' ∧ w'.ownsRow base e size v' (n + m) (xs ++ flatR m size row) ∧ w.grownBy w' v.ownBlock ∧ (v'.ownBlock = v.ownBlock ∨ v'.ownBlock = some w.heap.size) := by
  obtain ⟨v', w', r1, r2, r3⟩ := run_append_src (P := P) w base t ty e i z size bytes ht hi hz hsize hby hzs hsz v n xs hown src m row hsrc h1 h63 hbytes hbase
  refine ⟨v', w', r1, r2, r3, ?_⟩
  obtain ⟨a, cap, rfl, hc, hm, hcell⟩ := hsrc
  rcases Nat.eq_zero_or_pos m with rfl | hpos
  · cases a with
    | none =>
      rw [run_append_none w base t ty e i size ht hi v n cap xs hown] at r1
      injection r1 with e1 e2
      exact .inl (by rw [← e1])
    | some ad => exact append_blockS (news := []) ht hi hz hsize hby hsz hown (by simp) (fun j u h => by simp at h) (fun u h => by simp at h) h63 hbytes r1
  · obtain ⟨b, off, rfl, hcl⟩ := hcell hpos
    refine append_blockS (news := flatR m size row) ht hi hz hsize hby hsz hown (flatR_length _ _ _) (fun j u h => ?_) (fun u hu => ?_) h63 hbytes r1
    · have hj : j < m * size := by
        rcases Nat.lt_or_ge j (m * size) with h' | h'
        · exact h'
        · rw [List.getElem?_eq_none (by rw [flatR_length]; exact h')] at h; cases h
      have e : j = j / size * size + j % size := by rw [Nat.mul_comm]; exact (Nat.div_add_mod j size).symm
      have hk : j / size < m := Nat.div_lt_of_lt_mul (by rw [Nat.mul_comm]; exact hj)
      have hr : j % size < size := Nat.mod_lt _ hsz
      rw [e, flatR_get hk hr] at h
      cases h
      have ea : (⟨b, off, none⟩ : Addr).add j = ⟨b, off + j / size * size + j % size, none⟩ := by rw [addN]; congr 1; omega
      rw [ea]; exact hcl _ _ hk hr
    · unfold flatR at hu
      obtain ⟨q, hq, rfl⟩ := List.mem_map.1 hu
      rw [List.mem_range] at hq
      exact h1 _ _ (Nat.div_lt_of_lt_mul (by rw [Nat.mul_comm]; exact hq)) (Nat.mod_lt _ hsz)
/-- Numbers laid behind numbers of one's own. -/
theorem append_ints {W : World} {base : Nat} {lv : Value} {l m : List Int} (h : W.ownsRow base 3 1 lv l.length (intV l)) (h5 : l.length + m.length < 1000) (hbase : base ≤ W.heap.size) {src : Value} (hs : IsInts W src m) :
    ∃ v' W', (Builtin.append_ #[26, 26] 26 #[lv, src]).run Try.prog W = .ok v' W' ∧ W'.ownsRow base 3 1 v' (l ++ m).length (intV (l ++ m)) ∧ W.grownBy W' lv.ownBlock ∧ (v'.ownBlock = lv.ownBlock ∨ v'.ownBlock = some W.heap.size) := by
  obtain ⟨i0, hi0, hz0, hz1, hz2⟩ := info_parts intInfo
  obtain ⟨v', W', h1, h2, h3, h4⟩ := append_rows (P := Try.prog) (w := W) base 26 26 3 i0 _ 1 8 und26 hi0 hz0 hz1 hz2 rfl (by omega) lv l.length _ h src m.length (fun k _ => .int .i64 (m.getD k 0)) hs (fun _ _ _ _ => rfl) (by unfold maxLen; omega) (by omega) hbase
  refine ⟨v', W', h1, ?_, h3, h4⟩
  have e2 : flatR m.length 1 (fun k _ => Value.int .i64 (m.getD k 0)) = intV m := by
    refine List.ext_getElem (by rw [flatR_length, intV_length]; omega) fun j h1 h2 => ?_
    rw [intV_length] at h2
    have := flatR_get (m := m.length) (size := 1) (row := fun k _ => Value.int .i64 (m.getD k 0)) (k := j) (j := 0) h2 (by omega)
    simp only [Nat.mul_one, Nat.add_zero] at this
    rw [List.getElem?_eq_getElem h1] at this
    simp only [Option.some.injEq] at this
    rw [this]; simp [intV, List.getD, h2]
  rw [e2] at h2
  rw [List.length_append]
  have e3 : intV (l ++ m) = intV l ++ intV m := by simp [intV]
  rw [e3]
  exact h2
/-! Four rows of numbers of one's own, side by side. -/
def Ap (u v : Value) : Prop := u.ownBlock = none ∨ v.ownBlock = none ∨ u.ownBlock ≠ v.ownBlock
theorem Ap.symm {u v : Value} (h : Ap u v) : Ap v u := by
  rcases h with h | h | h
  · exact .inr (.inl h)
  · exact .inl h
  · exact .inr (.inr fun e => h e.symm)
structure Four (w : World) (base : Nat) (p q r s : Value × List Int) : Prop where
  op : w.ownsRow base 3 1 p.1 p.2.length (intV p.2)
  oq : w.ownsRow base 3 1 q.1 q.2.length (intV q.2)
  or : w.ownsRow base 3 1 r.1 r.2.length (intV r.2)
  os : w.ownsRow base 3 1 s.1 s.2.length (intV s.2)
  pq : Ap p.1 q.1
  pr : Ap p.1 r.1
  ps : Ap p.1 s.1
  qr : Ap q.1 r.1
  qs : Ap q.1 s.1
  rs : Ap r.1 s.1
def nilP : Value × List Int := (.slice none 0 0, [])
theorem Four.nil (w : World) (base : Nat) : Four w base nilP nilP nilP nilP :=
  ⟨own_nil _ _ _ _, own_nil _ _ _ _, own_nil _ _ _ _, own_nil _ _ _ _, .inl rfl, .inl rfl, .inl rfl, .inl rfl, .inl rfl, .inl rfl⟩
section
variable {w w' : World} {base : Nat} {p q r s : Value × List Int}
theorem Four.rot (h : Four w base p q r s) : Four w base q r s p := ⟨h.oq, h.or, h.os, h.op, h.qr, h.qs, h.pq.symm, h.rs, h.pr.symm, h.ps.symm⟩
theorem Four.below (h : Four w base p q r s) (hb : Below w.heap.size w w') : Four w' base p q r s :=
  ⟨own_kept2 h.op hb, own_kept2 h.oq hb, own_kept2 h.or hb, own_kept2 h.os hb, h.pq, h.pr, h.ps, h.qr, h.qs, h.rs⟩
theorem ap_kept {e1 s1 n1 : Nat} {u v : Value} {xs : List Value} (h : w.ownsRow base e1 s1 v n1 xs) (hg : w.grownBy w' u.ownBlock) (ha : Ap u v) : w'.ownsRow base e1 s1 v n1 xs := by
  cases hv : v.ownBlock
  · exact h.kept hg (.inl hv)
  · refine h.kept hg (.inr fun e => ?_)
    rcases ha with h' | h' | h'
    · rw [hv, h'] at e; cases e
    · rw [hv] at h'; cases h'
    · exact h' e.symm
theorem ap_new {e1 s1 n1 : Nat} {u v v' : Value} {xs : List Value} (h : w.ownsRow base e1 s1 v n1 xs) (ha : Ap u v) (hv : v'.ownBlock = u.ownBlock ∨ v'.ownBlock = some w.heap.size) : Ap v' v := by
  rcases hv with e | e
  · unfold Ap at *; rw [e]; exact ha
  · refine .inr (.inr fun e2 => ?_)
    rw [e] at e2
    have := (h.lt _ e2.symm).2
    omega
/-- A new row takes the first place, that was empty. -/
theorem Four.fresh (h : Four w base p q r s) {v : Value} {l : List Int} (hb : Below w.heap.size w w') (ho : w'.ownsRow base 3 1 v l.length (intV l)) (hv : v.ownBlock = some w.heap.size) : Four w' base (v, l) q r s :=
  ⟨ho, own_kept2 h.oq hb, own_kept2 h.or hb, own_kept2 h.os hb, ap_new h.oq (.inl rfl : Ap (.slice none 0 0) _) (.inr hv), ap_new h.or (.inl rfl : Ap (.slice none 0 0) _) (.inr hv), ap_new h.os (.inl rfl : Ap (.slice none 0 0) _) (.inr hv), h.qr, h.qs, h.rs⟩
/-- Something is laid behind the first row. -/
theorem Four.app (h : Four w base p q r s) {m : List Int} {src : Value} (hs : IsInts w src m) (h5 : p.2.length + m.length < 1000) (hbase : base ≤ w.heap.size) :
    ∃ v' w', (Builtin.append_ #[26, 26] 26 #[p.1, src]).run Try.prog w = .ok v' w' ∧ Four w' base (v', p.2 ++ m) q r s ∧ w.grownBy w' p.1.ownBlock := by
  obtain ⟨v', w', h1, h2, h3, h4⟩ := append_ints h.op h5 hbase hs
  exact ⟨v', w', h1, ⟨h2, ap_kept h.oq h3 h.pq, ap_kept h.or h3 h.pr, ap_kept h.os h3 h.ps, ap_new h.oq h.pq h4, ap_new h.or h.pr h4, ap_new h.os h.ps h4, h.qr, h.qs, h.rs⟩, h3⟩
/-- A row is done with. -/
theorem Four.drop (h : Four w base p q r s) : Four w base p nilP r s := ⟨h.op, own_nil _ _ _ _, h.or, h.os, .inr (.inl rfl), h.pr, h.ps, .inl rfl, .inl rfl, h.rs⟩
theorem Four.under (h : Four w base p q r s) {B : World} (hB : Below base B w) (hg : w.grownBy w' p.1.ownBlock) (hb : base ≤ w.heap.size) : Below base B w' := hB.grown hg hb (fun k hk => (h.op.lt k hk).1)
end
/-! The row of all truths. -/
theorem trInfo : (Try.prog.info? 62).map (fun i => (i.zero, i.size, i.bytes)) = some (some (.agg #[.slice none 0 0, .slice none 0 0]), 2, 48) := by kernel_rfl
theorem und59 : Try.prog.underlying 59 = some (.slice 62) := by kernel_rfl
abbrev Pair := List Int × List Int
def TrV (b : Option Nat) (w : World) (p : Value × Value) (t : Pair) : Prop := St b w fun w => IsInts w p.1 t.1 ∧ IsInts w p.2 t.2
def flatT (vs : List (Value × Value)) : List Value := vs.flatMap fun p => [p.1, p.2]
theorem flatT_length (vs : List (Value × Value)) : (flatT vs).length = vs.length * 2 := by
  induction vs with
  | nil => rfl
  | cons p t ih => unfold flatT at *; rw [List.flatMap_cons, List.length_append, ih]; simp; omega
def OutAt (w : World) (base : Nat) (v : Value) (ts : List Pair) : Prop :=
  ∃ vs : List (Value × Value), w.ownsRow base 62 2 v ts.length (flatT vs) ∧ ∀ (k : Nat) (p : Value × Value) (t : Pair), vs[k]? = some p → ts[k]? = some t → TrV v.ownBlock w p t
theorem OutAt.nil (w : World) (base : Nat) : OutAt w base (.slice none 0 0) [] := ⟨[], own_nil _ _ _ _, fun k p t h => by simp at h⟩
theorem OutAt.below {w w' : World} {base : Nat} {v : Value} {ts : List Pair} (h : OutAt w base v ts) (hb : Below w.heap.size w w') : OutAt w' base v ts := by
  obtain ⟨vs, h1, h2⟩ := h
  exact ⟨vs, own_kept2 h1 hb, fun k p t hp ht => (h2 k p t hp ht).below hb⟩
theorem OutAt.lt {w : World} {base : Nat} {v : Value} {ts : List Pair} (h : OutAt w base v ts) : ∀ k, v.ownBlock = some k → base ≤ k ∧ k < w.heap.size := by
  obtain ⟨vs, h1, _⟩ := h; exact h1.lt
theorem IsInts.one {w : World} {v : Value} {l : List Int} (h : IsInts w v l) : v.oneCell' = true := by
  obtain ⟨a, c, rfl, _⟩ := h; rfl
/-- One truth more. -/
theorem append_truth {W : World} {base : Nat} {v : Value} {ts : List Pair} (h : OutAt W base v ts) (hn : ts.length < 4000000) (hbase : base ≤ W.heap.size) {p : Value × Value} {t : Pair} (hp : TrV v.ownBlock W p t) (A : Nat)
    (h0 : W.cell? ⟨A, 0, none⟩ = some p.1) (h1 : W.cell? ⟨A, 1, none⟩ = some p.2) :
    ∃ v' W', (Builtin.append_ #[59, 59] 59 #[v, .slice (some ⟨A, 0, none⟩) 1 1]).run Try.prog W = .ok v' W' ∧ OutAt W' base v' (ts ++ [t]) ∧ W.grownBy W' v.ownBlock ∧ Newer W.heap.size v.ownBlock v'.ownBlock := by
  obtain ⟨i0, hi0, hz0, hz1, hz2⟩ := info_parts trInfo
  obtain ⟨vs, ho, hv⟩ := h
  have hvl : vs.length = ts.length := by have := ho.1; rw [flatT_length] at this; omega
  have o0 := hp.now.1.one
  have o1 := hp.now.2.one
  obtain ⟨v', W', g1, g2, g3, g4⟩ := append_rows (P := Try.prog) (w := W) base 59 59 62 i0 _ 2 48 und59 hi0 hz0 hz1 hz2 rfl (by omega) v ts.length _ ho (.slice (some ⟨A, 0, none⟩) 1 1) 1 (fun _ j => if j = 0 then p.1 else p.2)
    ⟨some ⟨A, 0, none⟩, 1, rfl, by omega, by omega, fun _ => ⟨A, 0, rfl, fun q j hq hj => by
      have : q = 0 := by omega
      subst this
      have : j = 0 ∨ j = 1 := by omega
      rcases this with rfl | rfl
      · simpa using h0
      · simpa using h1⟩⟩ (fun _ j _ _ => by split <;> assumption) (by unfold maxLen; omega) (by omega) hbase
  have hnew : Newer W.heap.size v.ownBlock v'.ownBlock := by
    rcases g4 with e | e
    · exact .inl e
    · exact .inr ⟨_, e, Nat.le_refl _⟩
  refine ⟨v', W', g1, ⟨vs ++ [p], ?_, ?_⟩, g3, hnew⟩
  · have e2 : flatR 1 2 (fun _ j => if j = 0 then p.1 else p.2) = [p.1, p.2] := by simp [flatR, List.range_succ]
    rw [e2] at g2
    rw [List.length_append]
    have e3 : flatT (vs ++ [p]) = flatT vs ++ [p.1, p.2] := by simp [flatT]
    rw [e3]; exact g2
  · intro k q u hq hu
    rw [List.getElem?_append] at hq hu
    by_cases hk : k < vs.length
    · rw [if_pos hk] at hq
      rw [if_pos (by omega)] at hu
      exact (hv k q u hq hu).newer g3 hnew
    · rw [if_neg hk] at hq
      rw [if_neg (by omega)] at hu
      have hk0 : k - vs.length = 0 := by
        rcases Nat.eq_zero_or_pos (k - vs.length) with e | e
        · exact e
        · rw [List.getElem?_eq_none (by simp; omega)] at hq; cases hq
      rw [hk0] at hq
      rw [show k - ts.length = 0 by omega] at hu
      simp at hq hu
      subst hq; subst hu
      exact hp.newer g3 hnew
end Go.Proofs.Ytjmobepipfbbnaa

set_option linter.unusedSimpArgs false
set_option linter.unusedVariables false
namespace Go.Proofs.Ytjmobepipfbbnaa
open Go.RowKit Go.Shelf
def row1 (L : Nat → Bool) (u : Nat → Value) (rs : List Int) (who : Int) : Value × List Int := if L 7 then (u 56, rs ++ [who]) else if L 4 then (u 53, rs) else if L 1 then (u 50, []) else nilP
def one1 (L : Nat → Bool) (u : Nat → Value) (who : Int) : Value × List Int := if L 7 then nilP else if L 6 then (u 55, [who]) else nilP
def row2 (L : Nat → Bool) (u : Nat → Value) (hs : List Int) (h : Int) : Value × List Int := if L 14 then (u 63, hs ++ [h]) else if L 11 then (u 60, hs) else if L 8 then (u 57, []) else nilP
def one2 (L : Nat → Bool) (u : Nat → Value) (h : Int) : Value × List Int := if L 14 then nilP else if L 13 then (u 62, [h]) else nilP
structure TruG (X0 : World) (fv rv hv x : Value) (B : Nat) (who h : Int) (rs hs : List Int) (Po : Value → World → Prop) (L : Nat → Bool) (u : Nat → Value) (w : World) : Prop where
  z0 : L 0 = true → u 49 = fv
  z2 : L 2 = true → u 51 = .pointer (some ⟨B + 1, 0, none⟩)
  z3 : L 3 = true → u 52 = rv
  z5 : L 5 = true → u 54 = .int .i64 who
  z9 : L 9 = true → u 58 = .pointer (some ⟨B + 1, 1, none⟩)
  z10 : L 10 = true → u 59 = hv
  z12 : L 12 = true → u 61 = .int .i64 h
  z16 : L 16 = true → u 65 = x
  z15 : L 15 = true → u 64 = .agg #[u 56, u 63]
  rows : L 17 = false → Below X0.heap.size X0 w ∧ Four w X0.heap.size (row1 L u rs who) (one1 L u who) (row2 L u hs h) (one2 L u h)
  call : L 17 = true → Po (u 66) w
  s2 : L 18 = false → u 2 = x
  s3 : L 18 = true → u 2 = u 66
section
variable {X0 : World} {fv rv hv x : Value} {B : Nat} {who h : Int} {rs hs : List Int} {Po : Value → World → Prop} {L : Nat → Bool} {u : Nat → Value} {w w' : World}
theorem truG_start (fv rv hv : Value) (B : Nat) (who h : Int) (rs hs : List Int) (Po : Value → World → Prop) (u : Nat → Value) (h2 : u 2 = x) (hb : Below X0.heap.size X0 w) : TruG X0 fv rv hv x B who h rs hs Po (fun _ => false) u w :=
  ⟨(fun e => by cases e), (fun e => by cases e), (fun e => by cases e), (fun e => by cases e), (fun e => by cases e), (fun e => by cases e), (fun e => by cases e), (fun e => by cases e), (fun e => by cases e), fun _ => ⟨hb, Four.nil w _⟩, (fun e => by cases e), fun _ => h2, (fun e => by cases e)⟩
theorem TruG.st0 (H : TruG X0 fv rv hv x B who h rs hs Po L u w) : TruG X0 fv rv hv x B who h rs hs Po (updL L 0) (putU u 49 (fv)) w :=
  ⟨fun _ => by simp [putU],
    fun e => by simpa [updL, putU] using H.z2 (by simpa [updL] using e),
    fun e => by simpa [updL, putU] using H.z3 (by simpa [updL] using e),
    fun e => by simpa [updL, putU] using H.z5 (by simpa [updL] using e),
    fun e => by simpa [updL, putU] using H.z9 (by simpa [updL] using e),
    fun e => by simpa [updL, putU] using H.z10 (by simpa [updL] using e),
    fun e => by simpa [updL, putU] using H.z12 (by simpa [updL] using e),
    fun e => by simpa [updL, putU] using H.z16 (by simpa [updL] using e),
    fun e => by simpa [updL, putU] using H.z15 (by simpa [updL] using e),
    fun e => (by have e1 : L 17 = false := (by simpa [updL] using e); have e2 := H.rows e1; simpa [row1, one1, row2, one2, updL, putU] using e2),
    fun e => by simpa [updL, putU] using H.call (by simpa [updL] using e),
    fun e => by simpa [updL, putU] using H.s2 (by simpa [updL] using e),
    fun e => by simpa [updL, putU] using H.s3 (by simpa [updL] using e)⟩
theorem TruG.st2 (H : TruG X0 fv rv hv x B who h rs hs Po L u w) : TruG X0 fv rv hv x B who h rs hs Po (updL L 2) (putU u 51 (.pointer (some ⟨B + 1, 0, none⟩))) w :=
  ⟨fun e => by simpa [updL, putU] using H.z0 (by simpa [updL] using e),
    fun _ => by simp [putU],
    fun e => by simpa [updL, putU] using H.z3 (by simpa [updL] using e),
    fun e => by simpa [updL, putU] using H.z5 (by simpa [updL] using e),
    fun e => by simpa [updL, putU] using H.z9 (by simpa [updL] using e),
    fun e => by simpa [updL, putU] using H.z10 (by simpa [updL] using e),
    fun e => by simpa [updL, putU] using H.z12 (by simpa [updL] using e),
    fun e => by simpa [updL, putU] using H.z16 (by simpa [updL] using e),
    fun e => by simpa [updL, putU] using H.z15 (by simpa [updL] using e),
    fun e => (by have e1 : L 17 = false := (by simpa [updL] using e); have e2 := H.rows e1; simpa [row1, one1, row2, one2, updL, putU] using e2),
    fun e => by simpa [updL, putU] using H.call (by simpa [updL] using e),
    fun e => by simpa [updL, putU] using H.s2 (by simpa [updL] using e),
    fun e => by simpa [updL, putU] using H.s3 (by simpa [updL] using e)⟩
theorem TruG.st3 (H : TruG X0 fv rv hv x B who h rs hs Po L u w) : TruG X0 fv rv hv x B who h rs hs Po (updL L 3) (putU u 52 (rv)) w :=
  ⟨fun e => by simpa [updL, putU] using H.z0 (by simpa [updL] using e),
    fun e => by simpa [updL, putU] using H.z2 (by simpa [updL] using e),
    fun _ => by simp [putU],
    fun e => by simpa [updL, putU] using H.z5 (by simpa [updL] using e),
    fun e => by simpa [updL, putU] using H.z9 (by simpa [updL] using e),
    fun e => by simpa [updL, putU] using H.z10 (by simpa [updL] using e),
    fun e => by simpa [updL, putU] using H.z12 (by simpa [updL] using e),
    fun e => by simpa [updL, putU] using H.z16 (by simpa [updL] using e),
    fun e => by simpa [updL, putU] using H.z15 (by simpa [updL] using e),
    fun e => (by have e1 : L 17 = false := (by simpa [updL] using e); have e2 := H.rows e1; simpa [row1, one1, row2, one2, updL, putU] using e2),
    fun e => by simpa [updL, putU] using H.call (by simpa [updL] using e),
    fun e => by simpa [updL, putU] using H.s2 (by simpa [updL] using e),
    fun e => by simpa [updL, putU] using H.s3 (by simpa [updL] using e)⟩
theorem TruG.st5 (H : TruG X0 fv rv hv x B who h rs hs Po L u w) : TruG X0 fv rv hv x B who h rs hs Po (updL L 5) (putU u 54 (.int .i64 who)) w :=
  ⟨fun e => by simpa [updL, putU] using H.z0 (by simpa [updL] using e),
    fun e => by simpa [updL, putU] using H.z2 (by simpa [updL] using e),
    fun e => by simpa [updL, putU] using H.z3 (by simpa [updL] using e),
    fun _ => by simp [putU],
    fun e => by simpa [updL, putU] using H.z9 (by simpa [updL] using e),
    fun e => by simpa [updL, putU] using H.z10 (by simpa [updL] using e),
    fun e => by simpa [updL, putU] using H.z12 (by simpa [updL] using e),
    fun e => by simpa [updL, putU] using H.z16 (by simpa [updL] using e),
    fun e => by simpa [updL, putU] using H.z15 (by simpa [updL] using e),
    fun e => (by have e1 : L 17 = false := (by simpa [updL] using e); have e2 := H.rows e1; simpa [row1, one1, row2, one2, updL, putU] using e2),
    fun e => by simpa [updL, putU] using H.call (by simpa [updL] using e),
    fun e => by simpa [updL, putU] using H.s2 (by simpa [updL] using e),
    fun e => by simpa [updL, putU] using H.s3 (by simpa [updL] using e)⟩
theorem TruG.st9 (H : TruG X0 fv rv hv x B who h rs hs Po L u w) : TruG X0 fv rv hv x B who h rs hs Po (updL L 9) (putU u 58 (.pointer (some ⟨B + 1, 1, none⟩))) w :=
  ⟨fun e => by simpa [updL, putU] using H.z0 (by simpa [updL] using e),
    fun e => by simpa [updL, putU] using H.z2 (by simpa [updL] using e),
    fun e => by simpa [updL, putU] using H.z3 (by simpa [updL] using e),
    fun e => by simpa [updL, putU] using H.z5 (by simpa [updL] using e),
    fun _ => by simp [putU],
    fun e => by simpa [updL, putU] using H.z10 (by simpa [updL] using e),
    fun e => by simpa [updL, putU] using H.z12 (by simpa [updL] using e),
    fun e => by simpa [updL, putU] using H.z16 (by simpa [updL] using e),
    fun e => by simpa [updL, putU] using H.z15 (by simpa [updL] using e),
    fun e => (by have e1 : L 17 = false := (by simpa [updL] using e); have e2 := H.rows e1; simpa [row1, one1, row2, one2, updL, putU] using e2),
    fun e => by simpa [updL, putU] using H.call (by simpa [updL] using e),
    fun e => by simpa [updL, putU] using H.s2 (by simpa [updL] using e),
    fun e => by simpa [updL, putU] using H.s3 (by simpa [updL] using e)⟩
theorem TruG.st10 (H : TruG X0 fv rv hv x B who h rs hs Po L u w) : TruG X0 fv rv hv x B who h rs hs Po (updL L 10) (putU u 59 (hv)) w :=
  ⟨fun e => by simpa [updL, putU] using H.z0 (by simpa [updL] using e),
    fun e => by simpa [updL, putU] using H.z2 (by simpa [updL] using e),
    fun e => by simpa [updL, putU] using H.z3 (by simpa [updL] using e),
    fun e => by simpa [updL, putU] using H.z5 (by simpa [updL] using e),
    fun e => by simpa [updL, putU] using H.z9 (by simpa [updL] using e),
    fun _ => by simp [putU],
    fun e => by simpa [updL, putU] using H.z12 (by simpa [updL] using e),
    fun e => by simpa [updL, putU] using H.z16 (by simpa [updL] using e),
    fun e => by simpa [updL, putU] using H.z15 (by simpa [updL] using e),
    fun e => (by have e1 : L 17 = false := (by simpa [updL] using e); have e2 := H.rows e1; simpa [row1, one1, row2, one2, updL, putU] using e2),
    fun e => by simpa [updL, putU] using H.call (by simpa [updL] using e),
    fun e => by simpa [updL, putU] using H.s2 (by simpa [updL] using e),
    fun e => by simpa [updL, putU] using H.s3 (by simpa [updL] using e)⟩
theorem TruG.st12 (H : TruG X0 fv rv hv x B who h rs hs Po L u w) : TruG X0 fv rv hv x B who h rs hs Po (updL L 12) (putU u 61 (.int .i64 h)) w :=
  ⟨fun e => by simpa [updL, putU] using H.z0 (by simpa [updL] using e),
    fun e => by simpa [updL, putU] using H.z2 (by simpa [updL] using e),
    fun e => by simpa [updL, putU] using H.z3 (by simpa [updL] using e),
    fun e => by simpa [updL, putU] using H.z5 (by simpa [updL] using e),
    fun e => by simpa [updL, putU] using H.z9 (by simpa [updL] using e),
    fun e => by simpa [updL, putU] using H.z10 (by simpa [updL] using e),
    fun _ => by simp [putU],
    fun e => by simpa [updL, putU] using H.z16 (by simpa [updL] using e),
    fun e => by simpa [updL, putU] using H.z15 (by simpa [updL] using e),
    fun e => (by have e1 : L 17 = false := (by simpa [updL] using e); have e2 := H.rows e1; simpa [row1, one1, row2, one2, updL, putU] using e2),
    fun e => by simpa [updL, putU] using H.call (by simpa [updL] using e),
    fun e => by simpa [updL, putU] using H.s2 (by simpa [updL] using e),
    fun e => by simpa [updL, putU] using H.s3 (by simpa [updL] using e)⟩
theorem TruG.st16 (H : TruG X0 fv rv hv x B who h rs hs Po L u w) : TruG X0 fv rv hv x B who h rs hs Po (updL L 16) (putU u 65 (x)) w :=
  ⟨fun e => by simpa [updL, putU] using H.z0 (by simpa [updL] using e),
    fun e => by simpa [updL, putU] using H.z2 (by simpa [updL] using e),
    fun e => by simpa [updL, putU] using H.z3 (by simpa [updL] using e),
    fun e => by simpa [updL, putU] using H.z5 (by simpa [updL] using e),
    fun e => by simpa [updL, putU] using H.z9 (by simpa [updL] using e),
    fun e => by simpa [updL, putU] using H.z10 (by simpa [updL] using e),
    fun e => by simpa [updL, putU] using H.z12 (by simpa [updL] using e),
    fun _ => by simp [putU],
    fun e => by simpa [updL, putU] using H.z15 (by simpa [updL] using e),
    fun e => (by have e1 : L 17 = false := (by simpa [updL] using e); have e2 := H.rows e1; simpa [row1, one1, row2, one2, updL, putU] using e2),
    fun e => by simpa [updL, putU] using H.call (by simpa [updL] using e),
    fun e => by simpa [updL, putU] using H.s2 (by simpa [updL] using e),
    fun e => by simpa [updL, putU] using H.s3 (by simpa [updL] using e)⟩
theorem TruG.st15 (H : TruG X0 fv rv hv x B who h rs hs Po L u w) : TruG X0 fv rv hv x B who h rs hs Po (updL L 15) (putU u 64 (.agg #[u 56, u 63])) w :=
  ⟨fun e => by simpa [updL, putU] using H.z0 (by simpa [updL] using e),
    fun e => by simpa [updL, putU] using H.z2 (by simpa [updL] using e),
    fun e => by simpa [updL, putU] using H.z3 (by simpa [updL] using e),
    fun e => by simpa [updL, putU] using H.z5 (by simpa [updL] using e),
    fun e => by simpa [updL, putU] using H.z9 (by simpa [updL] using e),
    fun e => by simpa [updL, putU] using H.z10 (by simpa [updL] using e),
    fun e => by simpa [updL, putU] using H.z12 (by simpa [updL] using e),
    fun e => by simpa [updL, putU] using H.z16 (by simpa [updL] using e),
    fun _ => by simp [putU],
    fun e => (by have e1 : L 17 = false := (by simpa [updL] using e); have e2 := H.rows e1; simpa [row1, one1, row2, one2, updL, putU] using e2),
    fun e => by simpa [updL, putU] using H.call (by simpa [updL] using e),
    fun e => by simpa [updL, putU] using H.s2 (by simpa [updL] using e),
    fun e => by simpa [updL, putU] using H.s3 (by simpa [updL] using e)⟩
/-- The row that is listed is not yet laid behind another one. -/
theorem four_swap12 {w : World} {b : Nat} {p q r s : Value × List Int} (h : Four w b p q r s) : Four w b q p r s := ⟨h.oq, h.op, h.or, h.os, h.pq.symm, h.qr, h.qs, h.pr, h.ps, h.rs⟩
theorem TruG.st1 (H : TruG X0 fv rv hv x B who h rs hs Po L u w) (h4 : L 4 = false) (h7 : L 7 = false) (h1 : L 1 = false) (h15 : L 15 = false) (h17 : L 17 = false) {v : Value} (hb' : Below w.heap.size w w') (ho : w'.ownsRow X0.heap.size 3 1 v 0 (intV [])) (hvb : v.ownBlock = some w.heap.size) : TruG X0 fv rv hv x B who h rs hs Po (updL L 1) (putU u 50 v) w' := by
  obtain ⟨hb, hf⟩ := H.rows h17
  refine ⟨fun e => by simpa [updL, putU] using H.z0 (by simpa [updL] using e),
    fun e => by simpa [updL, putU] using H.z2 (by simpa [updL] using e),
    fun e => by simpa [updL, putU] using H.z3 (by simpa [updL] using e),
    fun e => by simpa [updL, putU] using H.z5 (by simpa [updL] using e),
    fun e => by simpa [updL, putU] using H.z9 (by simpa [updL] using e),
    fun e => by simpa [updL, putU] using H.z10 (by simpa [updL] using e),
    fun e => by simpa [updL, putU] using H.z12 (by simpa [updL] using e),
    fun e => by simpa [updL, putU] using H.z16 (by simpa [updL] using e),
    fun e => by simp [updL, h15] at e,
    fun e => ?_,
    fun e => by simp [updL, h17] at e,
    fun e => by simpa [updL, putU] using H.s2 (by simpa [updL] using e),
    fun e => by simpa [updL, putU] using H.s3 (by simpa [updL] using e)⟩
  have hf : Four w X0.heap.size nilP (one1 L u who) (row2 L u hs h) (one2 L u h) := by simpa [row1, one1, row2, one2, updL, putU, h4, h7, h1] using hf
  have h1 := hf.fresh (l := []) hb' ho hvb
  exact ⟨hb.trans (hb'.mono hb.size), by simpa [row1, one1, row2, one2, updL, putU, h4, h7, h1] using h1⟩
theorem TruG.st6 (H : TruG X0 fv rv hv x B who h rs hs Po L u w) (h7 : L 7 = false) (h6 : L 6 = false) (h15 : L 15 = false) (h17 : L 17 = false) {v : Value} (hb' : Below w.heap.size w w') (ho : w'.ownsRow X0.heap.size 3 1 v 1 (intV [who])) (hvb : v.ownBlock = some w.heap.size) : TruG X0 fv rv hv x B who h rs hs Po (updL L 6) (putU u 55 v) w' := by
  obtain ⟨hb, hf⟩ := H.rows h17
  refine ⟨fun e => by simpa [updL, putU] using H.z0 (by simpa [updL] using e),
    fun e => by simpa [updL, putU] using H.z2 (by simpa [updL] using e),
    fun e => by simpa [updL, putU] using H.z3 (by simpa [updL] using e),
    fun e => by simpa [updL, putU] using H.z5 (by simpa [updL] using e),
    fun e => by simpa [updL, putU] using H.z9 (by simpa [updL] using e),
    fun e => by simpa [updL, putU] using H.z10 (by simpa [updL] using e),
    fun e => by simpa [updL, putU] using H.z12 (by simpa [updL] using e),
    fun e => by simpa [updL, putU] using H.z16 (by simpa [updL] using e),
    fun e => by simp [updL, h15] at e,
    fun e => ?_,
    fun e => by simp [updL, h17] at e,
    fun e => by simpa [updL, putU] using H.s2 (by simpa [updL] using e),
    fun e => by simpa [updL, putU] using H.s3 (by simpa [updL] using e)⟩
  have hf : Four w X0.heap.size (row1 L u rs who) nilP (row2 L u hs h) (one2 L u h) := by simpa [row1, one1, row2, one2, updL, putU, h7, h6] using hf
  have h1 := four_swap12 ((four_swap12 hf).fresh (l := [who]) hb' ho hvb)
  exact ⟨hb.trans (hb'.mono hb.size), by simpa [row1, one1, row2, one2, updL, putU, h7, h6] using h1⟩
theorem TruG.st8 (H : TruG X0 fv rv hv x B who h rs hs Po L u w) (h11 : L 11 = false) (h14 : L 14 = false) (h8 : L 8 = false) (h15 : L 15 = false) (h17 : L 17 = false) {v : Value} (hb' : Below w.heap.size w w') (ho : w'.ownsRow X0.heap.size 3 1 v 0 (intV [])) (hvb : v.ownBlock = some w.heap.size) : TruG X0 fv rv hv x B who h rs hs Po (updL L 8) (putU u 57 v) w' := by
  obtain ⟨hb, hf⟩ := H.rows h17
  refine ⟨fun e => by simpa [updL, putU] using H.z0 (by simpa [updL] using e),
    fun e => by simpa [updL, putU] using H.z2 (by simpa [updL] using e),
    fun e => by simpa [updL, putU] using H.z3 (by simpa [updL] using e),
    fun e => by simpa [updL, putU] using H.z5 (by simpa [updL] using e),
    fun e => by simpa [updL, putU] using H.z9 (by simpa [updL] using e),
    fun e => by simpa [updL, putU] using H.z10 (by simpa [updL] using e),
    fun e => by simpa [updL, putU] using H.z12 (by simpa [updL] using e),
    fun e => by simpa [updL, putU] using H.z16 (by simpa [updL] using e),
    fun e => by simp [updL, h15] at e,
    fun e => ?_,
    fun e => by simp [updL, h17] at e,
    fun e => by simpa [updL, putU] using H.s2 (by simpa [updL] using e),
    fun e => by simpa [updL, putU] using H.s3 (by simpa [updL] using e)⟩
  have hf : Four w X0.heap.size (row1 L u rs who) (one1 L u who) nilP (one2 L u h) := by simpa [row1, one1, row2, one2, updL, putU, h11, h14, h8] using hf
  have h1 := (hf.rot.rot.fresh (l := []) hb' ho hvb).rot.rot
  exact ⟨hb.trans (hb'.mono hb.size), by simpa [row1, one1, row2, one2, updL, putU, h11, h14, h8] using h1⟩
theorem TruG.st13 (H : TruG X0 fv rv hv x B who h rs hs Po L u w) (h14 : L 14 = false) (h13 : L 13 = false) (h15 : L 15 = false) (h17 : L 17 = false) {v : Value} (hb' : Below w.heap.size w w') (ho : w'.ownsRow X0.heap.size 3 1 v 1 (intV [h])) (hvb : v.ownBlock = some w.heap.size) : TruG X0 fv rv hv x B who h rs hs Po (updL L 13) (putU u 62 v) w' := by
  obtain ⟨hb, hf⟩ := H.rows h17
  refine ⟨fun e => by simpa [updL, putU] using H.z0 (by simpa [updL] using e),
    fun e => by simpa [updL, putU] using H.z2 (by simpa [updL] using e),
    fun e => by simpa [updL, putU] using H.z3 (by simpa [updL] using e),
    fun e => by simpa [updL, putU] using H.z5 (by simpa [updL] using e),
    fun e => by simpa [updL, putU] using H.z9 (by simpa [updL] using e),
    fun e => by simpa [updL, putU] using H.z10 (by simpa [updL] using e),
    fun e => by simpa [updL, putU] using H.z12 (by simpa [updL] using e),
    fun e => by simpa [updL, putU] using H.z16 (by simpa [updL] using e),
    fun e => by simp [updL, h15] at e,
    fun e => ?_,
    fun e => by simp [updL, h17] at e,
    fun e => by simpa [updL, putU] using H.s2 (by simpa [updL] using e),
    fun e => by simpa [updL, putU] using H.s3 (by simpa [updL] using e)⟩
  have hf : Four w X0.heap.size (row1 L u rs who) (one1 L u who) (row2 L u hs h) nilP := by simpa [row1, one1, row2, one2, updL, putU, h14, h13] using hf
  have h1 := (hf.rot.rot.rot.fresh (l := [h]) hb' ho hvb).rot
  exact ⟨hb.trans (hb'.mono hb.size), by simpa [row1, one1, row2, one2, updL, putU, h14, h13] using h1⟩
theorem TruG.st4 (H : TruG X0 fv rv hv x B who h rs hs Po L u w) (h7 : L 7 = false) (h15 : L 15 = false) (h17 : L 17 = false) {v : Value} (hb' : Below X0.heap.size X0 w') (hf' : Four w' X0.heap.size (v, rs) (one1 L u who) (row2 L u hs h) (one2 L u h)) : TruG X0 fv rv hv x B who h rs hs Po (updL L 4) (putU u 53 v) w' := by
  obtain ⟨hb, hf⟩ := H.rows h17
  refine ⟨fun e => by simpa [updL, putU] using H.z0 (by simpa [updL] using e),
    fun e => by simpa [updL, putU] using H.z2 (by simpa [updL] using e),
    fun e => by simpa [updL, putU] using H.z3 (by simpa [updL] using e),
    fun e => by simpa [updL, putU] using H.z5 (by simpa [updL] using e),
    fun e => by simpa [updL, putU] using H.z9 (by simpa [updL] using e),
    fun e => by simpa [updL, putU] using H.z10 (by simpa [updL] using e),
    fun e => by simpa [updL, putU] using H.z12 (by simpa [updL] using e),
    fun e => by simpa [updL, putU] using H.z16 (by simpa [updL] using e),
    fun e => by simp [updL, h15] at e,
    fun e => ?_,
    fun e => by simp [updL, h17] at e,
    fun e => by simpa [updL, putU] using H.s2 (by simpa [updL] using e),
    fun e => by simpa [updL, putU] using H.s3 (by simpa [updL] using e)⟩
  exact ⟨hb', by simpa [row1, one1, row2, one2, updL, putU, h7] using hf'⟩
theorem TruG.st7 (H : TruG X0 fv rv hv x B who h rs hs Po L u w)  (h15 : L 15 = false) (h17 : L 17 = false) {v : Value} (hb' : Below X0.heap.size X0 w') (hf' : Four w' X0.heap.size (v, rs ++ [who]) nilP (row2 L u hs h) (one2 L u h)) : TruG X0 fv rv hv x B who h rs hs Po (updL L 7) (putU u 56 v) w' := by
  obtain ⟨hb, hf⟩ := H.rows h17
  refine ⟨fun e => by simpa [updL, putU] using H.z0 (by simpa [updL] using e),
    fun e => by simpa [updL, putU] using H.z2 (by simpa [updL] using e),
    fun e => by simpa [updL, putU] using H.z3 (by simpa [updL] using e),
    fun e => by simpa [updL, putU] using H.z5 (by simpa [updL] using e),
    fun e => by simpa [updL, putU] using H.z9 (by simpa [updL] using e),
    fun e => by simpa [updL, putU] using H.z10 (by simpa [updL] using e),
    fun e => by simpa [updL, putU] using H.z12 (by simpa [updL] using e),
    fun e => by simpa [updL, putU] using H.z16 (by simpa [updL] using e),
    fun e => by simp [updL, h15] at e,
    fun e => ?_,
    fun e => by simp [updL, h17] at e,
    fun e => by simpa [updL, putU] using H.s2 (by simpa [updL] using e),
    fun e => by simpa [updL, putU] using H.s3 (by simpa [updL] using e)⟩
  exact ⟨hb', by simpa [row1, one1, row2, one2, updL, putU, ] using hf'⟩
theorem TruG.st11 (H : TruG X0 fv rv hv x B who h rs hs Po L u w) (h14 : L 14 = false) (h15 : L 15 = false) (h17 : L 17 = false) {v : Value} (hb' : Below X0.heap.size X0 w') (hf' : Four w' X0.heap.size (row1 L u rs who) (one1 L u who) (v, hs) (one2 L u h)) : TruG X0 fv rv hv x B who h rs hs Po (updL L 11) (putU u 60 v) w' := by
  obtain ⟨hb, hf⟩ := H.rows h17
  refine ⟨fun e => by simpa [updL, putU] using H.z0 (by simpa [updL] using e),
    fun e => by simpa [updL, putU] using H.z2 (by simpa [updL] using e),
    fun e => by simpa [updL, putU] using H.z3 (by simpa [updL] using e),
    fun e => by simpa [updL, putU] using H.z5 (by simpa [updL] using e),
    fun e => by simpa [updL, putU] using H.z9 (by simpa [updL] using e),
    fun e => by simpa [updL, putU] using H.z10 (by simpa [updL] using e),
    fun e => by simpa [updL, putU] using H.z12 (by simpa [updL] using e),
    fun e => by simpa [updL, putU] using H.z16 (by simpa [updL] using e),
    fun e => by simp [updL, h15] at e,
    fun e => ?_,
    fun e => by simp [updL, h17] at e,
    fun e => by simpa [updL, putU] using H.s2 (by simpa [updL] using e),
    fun e => by simpa [updL, putU] using H.s3 (by simpa [updL] using e)⟩
  exact ⟨hb', by simpa [row1, one1, row2, one2, updL, putU, h14] using hf'⟩
theorem TruG.st14 (H : TruG X0 fv rv hv x B who h rs hs Po L u w)  (h15 : L 15 = false) (h17 : L 17 = false) {v : Value} (hb' : Below X0.heap.size X0 w') (hf' : Four w' X0.heap.size (row1 L u rs who) (one1 L u who) (v, hs ++ [h]) nilP) : TruG X0 fv rv hv x B who h rs hs Po (updL L 14) (putU u 63 v) w' := by
  obtain ⟨hb, hf⟩ := H.rows h17
  refine ⟨fun e => by simpa [updL, putU] using H.z0 (by simpa [updL] using e),
    fun e => by simpa [updL, putU] using H.z2 (by simpa [updL] using e),
    fun e => by simpa [updL, putU] using H.z3 (by simpa [updL] using e),
    fun e => by simpa [updL, putU] using H.z5 (by simpa [updL] using e),
    fun e => by simpa [updL, putU] using H.z9 (by simpa [updL] using e),
    fun e => by simpa [updL, putU] using H.z10 (by simpa [updL] using e),
    fun e => by simpa [updL, putU] using H.z12 (by simpa [updL] using e),
    fun e => by simpa [updL, putU] using H.z16 (by simpa [updL] using e),
    fun e => by simp [updL, h15] at e,
    fun e => ?_,
    fun e => by simp [updL, h17] at e,
    fun e => by simpa [updL, putU] using H.s2 (by simpa [updL] using e),
    fun e => by simpa [updL, putU] using H.s3 (by simpa [updL] using e)⟩
  exact ⟨hb', by simpa [row1, one1, row2, one2, updL, putU, ] using hf'⟩
theorem TruG.st17 (H : TruG X0 fv rv hv x B who h rs hs Po L u w) (h18 : L 18 = false) {v : Value} (hp : Po v w') : TruG X0 fv rv hv x B who h rs hs Po (updL L 17) (putU u 66 v) w' :=
  ⟨fun e => by simpa [updL, putU] using H.z0 (by simpa [updL] using e),
    fun e => by simpa [updL, putU] using H.z2 (by simpa [updL] using e),
    fun e => by simpa [updL, putU] using H.z3 (by simpa [updL] using e),
    fun e => by simpa [updL, putU] using H.z5 (by simpa [updL] using e),
    fun e => by simpa [updL, putU] using H.z9 (by simpa [updL] using e),
    fun e => by simpa [updL, putU] using H.z10 (by simpa [updL] using e),
    fun e => by simpa [updL, putU] using H.z12 (by simpa [updL] using e),
    fun e => by simpa [updL, putU] using H.z16 (by simpa [updL] using e),
    fun e => by simpa [updL, putU] using H.z15 (by simpa [updL] using e),
    fun e => by simp [updL] at e,
    fun _ => by simpa [putU] using hp,
    fun e => by simpa [updL, putU] using H.s2 (by simpa [updL] using e),
    fun e => by simp [updL, h18] at e⟩
theorem TruG.st18 (H : TruG X0 fv rv hv x B who h rs hs Po L u w) : TruG X0 fv rv hv x B who h rs hs Po (updL L 18) (putU u 2 (u 66)) w :=
  ⟨fun e => by simpa [updL, putU] using H.z0 (by simpa [updL] using e),
    fun e => by simpa [updL, putU] using H.z2 (by simpa [updL] using e),
    fun e => by simpa [updL, putU] using H.z3 (by simpa [updL] using e),
    fun e => by simpa [updL, putU] using H.z5 (by simpa [updL] using e),
    fun e => by simpa [updL, putU] using H.z9 (by simpa [updL] using e),
    fun e => by simpa [updL, putU] using H.z10 (by simpa [updL] using e),
    fun e => by simpa [updL, putU] using H.z12 (by simpa [updL] using e),
    fun e => by simpa [updL, putU] using H.z16 (by simpa [updL] using e),
    fun e => by simpa [updL, putU] using H.z15 (by simpa [updL] using e),
    fun e => (by have e1 : L 17 = false := (by simpa [updL] using e); have e2 := H.rows e1; simpa [row1, one1, row2, one2, updL, putU] using e2),
    fun e => by simpa [updL, putU] using H.call (by simpa [updL] using e),
    fun e => by simp [updL] at e,
    fun _ => by simp [putU]⟩
/-- The two rows, read, whatever is done to an old block. -/
theorem trV_of_four {b : Option Nat} {n : Nat} {p q r s : Value × List Int} (h : Four w n p q r s) (hx : ∀ k, b = some k → k < n) : TrV b w (p.1, r.1) (p.2, r.2) := fun w' hg => by
  have key : ∀ {y : Value × List Int}, w.ownsRow n 3 1 y.1 y.2.length (intV y.2) → IsInts w' y.1 y.2 := fun {y} ho => by
    refine ints_of_own (ho.kept hg ?_)
    cases hb : b with
    | none =>
      cases hy : y.1.ownBlock
      · exact .inl rfl
      · exact .inr (by simp)
    | some k =>
      refine .inr fun e => ?_
      have := (ho.lt k e).1
      have := hx k hb
      omega
  exact ⟨key h.op, key h.or⟩
end
end Go.Proofs.Ytjmobepipfbbnaa

set_option linter.unusedSimpArgs false
set_option linter.unusedVariables false
namespace Go.Proofs.Ytjmobepipfbbnaa
def goT (nr : Nat) : List Off → List Int → List Int → List (List Int × List Int)
  | [], rs, hs => [(rs, hs)]
  | o :: t, rs, hs => (List.range nr).flatMap fun who => if o.riders.toNat.testBit who then (List.range (o.hi - o.lo + 1).toNat).flatMap fun h => goT nr t (rs ++ [((who : Nat) : Int)]) (hs ++ [o.lo + ((h : Nat) : Int)]) else []
def hourT (nr : Nat) (t : List Off) (o : Off) (rs hs : List Int) (who h : Nat) : List (List Int × List Int) := goT nr t (rs ++ [((who : Nat) : Int)]) (hs ++ [o.lo + ((h : Nat) : Int)])
def hoursT (nr : Nat) (t : List Off) (o : Off) (rs hs : List Int) (who q : Nat) : List (List Int × List Int) := (List.range q).flatMap (hourT nr t o rs hs who)
def whoT (nr : Nat) (t : List Off) (o : Off) (rs hs : List Int) (who : Nat) : List (List Int × List Int) := if o.riders.toNat.testBit who then hoursT nr t o rs hs who (o.hi - o.lo + 1).toNat else []
def whosT (nr : Nat) (t : List Off) (o : Off) (rs hs : List Int) (k : Nat) : List (List Int × List Int) := (List.range k).flatMap (whoT nr t o rs hs)
theorem goT_cons (nr : Nat) (o : Off) (t : List Off) (rs hs : List Int) : goT nr (o :: t) rs hs = whosT nr t o rs hs nr := rfl
theorem flatMap_succ {α : Type} (f : Nat → List α) (k : Nat) : (List.range (k + 1)).flatMap f = (List.range k).flatMap f ++ f k := by
  rw [List.range_succ, List.flatMap_append]; simp
theorem flatMap_cong {α β : Type} {f g : α → List β} : ∀ {l : List α}, (∀ a, a ∈ l → f a = g a) → l.flatMap f = l.flatMap g
  | [], _ => rfl
  | x :: t, h => by rw [List.flatMap_cons, List.flatMap_cons, h x (by simp), flatMap_cong fun a ha => h a (by simp [ha])]
theorem flatMap_zero {α : Type} (f : Nat → List α) : (List.range 0).flatMap f = [] := rfl
theorem flatMap_len {α : Type} (f : Nat → List α) {k n : Nat} (h : k < n) : ((List.range k).flatMap f).length + (f k).length ≤ ((List.range n).flatMap f).length := by
  induction n with
  | zero => omega
  | succ n ih =>
    rw [flatMap_succ, List.length_append]
    by_cases e : k = n
    · subst e; omega
    · have := ih (by omega); omega
theorem flatMap_le {α : Type} (f : Nat → List α) (n c : Nat) (h : ∀ k, k < n → (f k).length ≤ c) : ((List.range n).flatMap f).length ≤ n * c := by
  induction n with
  | zero => simp
  | succ n ih =>
    rw [flatMap_succ, List.length_append, Nat.add_mul, Nat.one_mul]
    have := ih (fun k hk => h k (by omega))
    have := h n (by omega)
    omega
theorem whosT_succ (nr : Nat) (t : List Off) (o : Off) (rs hs : List Int) (k : Nat) : whosT nr t o rs hs (k + 1) = whosT nr t o rs hs k ++ whoT nr t o rs hs k := flatMap_succ _ _
theorem hoursT_succ (nr : Nat) (t : List Off) (o : Off) (rs hs : List Int) (who q : Nat) : hoursT nr t o rs hs who (q + 1) = hoursT nr t o rs hs who q ++ hourT nr t o rs hs who q := flatMap_succ _ _
theorem goT_len {nr : Nat} (h6 : nr ≤ 6) : ∀ (offs : List Off) (rs hs : List Int), (∀ o ∈ offs, o.hi - o.lo ≤ 2) → (goT nr offs rs hs).length ≤ 18 ^ offs.length
  | [], rs, hs, _ => by simp [goT]
  | o :: t, rs, hs, h => by
    have ho := h o (by simp)
    have h1 : (goT nr (o :: t) rs hs).length ≤ nr * (3 * 18 ^ t.length) := by
      unfold goT
      refine flatMap_le _ _ _ fun who _ => ?_
      split
      · refine Nat.le_trans (flatMap_le _ _ (18 ^ t.length) fun q _ => ?_) (Nat.mul_le_mul_right _ (by omega))
        exact goT_len h6 t _ _ fun o' ho' => h o' (by simp [ho'])
      · simp
    have h2 : nr * (3 * 18 ^ t.length) ≤ 6 * (3 * 18 ^ t.length) := Nat.mul_le_mul_right _ h6
    rw [List.length_cons, Nat.pow_succ]; omega
theorem pow18 {n : Nat} (h : n ≤ 5) : 18 ^ n ≤ 1889568 := Nat.le_trans (Nat.pow_le_pow_right (by omega) h) (by decide)
/-- The same as the plain list of truths. -/
theorem goT_truths {nr : Nat} (h6 : nr ≤ 6) : ∀ (offs : List Off) (i : Int) (rs hs : List Int), goT nr offs rs hs = (truthL nr i offs).map fun t => (rs ++ t.map Kn.rider, hs ++ t.map Kn.hour)
  | [], i, rs, hs => by simp [goT, truthL]
  | o :: t, i, rs, hs => by
    have e1 : truthL nr i (o :: t) = (whoK nr 63 i o).flatMap fun k => (truthL nr (i + 1) t).map (k :: ·) := by rw [truthL]
    rw [e1]
    unfold goT whoK
    rw [List.flatMap_assoc, List.map_flatMap]
    refine flatMap_cong fun who hw => ?_
    rw [List.mem_range] at hw
    rw [bit63 (by omega), Bool.and_true]
    by_cases hb : o.riders.toNat.testBit who = true
    · rw [if_pos hb, if_pos hb]
      unfold hoursK
      rw [List.flatMap_map, List.map_flatMap]
      refine flatMap_cong fun h _ => ?_
      rw [goT_truths h6 t (i + 1), List.map_map]
      refine List.map_congr_left fun l _ => ?_
      simp
    · rw [if_neg hb, if_neg hb]; rfl
end Go.Proofs.Ytjmobepipfbbnaa
