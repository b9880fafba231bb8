import Derived.Test.YtjmobepipfbbnaaCosts
/- choices of package fine: what is laid for each choice. -/
set_option linter.unusedSimpArgs false
set_option linter.unusedVariables false
namespace Go.Proofs.Ytjmobepipfbbnaa
open Go.RowKit Go.Shelf
/-- Cells outside some blocks are kept. -/
def KpI (lo hi : Nat) (W W' : World) : Prop := W.heap.size ≤ W'.heap.size ∧ ∀ (k : Nat) (o : Obj), W.heap[k]? = some o → o.isCells = true → (k < lo ∨ hi ≤ k) → W'.heap[k]? = some o
theorem KpI.refl (lo hi : Nat) (W : World) : KpI lo hi W W := ⟨Nat.le_refl _, fun _ _ h _ _ => h⟩
theorem KpI.trans {lo hi : Nat} {A B C : World} (h : KpI lo hi A B) (k : KpI lo hi B C) : KpI lo hi A C := ⟨Nat.le_trans h.1 k.1, fun i o hi hc ho => k.2 i o (h.2 i o hi hc ho) hc ho⟩
theorem KpI.putObj {lo hi : Nat} (W : World) {l : Nat} {o o' : Obj} (h : W.heap[l]? = some o) (hc : o.isCells = false) : KpI lo hi W (W.putObj l o') :=
  ⟨by simp [World.putObj], fun k p hk hp _ => (World.putObj_heap_other (fun e => by subst e; rw [h] at hk; cases hk; rw [hc] at hp; cases hp)).trans hk⟩
theorem KpI.below {lo hi : Nat} {W W' : World} (h : Below W.heap.size W W') : KpI lo hi W W' := ⟨h.size, fun k o hk _ _ => (h.block k (Array.getElem?_eq_some_iff.1 hk).1).trans hk⟩
theorem KpI.cell {lo hi : Nat} {W W' : World} (h : KpI lo hi W W') {b o : Nat} {v : Value} (hv : W.cell? ⟨b, o, none⟩ = some v) (hb : b < lo ∨ hi ≤ b) : W'.cell? ⟨b, o, none⟩ = some v := by
  obtain ⟨p, hp, hc⟩ := cells_of_cell hv
  rw [World.cell?_of_block (a := ⟨b, o, none⟩) ((h.2 b p hp hc hb).trans hp.symm)]; exact hv
theorem KpI.rows {lo hi : Nat} {W W' : World} (h : KpI lo hi W W') {v : Value} {n sz : Nat} {row : Nat → Nat → Value} (hr : IsRows W v n sz row) (hb : 0 < n → ∀ a m c, v = .slice (some a) m c → a.block < lo ∨ hi ≤ a.block) : IsRows W' v n sz row := by
  obtain ⟨a, c, e1, e2, e3, e4⟩ := hr
  refine ⟨a, c, e1, e2, e3, fun hp => ?_⟩
  obtain ⟨b, off, e5, e6⟩ := e4 hp
  exact ⟨b, off, e5, fun k j hk hj => h.cell (e6 k j hk hj) (hb hp _ _ _ (by rw [e1, e5]))⟩
/-- What was chosen so far: nothing, or a row in a block from some one on. -/
def AccAt (W : World) (hi : Nat) (lv : Value) (acc : List Kn) : Prop := (acc = [] ∧ lv = .slice none 0 0) ∨ (acc ≠ [] ∧ ∃ b c, lv = .slice (some ⟨b, 0, none⟩) acc.length c ∧ acc.length ≤ c ∧ c ≤ 9223372036854775807 ∧ hi ≤ b ∧ ∀ k j, k < acc.length → j < 4 → W.cell? ⟨b, k * 4 + j, none⟩ = some (.int .i64 (cKn (acc.getD k ⟨0, 0, 0, 0⟩) j)))
theorem AccAt.kns {W : World} {hi : Nat} {lv : Value} {acc : List Kn} (h : AccAt W hi lv acc) : IsKns W lv acc := by
  rcases h with ⟨rfl, rfl⟩ | ⟨hne, b, c, rfl, hc, hm, hb, hr⟩
  · exact ⟨none, 0, rfl, by simp, by omega, fun h => by simp at h⟩
  · exact ⟨_, c, rfl, hc, hm, fun _ => ⟨b, 0, rfl, fun k j hk hj => by rw [Nat.zero_add]; exact hr k j hk hj⟩⟩
theorem AccAt.kept {lo hi : Nat} {W W' : World} {lv : Value} {acc : List Kn} (h : AccAt W hi lv acc) (hk : KpI lo hi W W') : AccAt W' hi lv acc := by
  rcases h with h | ⟨hne, b, c, e, hc, hm, hb, hr⟩
  · exact .inl h
  · exact .inr ⟨hne, b, c, e, hc, hm, hb, fun k j hk' hj => hk.cell (hr k j hk' hj) (.inr hb)⟩
theorem knInfo : (Try.prog.info? 103).map (fun i => (i.zero, i.size, i.bytes)) = some (some (.agg #[.int .i64 0, .int .i64 0, .int .i64 0, .int .i64 0]), 4, 32) := by kernel_rfl
theorem und101 : Try.prog.underlying 101 = some (.slice 103) := by kernel_rfl
def rowK (l : List Kn) (k j : Nat) : Value := .int .i64 (cKn (l.getD k ⟨0, 0, 0, 0⟩) j)
theorem flatK_snoc (l : List Kn) (a : Kn) : flatR l.length 4 (rowK l) ++ [.int .i64 (cKn a 0), .int .i64 (cKn a 1), .int .i64 (cKn a 2), .int .i64 (cKn a 3)] = flatR (l.length + 1) 4 (rowK (l ++ [a])) := by
  have h1 : flatR (l.length + 1) 4 (rowK (l ++ [a])) = flatR l.length 4 (rowK (l ++ [a])) ++ [rowK (l ++ [a]) l.length 0, rowK (l ++ [a]) l.length 1, rowK (l ++ [a]) l.length 2, rowK (l ++ [a]) l.length 3] := by
    have e : (l.length + 1) * 4 = l.length * 4 + 1 + 1 + 1 + 1 := by omega
    unfold flatR
    rw [e, List.range_succ, List.range_succ, List.range_succ, List.range_succ]
    have d0 : l.length * 4 / 4 = l.length := by omega
    have d1 : l.length * 4 % 4 = 0 := by omega
    have d2 : (l.length * 4 + 1) / 4 = l.length := by omega
    have d3 : (l.length * 4 + 1) % 4 = 1 := by omega
    have d4 : (l.length * 4 + 1 + 1) / 4 = l.length := by omega
    have d5 : (l.length * 4 + 1 + 1) % 4 = 2 := by omega
    have d6 : (l.length * 4 + 1 + 1 + 1) / 4 = l.length := by omega
    have d7 : (l.length * 4 + 1 + 1 + 1) % 4 = 3 := by omega
    simp [d0, d1, d2, d3, d4, d5, d6, d7]
  rw [h1]
  congr 1
  · exact flatR_congr (by omega) fun k j hk hj => by unfold rowK; simp [List.getD, List.getElem?_append, hk]
  · simp [rowK]
/-- A row laid anew, read. -/
theorem new_row {W : World} {l : List Kn} {pad : Array Value} {t : TypeId} {k j : Nat} (hk : k < l.length) (hj : j < 4) : (W.alloc (.cells ((flatR l.length 4 (rowK l)).toArray ++ pad) t)).cell? ⟨W.heap.size, k * 4 + j, none⟩ = some (.int .i64 (cKn (l.getD k ⟨0, 0, 0, 0⟩) j)) := by
  have h := flatR_get (row := rowK l) hk hj
  refine cellN rfl ?_
  rw [Array.getElem?_append_left (by have := (List.getElem?_eq_some_iff.1 h).1; simpa using this)]
  simpa [rowK] using h
/-- A slice without spare room. -/
def clipV : Value → Value
  | .slice a n _ => .slice a n n
  | v => v
/-- One more is chosen: a new row. -/
theorem append_kn {W : World} {hi : Nat} {lv : Value} {acc : List Kn} (h : AccAt W hi lv acc) (h5 : acc.length < 5) (hW : hi ≤ W.heap.size) (lc : Value) (hlc : lc = clipV lv) (k : Kn) (A : Nat)
    (hA : ∀ j, j < 4 → W.cell? ⟨A, j, none⟩ = some (.int .i64 (cKn k j))) :
    ∃ v' W', (Builtin.append_ #[101, 101] 101 #[lc, .slice (some ⟨A, 0, none⟩) 1 1]).run Try.prog W = .ok v' W' ∧ AccAt W' hi v' (acc ++ [k]) ∧ Below W.heap.size W W' := by
  obtain ⟨i0, hi0, hz0, hz1, hz2⟩ := info_parts knInfo
  have hnews : ∀ j v, [Value.int .i64 (cKn k 0), .int .i64 (cKn k 1), .int .i64 (cKn k 2), .int .i64 (cKn k 3)][j]? = some v → W.cell? ((⟨A, 0, none⟩ : Addr).add j) = some v := fun j v hj => by
    have hl := (List.getElem?_eq_some_iff.1 hj).1
    have : j < 4 := by simpa using hl
    have hc : j = 0 ∨ j = 1 ∨ j = 2 ∨ j = 3 := by omega
    rw [addN, Nat.zero_add, hA j this]
    rcases hc with rfl | rfl | rfl | rfl <;> simpa using hj
  have hbd : ∀ o, Below W.heap.size W (W.drew.alloc o) := fun o => ((Below.refl _ _).drew).alloc (Nat.le_refl _) o
  rcases h with ⟨rfl, rfl⟩ | ⟨hne, b, c, rfl, hc, hm, hb, hr⟩
  · subst hlc
    unfold clipV
    have hr := run_append_nil (P := Try.prog) W 101 101 103 i0 _ und101 hi0 hz0 ⟨A, 0, none⟩ 1 1 _ (by rw [hz1]; rfl) hnews (by omega) (by omega) (by rw [hz2]; omega)
    refine ⟨_, _, hr, .inr ⟨by simp, _, _, rfl, grownCap_ge _ _ _ _, ?_, hW, fun q j hq hj => ?_⟩, hbd _⟩
    · have := grownCap_le_maxLen W 1 0 103 (by unfold maxLen; omega)
      unfold maxLen at this; omega
    · have e := flatK_snoc [] k
      have e2 : ([Value.int .i64 (cKn k 0), .int .i64 (cKn k 1), .int .i64 (cKn k 2), .int .i64 (cKn k 3)] : List Value) = flatR [k].length 4 (rowK [k]) := by simpa [flatR] using e
      rw [e2]
      exact new_row (W := W.drew) (l := [k]) hq hj
  · subst hlc
    unfold clipV
    have h0 : 0 < acc.length := List.length_pos_iff.2 hne
    have hold : ∀ j v, (flatR acc.length 4 (rowK acc))[j]? = some v → W.cell? ((⟨b, 0, none⟩ : Addr).add j) = some v := fun j v hj => by
      have hl := (List.getElem?_eq_some_iff.1 hj).1
      rw [flatR_length] at hl
      have e : j = j / 4 * 4 + j % 4 := by omega
      have hq : j / 4 < acc.length := by omega
      have hm4 : j % 4 < 4 := by omega
      rw [e, flatR_get hq hm4] at hj
      cases hj
      rw [addN, Nat.zero_add]
      conv => lhs; rw [e]
      exact hr _ _ hq hm4
    have hcap := nextslicecap_le (need := acc.length + 1) (old := acc.length) (by omega)
    have hr2 := run_append_grow (P := Try.prog) W 101 101 103 i0 _ und101 hi0 hz0 ⟨b, 0, none⟩ acc.length acc.length (flatR acc.length 4 (rowK acc)) (by rw [hz1]; exact flatR_length _ _ _) hold ⟨A, 0, none⟩ 1 1 _ (by rw [hz1]; rfl) hnews (by omega) (by omega) (by rw [hz2]; omega)
    refine ⟨_, _, hr2, .inr ⟨by simp, W.heap.size, grownCap W (acc.length + 1) acc.length 103, by simp, by have := grownCap_ge W (acc.length + 1) acc.length 103; simpa using this, ?_, hW, fun q j hq hj => ?_⟩, hbd _⟩
    · have := grownCap_le_maxLen W (acc.length + 1) acc.length 103 (by unfold maxLen; omega)
      unfold maxLen at this; omega
    · have e := flatK_snoc acc k
      have e2 : (flatR acc.length 4 (rowK acc)).toArray ++ [Value.int .i64 (cKn k 0), .int .i64 (cKn k 1), .int .i64 (cKn k 2), .int .i64 (cKn k 3)].toArray = (flatR (acc ++ [k]).length 4 (rowK (acc ++ [k]))).toArray := by
        rw [List.length_append]
        show _ = (flatR (acc.length + 1) 4 (rowK (acc ++ [k]))).toArray
        rw [← e]; simp
      rw [e2]
      exact new_row (W := W.drew) (l := acc ++ [k]) hq hj
theorem clip_any (a : Option Addr) (n c : Nat) (hc : n ≤ c) (hn : n = 0 → a = none ∧ c = 0) (h9 : c ≤ 9223372036854775807) (w : World) : Calls Try.prog 81 #[.slice a n c] w fun e w' => e = .returned (.slice a n n) ∧ w = w' := by
  by_cases h0 : n = 0
  · obtain ⟨rfl, rfl⟩ := hn h0
    subst h0
    go_enter Try.func81, Try.ntmps81
    go_wp2
    go_ret
    exact ⟨rfl, rfl⟩
  · go_enter Try.func81, Try.ntmps81
    go_wp2
    go_ret
    exact ⟨rfl, rfl⟩
theorem clip_acc {W : World} {hi : Nat} {lv : Value} {acc : List Kn} (h : AccAt W hi lv acc) (X : World) : Calls Try.prog 81 #[lv] X fun e w' => e = .returned (clipV lv) ∧ X = w' := by
  rcases h with ⟨rfl, rfl⟩ | ⟨hne, b, c, rfl, hc, hm, hb, hr⟩
  · exact clip_any none 0 0 (by omega) (fun _ => ⟨rfl, rfl⟩) (by omega) X
  · have h0 : 0 < acc.length := List.length_pos_iff.2 hne
    exact clip_any _ _ _ hc (fun h => by omega) hm X
/-- Choices so far, of fines. -/
structure AccOk (f : Fns) (i : Nat) (acc : List Kn) : Prop where
  len : acc.length ≤ i
  each : ∀ k, k ∈ acc → (0 ≤ k.number ∧ k.number < i) ∧ (0 ≤ k.kind ∧ k.kind < f.rules.length) ∧ 0 ≤ k.hour ∧ k.hour ≤ 144
  nod : (acc.map (·.number)).Nodup
theorem AccOk.mono {f : Fns} {i j : Nat} {acc : List Kn} (h : AccOk f i acc) (hij : i ≤ j) : AccOk f j acc :=
  ⟨Nat.le_trans h.len hij, fun k hk => by have := h.each k hk; exact ⟨by omega, this.2⟩, h.nod⟩
theorem AccOk.more {f : Fns} {i : Nat} {acc : List Kn} (h : AccOk f i acc) {k : Kn} (h1 : k.number = i) (h2 : 0 ≤ k.kind ∧ k.kind < f.rules.length) (h3 : 0 ≤ k.hour ∧ k.hour ≤ 144) : AccOk f (i + 1) (acc ++ [k]) := by
  refine ⟨by have := h.len; simp; omega, fun k' hk => ?_, ?_⟩
  · rcases List.mem_append.1 hk with hk | hk
    · have := h.each k' hk; exact ⟨by omega, this.2⟩
    · rw [List.mem_singleton.1 hk]; exact ⟨by omega, h2, h3⟩
  · rw [List.map_append, List.map_cons, List.map_nil, List.nodup_append]
    refine ⟨h.nod, by simp, fun a ha b hb e => ?_⟩
    rw [List.mem_singleton] at hb
    obtain ⟨k', hk', rfl⟩ := List.mem_map.1 ha
    have := h.each k' hk'
    omega
theorem AccOk.kok {f : Fns} {i : Nat} {acc : List Kn} (h : AccOk f i acc) (hi : i ≤ 5) : KOk f acc :=
  ⟨Nat.le_trans h.len hi, fun k hk => by have := h.each k hk; exact ⟨by omega, this.2⟩⟩
/-- What has been handed on for some of what one can have been. -/
def chTo (nr : Nat) (κ : Int) (R : Nat) (i : Int) (t : List Off) (ks : List Kn) : List (List Kn) := ks.flatMap fun k => (choL nr κ R (i + 1) t).map (k :: ·)
theorem chTo_snoc (nr : Nat) (κ : Int) (R : Nat) (i : Int) (t : List Off) (ks : List Kn) (k : Kn) : chTo nr κ R i t (ks ++ [k]) = chTo nr κ R i t ks ++ (choL nr κ R (i + 1) t).map (k :: ·) := by
  unfold chTo; rw [List.flatMap_append]; simp
theorem chTo_nil (nr : Nat) (κ : Int) (R : Nat) (i : Int) (t : List Off) : chTo nr κ R i t [] = [] := rfl
theorem chTo_one {nr : Nat} {κ : Int} {R : Nat} {i : Int} {t : List Off} {acc : List Kn} {ks : List Kn} {k : Kn} {xs ys : List (List Kn)} (h1 : xs = (chTo nr κ R i t ks).map (acc ++ ·)) (h2 : ys = (choL nr κ R (i + 1) t).map ((acc ++ [k]) ++ ·)) :
    xs ++ ys = (chTo nr κ R i t (ks ++ [k])).map (acc ++ ·) := by
  rw [chTo_snoc, List.map_append, ← h1, h2, List.map_map]
  congr 1
  refine List.map_congr_left fun l _ => ?_
  simp
/-- What one can have been, of the first riders. -/
def optsTo (R : Nat) (i : Int) (o : Off) (m : Nat) : List Kn := (if diff o.riders.toNat R = 0 then [] else [⟨i, o.kind, -1, 0⟩]) ++ whoK m R i o
theorem optsTo_step (R : Nat) (i : Int) (o : Off) (m : Nat) : optsTo R i o (m + 1) = optsTo R i o m ++ if o.riders.toNat.testBit m && R.testBit m then hoursK i o m else [] := by
  unfold optsTo whoK
  rw [List.range_succ, List.flatMap_append, List.append_assoc]; simp
/-- What the iterator reads. -/
structure EnvOn (W : World) (lo hi Fb Yb Kb Ob Rb B l : Nat) (κ : Int) (R : Nat) (f : Fns) (ra la : Option Addr) (rc lc : Nat) : Prop where
  cf : W.cell? ⟨Fb, 0, none⟩ = some (.pointer (some ⟨B, 0, none⟩))
  cy : W.cell? ⟨Yb, 0, none⟩ = some (.func (.yield l) #[] #[])
  ck : W.cell? ⟨Kb, 0, none⟩ = some (.int .i64 κ)
  co : W.cell? ⟨Ob, 0, none⟩ = some (.func (.func 80) #[] #[.pointer (some ⟨Fb, 0, none⟩), .pointer (some ⟨Yb, 0, none⟩), .pointer (some ⟨Kb, 0, none⟩), .pointer (some ⟨Ob, 0, none⟩), .pointer (some ⟨Rb, 0, none⟩)])
  cr : W.cell? ⟨Rb, 0, none⟩ = some (.int .u64 (R : Int))
  ff : FinesAt W B f ra la rc lc
  o1 : hi ≤ Fb ∧ hi ≤ Yb ∧ hi ≤ Kb ∧ hi ≤ Ob ∧ hi ≤ Rb
  o2 : B < lo ∨ hi ≤ B
  o3 : 0 < f.rules.length → ∀ a, ra = some a → a.block < lo ∨ hi ≤ a.block
  o4 : 0 < f.list.length → ∀ a, la = some a → a.block < lo ∨ hi ≤ a.block
  hs : hi ≤ W.heap.size
theorem EnvOn.kept {W W' : World} {lo hi Fb Yb Kb Ob Rb B l : Nat} {κ : Int} {R : Nat} {f : Fns} {ra la : Option Addr} {rc lc : Nat} (h : EnvOn W lo hi Fb Yb Kb Ob Rb B l κ R f ra la rc lc) (hk : KpI lo hi W W') : EnvOn W' lo hi Fb Yb Kb Ob Rb B l κ R f ra la rc lc :=
  ⟨hk.cell h.cf (.inr h.o1.1), hk.cell h.cy (.inr h.o1.2.1), hk.cell h.ck (.inr h.o1.2.2.1), hk.cell h.co (.inr h.o1.2.2.2.1), hk.cell h.cr (.inr h.o1.2.2.2.2),
   ⟨hk.cell h.ff.c0 h.o2, hk.cell h.ff.c1 h.o2, hk.cell h.ff.c2 h.o2, hk.rows h.ff.hr (fun hp a m c e => by cases e; exact h.o3 hp _ rfl), hk.rows h.ff.hl (fun hp a m c e => by cases e; exact h.o4 hp _ rfl)⟩, h.o1, h.o2, h.o3, h.o4, Nat.le_trans h.hs hk.1⟩
theorem grown_of_below {w w' : World} (h : Below w.heap.size w w') (row : Option Nat) : w.grownBy w' row := ⟨h.os, h.tape, h.output, h.size, fun k hk _ => h.block k hk⟩
end Go.Proofs.Ytjmobepipfbbnaa
