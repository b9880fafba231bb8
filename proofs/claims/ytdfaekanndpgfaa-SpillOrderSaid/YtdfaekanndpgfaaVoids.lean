import Derived.Test.YtdfaekanndpgfaaSeq
import Derived.Test.YtdfaekanndpgfaaLaps
import Derived.Deep.Cut
import Derived.Deep.CutRange
/- voids: all that a fall can make void, handed on. -/
set_option linter.unusedSimpArgs false
set_option linter.unusedVariables false
namespace Go.Proofs.Ytdfaekanndpgfaa
open Go.RowKit Go.Shelf
attribute [local go_sem] Oper.semAt_some
/-- Cells and maps outside some blocks are kept. -/
def KpW (lo hi : Nat) (W W' : World) : Prop := W.heap.size ≤ W'.heap.size ∧ ∀ (k : Nat) (o : Obj), W.heap[k]? = some o → (o.isCells = true ∨ o.isWalk = true) → (k < lo ∨ hi ≤ k) → W'.heap[k]? = some o
theorem KpW.refl (lo hi : Nat) (W : World) : KpW lo hi W W := ⟨Nat.le_refl _, fun _ _ h _ _ => h⟩
theorem KpW.trans {lo hi : Nat} {A B C : World} (h : KpW lo hi A B) (k : KpW lo hi B C) : KpW lo hi A C := ⟨Nat.le_trans h.1 k.1, fun i o hi hc ho => k.2 i o (h.2 i o hi hc ho) hc ho⟩
theorem KpW.putObj {lo hi : Nat} (W : World) {l : Nat} {o o' : Obj} (h : W.heap[l]? = some o) (hc : o.isCells = false) (hw : o.isWalk = false) : KpW lo hi W (W.putObj l o') :=
  ⟨by simp [World.putObj], fun k p hk hp _ => (World.putObj_heap_other (fun e => by subst e; rw [h] at hk; cases hk; rcases hp with hp | hp; (rw [hc] at hp; cases hp); (rw [hw] at hp; cases hp))).trans hk⟩
theorem KpW.below {lo hi : Nat} {W W' : World} (h : Below W.heap.size W W') : KpW lo hi W W' := ⟨h.size, fun k o hk _ _ => (h.block k (Array.getElem?_eq_some_iff.1 hk).1).trans hk⟩
theorem heap_cells {w : World} {b o : Nat} {v : Value} (h : w.cell? ⟨b, o, none⟩ = some v) : ∃ p, w.heap[b]? = some p ∧ p.isCells = true := by
  obtain ⟨p, hp, hc⟩ := cells_of_cell h
  exact ⟨p, hp, hc⟩
theorem KpW.cell {lo hi : Nat} {W W' : World} (h : KpW lo hi W W') {b o : Nat} {v : Value} (hv : W.cell? ⟨b, o, none⟩ = some v) (hb : b < lo ∨ hi ≤ b) : W'.cell? ⟨b, o, none⟩ = some v := by
  obtain ⟨p, hp, hc⟩ := heap_cells hv
  rw [World.cell?_of_block (a := ⟨b, o, none⟩) ((h.2 b p hp (.inl hc) hb).trans hp.symm)]; exact hv
theorem KpW.map {lo hi : Nat} {W W' : World} (h : KpW lo hi W W') {m : Nat} {K : IntKind} {D : Int → Option Value} (hm : MapIs W m K D) (hb : m < lo ∨ hi ≤ m) : MapIs W' m K D := by
  obtain ⟨es, c, h1, h2, h3⟩ := hm
  exact ⟨es, c, h.2 m _ h1 (.inr rfl) hb, h2, h3⟩
theorem RepAt.keptW {lo hi : Nat} {W W' : World} {b : Nat} {r : Rep} (h : RepAt W b 0 r) (k : KpW lo hi W W') (hb : b < lo ∨ hi ≤ b) : RepAt W' b 0 r :=
  ⟨k.cell h.c0 hb, k.cell h.c1 hb, k.cell h.c2 hb, k.cell h.c3 hb, k.cell h.c4 hb, k.cell h.c5 hb, k.cell h.c6 hb, k.cell h.c7 hb⟩
theorem run_lookup_int1 {P : Program} {w : World} {T kt et : TypeId} {m : Nat} {K : IntKind} {D : Int → Option Value} (h : MapIs w m K D) (hT : P.underlying T = some (.map kt et)) (hk : P.underlying kt = some (.int K)) {z : Value} (hz : (zeroValue et).run P w = .ok z w) (n : Int) :
    (Instr.lookup T (.map (some m)) (.int K n) false).run P w = .ok ((D n).getD z) w := by
  obtain ⟨es, c, h1, h2, h3⟩ := h
  unfold Instr.lookup
  simp only [Sem.run_bind, run_underlying hT, Result.andThen, getObj_map h1, Sem.run_pure, checkKey_int _ hk]
  unfold Instr.findKey
  rcases findNow_int K n es.toList 0 h2 with ⟨h4, h5⟩ | ⟨j, e, h4, h5, h6, h7, _⟩
  · rw [h3] at h4
    simp only [Sem.run_bind, run_underlying hk, Result.andThen, h5, Sem.run_pure, hz, h4]
    simp
  · rw [h3] at h6
    simp only [Sem.run_bind, run_underlying hk, Result.andThen, h7, Sem.run_pure, h6]
    simp
theorem und135 : Try.prog.underlying 135 = some (.map 78 4) := by kernel_rfl
theorem und78 : Try.prog.underlying 78 = some (.int .u64) := by kernel_rfl
theorem zero4 (w : World) : (zeroValue 4).run Try.prog w = .ok (.bool false) w := by kernel_rfl
/-! ### Plain law -/
theorem fromB_testBit (a m j : Nat) : (fromB a m).testBit j = (decide (a ≤ j) && decide (j < a + m)) := by
  unfold fromB
  rw [Nat.testBit_mul_two_pow, Nat.testBit_two_pow_sub_one]
  by_cases h : a ≤ j
  · simp only [h, decide_true, Bool.true_and]
    exact decide_eq_decide.2 (by omega)
  · simp [h]
theorem fromB_inj {a b m n : Nat} (hm : 1 ≤ m) (hn : 1 ≤ n) (h : fromB a m = fromB b n) : a = b ∧ m = n := by
  have key : ∀ j, (a ≤ j ∧ j < a + m) ↔ (b ≤ j ∧ j < b + n) := fun j => by
    have h1 := fromB_testBit a m j
    rw [h, fromB_testBit] at h1
    constructor
    · intro h2
      have h3 : (decide (a ≤ j) && decide (j < a + m)) = true := by simp [h2]
      rw [← h1] at h3
      simpa using h3
    · intro h2
      have h3 : (decide (b ≤ j) && decide (j < b + n)) = true := by simp [h2]
      rw [h1] at h3
      simpa using h3
  have k1 := key a
  have k2 := key b
  have k3 := key (a + m - 1)
  have k4 := key (b + n - 1)
  omega
/-- A fall that is valid. -/
structure FallOk (r : Rep) : Prop where
  a0 : 0 ≤ r.alo
  a1 : r.alo ≤ r.ahi
  a2 : r.ahi ≤ 50
  l0 : 1 ≤ r.llo
  l1 : r.llo ≤ r.lhi
  l2 : r.lhi ≤ 10
/-- What has been handed on: all of the first i laps, and k of the next one. -/
def voidsTo (r : Rep) (i k : Nat) : List Nat :=
  ((List.range i).flatMap fun i => (List.range ((r.lhi - r.llo).toNat + 1)).map fun k => fromB (r.alo.toNat + i) (r.llo.toNat + k)) ++ (List.range k).map fun k => fromB (r.alo.toNat + i) (r.llo.toNat + k)
theorem voidsTo_zero (r : Rep) : voidsTo r 0 0 = [] := rfl
theorem voidsTo_step (r : Rep) (i k : Nat) : voidsTo r i (k + 1) = voidsTo r i k ++ [fromB (r.alo.toNat + i) (r.llo.toNat + k)] := by
  unfold voidsTo
  rw [show List.range (k + 1) = List.range k ++ [k] from List.range_succ, List.map_append, List.append_assoc]; rfl
theorem voidsTo_next (r : Rep) (i : Nat) : voidsTo r i ((r.lhi - r.llo).toNat + 1) = voidsTo r (i + 1) 0 := by
  unfold voidsTo
  rw [List.range_succ (n := i), List.flatMap_append]; simp
theorem voidsTo_all (r : Rep) : voidsTo r ((r.ahi - r.alo).toNat + 1) 0 = voidsR r := by unfold voidsTo voidsR; simp
theorem voidsTo_new (r : Rep) (h : 1 ≤ r.llo) (i k : Nat) : fromB (r.alo.toNat + i) (r.llo.toNat + k) ∉ voidsTo r i k := by
  unfold voidsTo
  rw [List.mem_append]
  rintro (h' | h')
  · obtain ⟨a, ha, h2⟩ := List.mem_flatMap.1 h'
    obtain ⟨b, hb, h3⟩ := List.mem_map.1 h2
    have := (fromB_inj (by omega) (by omega) h3).1
    rw [List.mem_range] at ha
    omega
  · obtain ⟨b, hb, h3⟩ := List.mem_map.1 h'
    have := (fromB_inj (by omega) (by omega) h3).2
    rw [List.mem_range] at hb
    omega
theorem voids_lt {r : Rep} (h : FallOk r) {x : Nat} (hx : x ∈ voidsR r) : x < 2 ^ 60 := by
  obtain ⟨h1, h2, h3, h4, h5, h6⟩ := h
  unfold voidsR at hx
  obtain ⟨a, ha, hx⟩ := List.mem_flatMap.1 hx
  obtain ⟨b, hb, rfl⟩ := List.mem_map.1 hx
  rw [List.mem_range] at ha hb
  exact from_lt (by omega) (by omega)
/-- What was seen. -/
def seenD (l : List Nat) (n : Int) : Option Value := if l.any (fun x => decide ((x : Int) = n)) then some (.bool true) else none
theorem seenD_new {l : List Nat} {x : Nat} (h : x ∉ l) : seenD l (x : Int) = none := by
  unfold seenD
  rw [if_neg]
  rw [List.any_eq_true]
  rintro ⟨y, hy, he⟩
  have : y = x := by have := of_decide_eq_true he; omega
  subst this; exact h hy
theorem seenD_snoc (l : List Nat) (x : Nat) (n : Int) : (if n = (x : Int) then some (.bool true) else seenD l n) = seenD (l ++ ([x] : List Nat)) n := by
  unfold seenD
  rw [List.any_append]
  by_cases e : n = (x : Int)
  · subst e; simp
  · rw [if_neg e]
    have : ([x].any fun y => decide ((y : Int) = n)) = false := by simp; omega
    rw [this, Bool.or_false]
/-- Who keeps J from one to the next. -/
def KeepsV (l b0 lo hi : Nat) (J : List Nat → World → Prop) : Prop := AbidesFrom b0 J ∧ ∀ (pre : List Nat) (x : Nat) (W1 : World), J pre W1 → x < 2 ^ 60 → ∀ m, YieldAt Fence.wide m Try.prog l #[.int .u64 (x : Int)] W1 fun e W' => e = .returned (.bool true) ∧ J (pre ++ [x]) W' ∧ KpW lo hi W1 W'
theorem yield_wide {m m' : Nat} {P : Program} {l : Nat} {args : Array Value} {W : World} {R : Ending → World → Prop} (h : YieldAt Fence.wide m P l args W R) : YieldAt Fence.wide m' P l args W R := by
  obtain ⟨fn, tmps, assign, body, hy, hr⟩ := h
  exact ⟨fn, tmps, assign, body, hy, hr.1, fun c cs _ => hr.2 c cs (room_wide _)⟩
theorem grown_of_below {w w' : World} (h : Below w.heap.size w w') (row : Option Nat) : w.grownBy w' row := ⟨h.os, h.tape, h.output, h.size, fun k hk _ => h.block k hk⟩
theorem KeepsV.grown {l b0 lo hi : Nat} {J : List Nat → World → Prop} (h : KeepsV l b0 lo hi J) {pre : List Nat} {W W' : World} (hj : J pre W) (hb : Below W.heap.size W W') : J pre W' :=
  h.1 _ _ _ none hj (grown_of_below hb none) (fun r e => by cases e)
/-- The world of the iterator. -/
structure VoI (lo hi b0 Rb M : Nat) (r : Rep) (J : List Nat → World → Prop) (xs : List Nat) (W : World) : Prop where
  j : J xs W
  r : RepAt W Rb 0 r
  m : MapIs W M .u64 (seenD xs)
  hR : Rb < lo ∨ hi ≤ Rb
  hM : M < lo ∨ hi ≤ M
  hb : b0 ≤ M
theorem VoI.look {lo hi b0 Rb M : Nat} {r : Rep} {J : List Nat → World → Prop} {xs : List Nat} {W : World} (h : VoI lo hi b0 Rb M r J xs W) {x : Nat} (hx : x ∉ xs) :
    (Instr.lookup 135 (.map (some M)) (.int .u64 (x : Int)) false).run Try.prog W = .ok (.bool false) W := by
  rw [run_lookup_int1 h.m und135 und78 (zero4 W) (x : Int), seenD_new hx]; rfl
theorem VoI.put {l lo hi b0 Rb M : Nat} {r : Rep} {J : List Nat → World → Prop} {xs : List Nat} {W : World} (hK : KeepsV l b0 lo hi J) (h : VoI lo hi b0 Rb M r J xs W) (x : Nat) :
    ∃ o, (Instr.mapUpdate 135 (.map (some M)) (.int .u64 (x : Int)) (.bool true)).run Try.prog W = .ok () (W.putObj M o) ∧ J xs (W.putObj M o) ∧ RepAt (W.putObj M o) Rb 0 r ∧ MapIs (W.putObj M o) M .u64 (seenD (xs ++ ([x] : List Nat))) := by
  obtain ⟨o, h1, h2, h3⟩ := run_mapUpdate_int h.m und135 und78 (x : Int) (.bool true)
  obtain ⟨es, c, hm, _⟩ := h.m
  have hne : Rb ≠ M := fun e => by
    subst e
    obtain ⟨p, hp, hc⟩ := heap_cells h.r.c0
    rw [hm] at hp; cases hp; cases hc
  have hce : ∀ q v, W.cell? ⟨Rb, q, none⟩ = some v → (W.putObj M o).cell? ⟨Rb, q, none⟩ = some v := fun q v hv => by
    rw [World.cell?_of_block (World.putObj_heap_other (show Rb ≠ M from hne))]; exact hv
  refine ⟨o, h1, hK.1 _ _ _ (some M) h.j (grownBy_putObj' W M o) (fun r e => by cases e; exact ⟨h.hb, _, hm, rfl⟩), ⟨hce _ _ h.r.c0, hce _ _ h.r.c1, hce _ _ h.r.c2, hce _ _ h.r.c3, hce _ _ h.r.c4, hce _ _ h.r.c5, hce _ _ h.r.c6, hce _ _ h.r.c7⟩, h2.congr fun n => seenD_snoc xs x n⟩
set_option maxRecDepth 100000 in
set_option maxHeartbeats 2000000 in
theorem voids_walk (r : Rep) (hr : FallOk r) (lo hi Rb l : Nat) (J : List Nat → World → Prop) (W : World) (hK : KeepsV l W.heap.size lo hi J) (hR : RepAt W Rb 0 r) (hRb : Rb < lo ∨ hi ≤ Rb) (hs : hi ≤ W.heap.size) (hj : J [] W) :
    Calls Try.prog 114 #[.func (.yield l) #[] #[], .pointer (some ⟨Rb, 0, none⟩)] W fun e W' => (∃ v, e = .returned v) ∧ J (voidsR r) W' := by
  obtain ⟨h1, h2, h3, h4, h5, h6⟩ := hr
  obtain ⟨M, hM⟩ : ∃ M, W.heap.size = M := ⟨_, rfl⟩
  obtain ⟨W1, hW1⟩ : ∃ W1, W.alloc (.map #[] 0) = W1 := ⟨_, rfl⟩
  have hb1 : Below W.heap.size W W1 := by rw [← hW1]; exact (Below.refl _ _).alloc (Nat.le_refl _) _
  have hI : VoI lo hi M Rb M r J (voidsTo r 0 0) W1 :=
    ⟨hK.grown hj hb1, ⟨Below.cellSome hb1 hR.c0, Below.cellSome hb1 hR.c1, Below.cellSome hb1 hR.c2, Below.cellSome hb1 hR.c3, Below.cellSome hb1 hR.c4, Below.cellSome hb1 hR.c5, Below.cellSome hb1 hR.c6, Below.cellSome hb1 hR.c7⟩,
      by rw [← hW1, ← hM]; exact (MapIs.new W .u64).congr fun n => rfl, hRb, by omega, by omega⟩
  rw [hM] at hK
  have HK := Lib.hid hK
  have HI := Lib.hid hI
  obtain ⟨c0, c1, c2, c3, c4, c5, c6, c7⟩ := hI.r
  obtain ⟨al, hal⟩ : ∃ al : Nat, r.alo = al := ⟨r.alo.toNat, by omega⟩
  obtain ⟨ah, hah⟩ : ∃ ah : Nat, r.ahi = ah := ⟨r.ahi.toNat, by omega⟩
  obtain ⟨ll, hll⟩ : ∃ ll : Nat, r.llo = ll := ⟨r.llo.toNat, by omega⟩
  obtain ⟨lh, hlh⟩ : ∃ lh : Nat, r.lhi = lh := ⟨r.lhi.toNat, by omega⟩
  have hmm := @run_makeMap Try.prog
  have HE := Lib.hid (And.intro hal (And.intro hah (And.intro hll hlh)))
  rw [hal] at c3 h1 h2
  rw [hah] at c4 h2 h3
  rw [hll] at c5 h4 h5
  rw [hlh] at c6 h5 h6
  clear hI hK hR hb1 hj hal hah hll hlh
  refine (callsIn_wide (n := 3)).1 ?_
  refine callsIn_of_wp Try.func114 rfl trivial ?_ rfl
  simp only [Try.ntmps114, List.size_toArray, List.length_cons, List.length_nil, Nat.reduceAdd, Nat.reduceSub, Array.replicate_succ, Array.replicate_zero, List.push_toArray, List.append_toArray, List.nil_append, List.cons_append]
  gi_wp2
  clear hW1 hmm
  gi_loopw [4] (fun u X => ∃ i : Nat, i ≤ ah - al + 1 ∧ u = .int .i64 ((al : Int) + (i : Int)) ∧ VoI lo hi M Rb M r J (voidsTo r i 0) X) (fun u _ => ah + 1 - (intOf u).toNat)
  case atStart => exact ⟨0, by omega, by simp, HI.out⟩
  case round =>
    clear HI c0 c1 c2 c3 c4 c5 c6 c7
    obtain ⟨i, hi9, rfl, hI⟩ := hrel
    obtain ⟨c0, c1, c2, c3, c4, c5, c6, c7⟩ := hI.r
    rw [HE.out.1] at c3
    rw [HE.out.2.1] at c4
    rw [HE.out.2.2.1] at c5
    rw [HE.out.2.2.2] at c6
    have HI := Lib.hid hI
    clear hI
    by_cases hlt : al + i ≤ ah
    · have hltI : (al : Int) + (i : Int) ≤ (ah : Int) := by omega
      have hltD : decide ((al : Int) + (i : Int) ≤ (ah : Int)) = true := decide_eq_true hltI
      gi_wp2
      apply scopeIn
      gi_wp2
      apply wpIn_label
      gi_wp2
      rename World => wo
      gi_loopw [5] (fun u X => ∃ k : Nat, k ≤ lh - ll + 1 ∧ u = .int .i64 ((ll : Int) + (k : Int)) ∧ VoI lo hi M Rb M r J (voidsTo r i k) X) (fun u _ => lh + 1 - (intOf u).toNat)
      case atStart => exact ⟨0, by omega, by simp, HI.out⟩
      case round =>
        clear HI c0 c1 c2 c3 c4 c5 c6 c7
        obtain ⟨k, hk9, rfl, hI⟩ := hrel
        obtain ⟨c0, c1, c2, c3, c4, c5, c6, c7⟩ := hI.r
        rw [HE.out.1] at c3
        rw [HE.out.2.1] at c4
        rw [HE.out.2.2.1] at c5
        rw [HE.out.2.2.2] at c6
        have HI := Lib.hid hI
        clear hI
        by_cases hkt : ll + k ≤ lh
        · have hktI : (ll : Int) + (k : Int) ≤ (lh : Int) := by omega
          have hktD : decide ((ll : Int) + (k : Int) ≤ (lh : Int)) = true := decide_eq_true hktI
          obtain ⟨x, hx⟩ : ∃ x, fromB (al + i) (ll + k) = x := ⟨_, rfl⟩
          have hF : ∀ X, Calls Try.prog 115 #[.int .i64 ((al : Int) + (i : Int)), .int .i64 ((ll : Int) + (k : Int))] X fun e w' => e = .returned (.int .u64 (x : Int)) ∧ X = w' := fun X => by
            have := from_any (al + i) (ll + k) (by omega) (by omega) X
            rw [hx] at this
            simpa only [Int.natCast_add] using this
          have e1 : r.alo.toNat = al := by have := HE.out.1; omega
          have e2 : r.llo.toNat = ll := by have := HE.out.2.2.1; omega
          have hnew : x ∉ voidsTo r i k := by
            have := voidsTo_new r (by have := HE.out.2.2.1; omega) i k
            rw [e1, e2, hx] at this; exact this
          have hst : voidsTo r i (k + 1) = voidsTo r i k ++ [x] := by
            have := voidsTo_step r i k
            rw [e1, e2, hx] at this; exact this
          have hx60 : x < 2 ^ 60 := by rw [← hx]; exact from_lt (by omega) (by omega)
          have hlk := HI.out.look hnew
          obtain ⟨o, hup, hjz, hrz, hmz⟩ := HI.out.put HK.out x
          have HY := Lib.hid (HK.out.2 (voidsTo r i k) x _ hjz hx60 2)
          have HF := Lib.hid hF
          have HS := Lib.hid hst
          have HZ := Lib.hid (And.intro hrz hmz)
          clear hF hst hjz hrz hmz hnew hx e1 e2 hx60
          obtain ⟨fn, tmps, assign, body, hy, hRd⟩ := HY.out
          gi_wp2_with (refine ⟨trivial, ?_⟩; gi_at_call 115; refine (callsIn_wide.2 (HF.out _)).mono ?_; rintro e w' ⟨rfl, rfl⟩)
          refine hRd.mono ?_
          rintro e W3 ⟨rfl, hj3, hk3⟩
          have hN : VoI lo hi M Rb M r J (voidsTo r i (k + 1)) W3 := by
            rw [HS.out]
            exact ⟨hj3, HZ.out.1.keptW hk3 HI.out.hR, hk3.map HZ.out.2 HI.out.hM, HI.out.hR, HI.out.hM, HI.out.hb⟩
          have HN := Lib.hid hN
          clear hN hj3 hk3 hRd hy HY hup hlk
          gi_wp2
          exact ⟨⟨k + 1, by omega, by push_cast; rw [Int.add_assoc], HN.out⟩, by simp [intOf]; omega⟩
        · have hktI : ¬ ((ll : Int) + (k : Int) ≤ (lh : Int)) := by omega
          have hktD : decide ((ll : Int) + (k : Int) ≤ (lh : Int)) = false := decide_eq_false hktI
          gi_wp2
          have hke : (r.lhi - r.llo).toNat + 1 = k := by
            obtain ⟨_, _, e3, e4⟩ := HE.out
            rw [e3, e4]; omega
          have hvn := voidsTo_next r i
          rw [hke] at hvn
          exact ⟨⟨i + 1, by omega, by push_cast; rw [Int.add_assoc], by have h := HI.out; rw [hvn] at h; exact h⟩, by simp [intOf]; omega⟩
    · have hltI : ¬ ((al : Int) + (i : Int) ≤ (ah : Int)) := by omega
      have hltD : decide ((al : Int) + (i : Int) ≤ (ah : Int)) = false := decide_eq_false hltI
      gi_wp2
      go_end0
      refine ⟨⟨_, rfl⟩, ?_⟩
      have hie : (r.ahi - r.alo).toNat + 1 = i := by
        obtain ⟨e1, e2, _, _⟩ := HE.out
        rw [e1, e2]; omega
      have hva := voidsTo_all r
      rw [hie] at hva
      have h := HI.out.j
      rw [hva] at h
      exact h
end Go.Proofs.Ytdfaekanndpgfaa
