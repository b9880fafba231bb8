import Derived.Test.YtoabfffmjhdijaaToldIn
import Derived.Laws.CopyOwn
/- First of package sprint. -/
set_option linter.unusedSimpArgs false
set_option linter.unusedVariables false
namespace Go.Proofs.Ytoabfffmjhdijaa
open Go.RowKit Go.Shelf
attribute [local go_sem] Oper.semAt_some

theorem leavesM_fn {n : Nat} {P : Program} {fn : Func} {tmps : Array Value} {R : Ending → World → Prop} {ds : List Deferred} {u : FrameMode} {w : World} {fv : Fn} {cap dargs : Array Value} {f : FuncId} {args : Array Value} (hu : u ≠ .run)
    (hi : (invoke (.fn fv cap) dargs).run P w = .ok (.enter f args) w)
    (h : CallsDIn Fence.wide (n - 1) P f args u w fun
          | .returned _, u', w' => LeavesInM Fence.wide n P fn tmps R ds (settle u') w'
          | .panicked chain, u', w' => LeavesInM Fence.wide n P fn tmps R ds (raised u' chain) w'
          | .outgrown, _, w' => R .outgrown w') : LeavesInM Fence.wide n P fn tmps R ({ target := .fn fv cap, args := dargs } :: ds) u w :=
  ⟨hu, .inr ⟨fun h => by simp [Fence.wide] at h, fv, cap, f, args, rfl, hi, fun _ _ => trivial, h⟩⟩

/-- The first order. -/
def firstX (s : Sps) (x : Spr) : List Nat :=
  ((goOn (placeK s.pairs.toNat (every x) x.ahead.length x.places x.places.length) (beforeK (every x) x.ahead x.ahead.length) s.pairs.toNat s.pairs.toNat 0).head?).getD []
def firstE (s : Sps) (n : Int) : Int :=
  if goodSps s = false then 1 else if isNum s n = false then 2 else if waysX s (sprOf s n) (every (sprOf s n)) = 0 then 10 else 0
/-- What First does. -/
def firstPost (s : Sps) (n : Int) (w : World) (e : Ending) (w' : World) : Prop :=
  Below w.heap.size w w' ∧ ((firstE s n ≠ 0 ∧ e = .returned (.tuple #[.slice none 0 0, .int .i64 (firstE s n)])) ∨
    (firstE s n = 0 ∧ ∃ v, e = .returned (.tuple #[v, .int .i64 0]) ∧ w'.ownsRow w.heap.size 3 1 v (firstX s (sprOf s n)).length ((firstX s (sprOf s n)).map fun (p : Nat) => .int .i64 (p : Nat))))

attribute [local irreducible] waysOf goOn
theorem sum_zero {l : List Nat} (h : ∀ x, x ∈ l → x = 0) : l.sum = 0 := by
  induction l with
  | nil => rfl
  | cons a l ih => rw [List.sum_cons, h a (by simp), ih (fun x hx => h x (by simp [hx]))]
theorem fDone {P Q : Nat → Nat} {p come : Nat} (hp6 : p ≤ 6) (cd : card come < p) (cl : come < 2 ^ p) (xs : List (Can P Q come p)) (hS : xs.map (·.1) = cand P Q come p) (h : ∀ q, q ∈ xs → waysOf P Q p (come ||| 2 ^ q.1) = 0) : waysOf P Q p come = 0 := by
  have hne : come ≠ 2 ^ p - 1 := fun e => by
    rw [e, card_all hp6] at cd; omega
  rw [(counts_of P Q hp6).step come cl hne, ← hS, List.map_map]
  refine sum_zero ?_
  intro y hy
  obtain ⟨q, hq, hqy⟩ := List.mem_map.1 hy
  rw [← hqy, Function.comp_apply]
  exact h q hq
theorem head_flatMap {α β : Type} (f : α → List β) (q : α) (m : List α) : ∀ (l : List α), (∀ x, x ∈ l → f x = []) → f q ≠ [] → ((l ++ [q] ++ m).flatMap f).head? = (f q).head?
  | [], _, hq => by
    cases e : f q with
    | nil => exact absurd e hq
    | cons a t => simp [e]
  | a :: l, h, hq => by
    have ih := head_flatMap f q m l (fun x hx => h x (by simp [hx])) hq
    simp only [List.cons_append, List.flatMap_cons, h a (by simp), List.nil_append]
    exact ih
theorem head_goOn {P Q : Nat → Nat} {p come i k : Nat} (hp6 : p ≤ 6) (cd : card come = i) (cl : come < 2 ^ p) (hi : i < p) (b : List (Can P Q come p)) (q : Can P Q come p) (hk : k < p)
    (hpre : (b ++ [q]).map (·.1) = cand P Q come (k + 1)) (hb : ∀ x, x ∈ b → waysOf P Q p (come ||| 2 ^ x.1) = 0) (hq : 0 < waysOf P Q p (come ||| 2 ^ q.1)) :
    (goOn P Q p (p - i) come).head? = ((goOn P Q p (p - (i + 1)) (come ||| 2 ^ q.1)).head?).map (q.1 :: ·) ∧ card (come ||| 2 ^ q.1) = i + 1 := by
  have hne : come ≠ 2 ^ p - 1 := fun e => by
    rw [e, card_all hp6] at cd; omega
  have hqs : q.1 < p ∧ come.testBit q.1 = false := by
    obtain ⟨q, hq1, hq2⟩ := q
    simp only [okN, Bool.and_eq_true, Bool.not_eq_true'] at hq2
    exact ⟨hq1, hq2.1.1⟩
  have hcq := card_or (x := come) (p := q.1) (by omega) hqs.2
  obtain ⟨m, hm⟩ := cand_prefix P Q come (show k + 1 ≤ p by omega)
  have hst := goOn_step P Q hp6 cl hne
  rw [cd] at hst
  rw [hst, ← hm, ← hpre, List.map_append, List.map_cons, List.map_nil]
  refine ⟨?_, by omega⟩
  rw [head_flatMap]
  · rw [hcq, cd, List.head?_map]
  · intro x hx
    obtain ⟨y, hy, rfl⟩ := List.mem_map.1 hx
    have := hb y hy
    unfold waysOf at this
    rw [List.map_eq_nil_iff]
    exact List.eq_nil_of_length_eq_zero this
  · intro e
    rw [List.map_eq_nil_iff] at e
    unfold waysOf at hq
    rw [e] at hq; simp at hq

/-- What holds between two rounds of First. -/
structure FInv (s : Sps) (w : World) (P Q : Nat → Nat) (p B N O i come : Nat) (pre Ds : List Nat) (wr : World) : Prop where
  ip : i ≤ p
  cd : card come = i
  cl : come < 2 ^ p
  pl : pre.length = i
  hd : (goOn P Q p p 0).head? = ((goOn P Q p (p - i) come).head?).map (pre ++ ·)
  ps : 0 < waysOf P Q p come
  bl : Below w.heap.size w wr
  sz : O + 2 ≤ wr.heap.size
  K : wr.cell? ⟨w.heap.size, 0, none⟩ = some (.int .i64 p)
  E : wr.cell? ⟨w.heap.size + 1, 0, none⟩ = some (.int .i64 0)
  F : wr.frozen? ⟨w.heap.size + 1, 0, none⟩ = false
  od : ∀ j, j < 6 → wr.cell? ⟨O, j, none⟩ = some (.int .i64 (pre.getD j 0 : Nat))
  of : ∀ j, wr.frozen? ⟨O, j, none⟩ = false
  cm : wr.cell? ⟨O + 1, 0, none⟩ = some (.int .u64 come)
  cf : wr.frozen? ⟨O + 1, 0, none⟩ = false
  T : wr.cell? ⟨N + 5, 0, none⟩ = some (waysV N)
  W : WaysAt wr (N + 1 + 1 + 1) (N + 1 + 1) N (N + 1 + 1 + 1 + 1) B (N + 1) (2 ^ p - 1)
  M : ∃ D, MapIs wr (N + 1) .u64 D ∧ Knows (fun c => .int .i64 (waysOf P Q p c)) D
  R : RunR wr B p P Q
  nd : Ds.Nodup
  dm : ∀ D, D ∈ Ds → O + 2 ≤ D ∧ wr.heap[D]? = some (.deferred (some []))

/-- Between two rounds of First's inner loop: none of those that were tried goes on. -/
def fIn (P Q : Nat → Nat) (p N come X : Nat) (WL : World) (pre : List (Can P Q come p)) (W' : World) : Prop :=
  (∀ q, q ∈ pre → waysOf P Q p (come ||| 2 ^ q.1) = 0) ∧ (∃ D, MapIs W' (N + 1) .u64 D ∧ Knows (fun c => .int .i64 (waysOf P Q p c)) D) ∧ But (fun k => k = N + 1) X WL W' ∧ X ≤ W'.heap.size
/-- Where First has found who comes next. -/
def fOut (P Q : Nat → Nat) (p N O i come X : Nat) (WL : World) (c : Code) (pre : List (Can P Q come p)) (W' : World) : Prop :=
  c = .exit 2 ∧ ∃ (b : List (Can P Q come p)) (q : Can P Q come p), pre = b ++ [q] ∧ (∀ q, q ∈ b → waysOf P Q p (come ||| 2 ^ q.1) = 0) ∧ 0 < waysOf P Q p (come ||| 2 ^ q.1) ∧ (∃ D, MapIs W' (N + 1) .u64 D ∧ Knows (fun c => .int .i64 (waysOf P Q p c)) D) ∧
    But (fun k => k = N + 1 ∨ k = O ∨ k = O + 1) X WL W' ∧ X ≤ W'.heap.size ∧ W'.cell? ⟨O, i, none⟩ = some (.int .i64 (q.1 : Nat)) ∧ (∀ j v, j ≠ i → WL.cell? ⟨O, j, none⟩ = some v → W'.cell? ⟨O, j, none⟩ = some v) ∧ (∀ j, W'.frozen? ⟨O, j, none⟩ = WL.frozen? ⟨O, j, none⟩) ∧
    W'.cell? ⟨O + 1, 0, none⟩ = some (.int .u64 (come ||| 2 ^ q.1 : Nat)) ∧ W'.frozen? ⟨O + 1, 0, none⟩ = WL.frozen? ⟨O + 1, 0, none⟩
theorem fIn_own {P Q : Nat → Nat} {p N come X : Nat} {WL : World} (hN : N + 1 < X) : OwnFrom X (fIn P Q p N come X WL) := by
  rintro pre A B row ⟨h1, ⟨D, h2, h3⟩, h4, h5⟩ hg hr
  have hne : ∀ k, k < X → some k ≠ row := fun k hk e => by have := (hr k e.symm).1; omega
  exact ⟨h1, ⟨D, h2.kept (hg.block _ (by omega) (hne _ hN)), h3⟩, h4.trans (But.grown hg h5 (fun r e => .inl (hr r e).1)), Nat.le_trans h5 hg.size⟩
theorem fOut_own {P Q : Nat → Nat} {p N O i come X : Nat} {WL : World} (hN : N + 1 < X) (hO : O + 1 < X) (c : Code) : OwnFrom X (fOut P Q p N O i come X WL c) := by
  rintro pre A B row ⟨h0, b, q, h1, h2, h3, ⟨D, h4, h5⟩, h6, h7, h8, h9, h10, h11, h12⟩ hg hr
  have hne : ∀ k, k < X → some k ≠ row := fun k hk e => by have := (hr k e.symm).1; omega
  refine ⟨h0, b, q, h1, h2, h3, ⟨D, h4.kept (hg.block _ (by omega) (hne _ hN)), h5⟩, h6.trans (But.grown hg h7 (fun r e => .inl (hr r e).1)), Nat.le_trans h7 hg.size, hg.cell h8 (hne O (by omega)), fun j v hj hv => hg.cell (h9 j v hj hv) (hne O (by omega)), fun j => ?_, hg.cell h11 (hne _ hO), ?_⟩
  · rw [World.frozen?_of_block (hg.block O (by omega) (hne O (by omega)))]; exact h10 j
  · rw [World.frozen?_of_block (hg.block (O + 1) (by omega) (hne _ hO))]; exact h12

theorem FInv.step {s : Sps} {w wr WL W' : World} {P Q : Nat → Nat} {p B N O i come k Dd : Nat} {pre Ds : List Nat} (hp6 : p ≤ 6) (hI : FInv s w P Q p B N O i come pre Ds wr) (hlt : i < p) (b : List (Can P Q come p)) (q : Can P Q come p) (hk : k < p)
    (hSp : (b ++ [q]).map (·.1) = cand P Q come (k + 1)) (hb0 : ∀ x, x ∈ b → waysOf P Q p (come ||| 2 ^ x.1) = 0) (hq0 : 0 < waysOf P Q p (come ||| 2 ^ q.1)) (hBN : B < N) (hwN : w.heap.size + 2 ≤ N) (hNO : N + 6 ≤ O)
    (hbL : Below wr.heap.size wr WL) (hsL : WL.heap.size = wr.heap.size + 4) (hDd : WL.heap.size ≤ Dd) (hKd : W'.heap[Dd]? = some (.deferred (some []))) (hM : ∃ D, MapIs W' (N + 1) .u64 D ∧ Knows (fun c => .int .i64 (waysOf P Q p c)) D)
    (hbut : But (fun k => k = N + 1 ∨ k = O ∨ k = O + 1) WL.heap.size WL W') (hszx : WL.heap.size ≤ W'.heap.size) (ho : W'.cell? ⟨O, i, none⟩ = some (.int .i64 (q.1 : Nat))) (hoth : ∀ j v, j ≠ i → WL.cell? ⟨O, j, none⟩ = some v → W'.cell? ⟨O, j, none⟩ = some v)
    (hof : ∀ j, W'.frozen? ⟨O, j, none⟩ = WL.frozen? ⟨O, j, none⟩) (hcm : W'.cell? ⟨O + 1, 0, none⟩ = some (.int .u64 (come ||| 2 ^ q.1 : Nat))) (hcf : W'.frozen? ⟨O + 1, 0, none⟩ = WL.frozen? ⟨O + 1, 0, none⟩) :
    FInv s w P Q p B N O (i + 1) (come ||| 2 ^ q.1) (pre ++ [q.1]) (Dd :: Ds) W' := by
  have hsw := hI.sz
  have hH := head_goOn hp6 hI.cd hI.cl hlt b q hk hSp hb0 hq0
  have hcl' : come ||| 2 ^ q.1 < 2 ^ p := or_lt hI.cl q.2.1
  have hbL0 : ∀ k, k < wr.heap.size → WL.heap[k]? = wr.heap[k]? := fun k hk => hbL.block k hk
  have hold : ∀ {bb o : Nat} {v : Value}, wr.cell? ⟨bb, o, none⟩ = some v → bb ≠ N + 1 → bb ≠ O → bb ≠ O + 1 → W'.cell? ⟨bb, o, none⟩ = some v := fun {bb o v} h1 h2 h3 h4 => hbut.cell (Below.cellSome hbL h1) (by have := lt_of_cell h1; omega) (by omega)
  have hDs : ∀ D, D ∈ Ds → O + 2 ≤ D ∧ D < wr.heap.size ∧ W'.heap[D]? = some (.deferred (some [])) := fun D hD => by
    obtain ⟨h1, h2⟩ := hI.dm D hD
    have h3 := (Array.getElem?_eq_some_iff.1 h2).1
    exact ⟨h1, h3, by rw [hbut.block D (by omega) (by omega), hbL0 D h3]; exact h2⟩
  refine ⟨by omega, hH.2, hcl', by simp [hI.pl], ?_, hq0, ?_, by omega, hold hI.K (by omega) (by omega) (by omega), hold hI.E (by omega) (by omega) (by omega), ?_, ?_, ?_, hcm, ?_, hold hI.T (by omega) (by omega) (by omega),
    ⟨hold hI.W.a (by omega) (by omega) (by omega), hold hI.W.k (by omega) (by omega) (by omega), hold hI.W.r (by omega) (by omega) (by omega), hold hI.W.o (by omega) (by omega) (by omega)⟩, hM,
    ⟨hold hI.R.c3 (by omega) (by omega) (by omega), fun i hi => hold (hI.R.pl i hi) (by omega) (by omega) (by omega), fun i hi => hold (hI.R.be i hi) (by omega) (by omega) (by omega)⟩, ?_, ?_⟩
  · rw [hI.hd, hH.1]
    cases (goOn P Q p (p - (i + 1)) (come ||| 2 ^ q.1)).head? <;> simp
  · refine (hI.bl.trans (hbL.mono (by omega))).trans ?_
    exact ⟨hbut.os, hbut.tape, hbut.output, hbut.size, fun k hk => hbut.block k (by omega) (by omega)⟩
  · exact (hbut.frozen (by omega) (by omega)).trans ((frozen_below hbL (by omega)).trans hI.F)
  · intro j hj
    by_cases e : j = i
    · subst e
      rw [ho]
      have : (pre ++ [q.1]).getD j 0 = q.1 := by
        simp [List.getD, List.getElem?_append, hI.pl]
      rw [this]
    · have h1 := hoth j _ e (Below.cellSome hbL (hI.od j hj))
      rw [h1]
      have : (pre ++ [q.1]).getD j 0 = pre.getD j 0 := by
        rcases Nat.lt_or_ge j i with h | h
        · simp [List.getD, List.getElem?_append, hI.pl, h]
        · have h2 : (pre ++ [q.1]).length ≤ j := by simp [hI.pl]; omega
          simp [List.getD, List.getElem?_eq_none h2, List.getElem?_eq_none (show pre.length ≤ j by rw [hI.pl]; omega)]
      rw [this]
  · exact fun j => (hof j).trans ((frozen_below hbL (by omega)).trans (hI.of j))
  · exact hcf.trans ((frozen_below hbL (by omega)).trans hI.cf)
  · rw [List.nodup_cons]
    exact ⟨fun hD => by have := (hDs Dd hD).2.1; omega, hI.nd⟩
  · intro D hD
    rcases List.mem_cons.1 hD with rfl | hD
    · exact ⟨by omega, hKd⟩
    · exact ⟨(hDs D hD).1, (hDs D hD).2.2⟩

theorem leavesM_marks {n : Nat} {P : Program} {fn : Func} {tmps : Array Value} {R : Ending → World → Prop} {S : Nat → Prop} {X : Nat} {w0 : World} {rest : List Deferred} :
    ∀ (Ds : List Nat) (w : World), Ds.Nodup → But S X w0 w → (∀ D, D ∈ Ds → (X ≤ D ∨ S D) ∧ w.heap[D]? = some (.deferred (some []))) →
      (∀ w', But S X w0 w' → (∀ k, k ∉ Ds → w'.heap[k]? = w.heap[k]?) → LeavesInM Fence.wide n P fn tmps R rest .returning w') →
      LeavesInM Fence.wide n P fn tmps R (Ds.map (fun D => ({ target := .collected D, args := #[] } : Deferred)) ++ rest) .returning w
  | [], w, _, hb, _, h => h w hb (fun _ _ => rfl)
  | D :: Ds, w, hn, hb, hd, h => by
    rw [List.nodup_cons] at hn
    have h1 := hd D (by simp)
    refine ⟨by simp, .inl ⟨_, _, rfl, run_takeDeferred h1.2, ?_⟩⟩
    refine leavesM_marks Ds _ hn.2 (hb.put _ h1.1) (fun D' hD' => ⟨(hd D' (by simp [hD'])).1, ?_⟩) (fun w' hb' hk => h w' hb' (fun k hk' => ?_))
    · rw [World.putObj_heap_other (fun e => hn.1 (by rw [← e]; exact hD'))]
      exact (hd D' (by simp [hD'])).2
    · simp only [List.mem_cons, not_or] at hk'
      rw [hk k hk'.2, World.putObj_heap_other (fun e => hk'.1 e)]
theorem make_p (wr : World) (n : Nat) (hn : n ≤ 6) : (Instr.makeSlice 22 (.int .i64 n) (.int .i64 n)).run Try.prog wr = .ok (.slice (some ⟨wr.heap.size, 0, none⟩) n n) (wr.alloc (.cells (List.replicate n (.int .i64 0)).toArray 3)) := by
  obtain rfl | rfl | rfl | rfl | rfl | rfl | rfl : n = 0 ∨ n = 1 ∨ n = 2 ∨ n = 3 ∨ n = 4 ∨ n = 5 ∨ n = 6 := by omega
  all_goals (show _ = _; kernel_rfl)

set_option maxRecDepth 100000 in
set_option maxHeartbeats 8000000 in
theorem first_api (s : Sps) (sp : Int) (v : Value) (w : World) (hs : IsSps w v s) :
    Calls Try.prog 17 #[v, .int .i64 sp] w (firstPost s sp w) := by
  have hsp := hs
  obtain ⟨vp, vl, rfl, hpts, hlst⟩ := hs
  obtain ⟨pa, pc, rfl, hp1, hp2⟩ := IsRows.slice hpts
  obtain ⟨la, lc, rfl, hl1, hl2⟩ := IsRows.slice hlst.choose_spec.choose_spec.1
  have hmf : ∀ (fn : Fn) (first cap : Array Value) (w : World), (Instr.makeFunc fn first cap).run Try.prog w = .ok (.func fn first cap) w := fun _ _ _ _ => rfl
  obtain ⟨W, hW⟩ : ∃ W, ((w.alloc (.cells #[.int .i64 s.pairs, .slice pa s.points.length pc, .slice la s.list.length lc] 25)).alloc (.cells #[.int .i64 0] 28)) = W := ⟨_, rfl⟩
  have hb0 : Below w.heap.size w W := by rw [← hW]; exact (((Below.refl _ _).alloc (Nat.le_refl _) _).alloc (by simp) _)
  have hsz : W.heap.size = w.heap.size + 2 := by rw [← hW]; simp
  have k0 : W.cell? ⟨w.heap.size, 0, none⟩ = some (.int .i64 s.pairs) := by rw [← hW]; exact cellP (cellN rfl rfl) _
  have k1 : W.cell? ⟨w.heap.size, 1, none⟩ = some (.slice pa s.points.length pc) := by rw [← hW]; exact cellP (cellN rfl rfl) _
  have k2 : W.cell? ⟨w.heap.size, 2, none⟩ = some (.slice la s.list.length lc) := by rw [← hW]; exact cellP (cellN rfl rfl) _
  have e0 : W.cell? ⟨w.heap.size + 1, 0, none⟩ = some (.int .i64 0) := by rw [← hW]; exact cellN (by simp) rfl
  have fe : W.frozen? ⟨w.heap.size + 1, 0, none⟩ = false := by rw [← hW]; exact World.frozen?_alloc_at _ _ _ _ (by simp)
  have HO := Lib.hid (open_any s sp true _ W (hsp.below hb0))
  refine (callsIn_wide (n := 3)).1 ?_
  refine callsIn_of_wp_marks Try.func17 rfl trivial ?_ rfl
  simp only [Try.ntmps17, List.size_toArray, List.length_cons, List.length_nil, Nat.reduceAdd, Nat.reduceSub, Array.replicate_succ, Array.replicate_zero, List.push_toArray, List.append_toArray, List.nil_append, List.cons_append]
  gi_wp2_with (refine ⟨trivial, ?_⟩; gi_at_call 51; refine (callsIn_wide.2 HO.out).mono ?_)
  rintro e w1 ⟨hb1, h⟩
  have hb : Below w.heap.size w w1 := hb0.trans (hb1.mono (by omega))
  have K0 := Below.cellSome hb1 k0
  have E0 := Below.cellSome hb1 e0
  have Fe : w1.frozen? ⟨w.heap.size + 1, 0, none⟩ = false := (frozen_below hb1 (by omega)).trans fe
  have hsz1 := hb1.size
  rcases h with ⟨hg, rfl⟩ | ⟨hg, hn, rfl⟩ | ⟨n, hn, B, hg, _, rfl, rfl, hB, hrun⟩
  · have HRR := Lib.hid (show firstE s sp = 1 by simp [firstE, hg])
    refine leavesM_fn (f := 50) (args := #[.pointer (some ⟨w.heap.size + 1, 0, none⟩)]) (by simp) (by simp [go_sem]) ?_
    refine (told_panicIn _ (w.heap.size + 1) (.int .i64 0) 1 [] _ E0 Fe).mono ?_
    rintro e u' w'' ⟨rfl, rfl, rfl⟩
    have y0 := told_cell E0 1
    have hfin := told_below hb (show w.heap.size ≤ w.heap.size + 1 by omega) 1
    simp [LeavesInM, LeavesIn, settle, results, Try.results17, go_sem, y0]
    exact ⟨hfin, .inl ⟨by rw [HRR.out]; omega, by rw [HRR.out]⟩⟩
  · have HRR := Lib.hid (show firstE s sp = 2 by simp [firstE, hg, show isNum s sp = false by simpa using hn])
    refine leavesM_fn (f := 50) (args := #[.pointer (some ⟨w.heap.size + 1, 0, none⟩)]) (by simp) (by simp [go_sem]) ?_
    refine (told_panicIn _ (w.heap.size + 1) (.int .i64 0) 2 [] _ E0 Fe).mono ?_
    rintro e u' w'' ⟨rfl, rfl, rfl⟩
    have y0 := told_cell E0 2
    have hfin := told_below hb (show w.heap.size ≤ w.heap.size + 1 by omega) 2
    simp [LeavesInM, LeavesIn, settle, results, Try.results17, go_sem, y0]
    exact ⟨hfin, .inl ⟨by rw [HRR.out]; omega, by rw [HRR.out]⟩⟩
  · have hG := good_of hg
    have hX := hG.x hn
    have h1 := hG.p1
    have h6 := hG.p6
    have HE := Lib.hid (show firstE s n = (if waysX s s.list[n] (every s.list[n]) = 0 then 10 else 0) by
      have h1 : isNum s n = true := by simp [isNum]; omega
      have h2 : sprOf s n = s.list[n] := by simp [sprOf, hn]
      simp [firstE, hg, h1, h2])
    have HF := Lib.hid (show sprOf s n = s.list[n] by simp [sprOf, hn])
    obtain ⟨a1, c1, a2, c2, hR, _, _⟩ := hrun
    obtain ⟨p, hp⟩ : ∃ p : Nat, s.pairs.toNat = p := ⟨_, rfl⟩
    have hpn : s.pairs = p := by omega
    obtain ⟨P, hP⟩ : ∃ P, placeK s.pairs.toNat (every s.list[n]) s.list[n].ahead.length s.list[n].places s.list[n].places.length = P := ⟨_, rfl⟩
    obtain ⟨Q, hQ⟩ : ∃ Q, beforeK (every s.list[n]) s.list[n].ahead s.list[n].ahead.length = Q := ⟨_, rfl⟩
    have Hup := Lib.hid (show ∀ i, U64 (P i) from fun i => by rw [← hP]; exact placeK_u64 s.pairs.toNat (every s.list[n]) s.list[n].ahead.length (by omega) s.list[n].places s.list[n].places.length i)
    have Hub := Lib.hid (show ∀ i, U64 (Q i) from fun i => by rw [← hQ]; exact beforeK_u64 (every s.list[n]) s.list[n].ahead (fun j hj => by have := hX.ah j hj; omega) s.list[n].ahead.length (Nat.le_refl _) i)
    have HWX := Lib.hid (show waysX s s.list[n] (every s.list[n]) = waysOf P Q p 0 by unfold waysX; rw [hP, hQ, hp])
    have HFX := Lib.hid (show firstX s s.list[n] = ((goOn P Q p p 0).head?).getD [] by unfold firstX; rw [hP, hQ, hp])
    have hR' : RunR w1 B p P Q := ⟨by rw [← hpn]; exact hR.c3, by rw [← hP]; exact hR.pl, by rw [← hQ]; exact hR.be⟩
    have hp6 : p ≤ 6 := by omega
    have hp1 : 1 ≤ p := by omega
    rw [hpn] at K0
    clear hR hP hQ
    have Hp := Lib.hid hp
    clear hg hsp hpts hlst k0 k1 k2 e0 fe hW hb0 HO hX hp
    have HW := Lib.hid (ways_any B p hp6 w1 hR'.c3)
    obtain ⟨N, hN⟩ : ∃ N, w1.heap.size = N := ⟨_, rfl⟩
    gi_wp2_with (refine ⟨trivial, ?_⟩; gi_at_call 56; refine (callsIn_wide.2 HW.out).mono ?_; rintro e w2 ⟨rfl, hM⟩)
    have hBN : B < N := by rw [← hN]; exact lt_of_cell hR'.c3
    have Hwv := Lib.hid (counts_of P Q hp6)
    obtain ⟨hMe, hMm, hMb, hMs⟩ := hM
    rw [hN] at hMe hMm hMs
    have hb12 : Below w1.heap.size w1 (w2.alloc (.cells #[waysV N] 84)) := hMb.alloc (by omega) _
    have hT : (w2.alloc (.cells #[waysV N] 84)).cell? ⟨N + 5, 0, none⟩ = some (waysV N) := cellN (by omega) rfl
    have hE3 := (Below.refl w2.heap.size w2).alloc (Nat.le_refl _) (.cells #[waysV N] 84)
    have hMe3 : WaysAt (w2.alloc (.cells #[waysV N] 84)) (N + 1 + 1 + 1) (N + 1 + 1) N (N + 1 + 1 + 1 + 1) B (N + 1) (2 ^ p - 1) := ⟨Below.cellSome hE3 hMe.a, Below.cellSome hE3 hMe.k, Below.cellSome hE3 hMe.r, Below.cellSome hE3 hMe.o⟩
    have hMm3 : MapIs (w2.alloc (.cells #[waysV N] 84)) (N + 1) .u64 (fun _ => none) := hMm.kept (hE3.block _ hMm.lt)
    have hR3 := hR'.below hb12
    have K3 := Below.cellSome hb12 K0
    have E3 := Below.cellSome hb12 E0
    have F3 : (w2.alloc (.cells #[waysV N] 84)).frozen? ⟨w.heap.size + 1, 0, none⟩ = false := (frozen_below hb12 (by omega)).trans Fe
    have hb3 : Below w.heap.size w (w2.alloc (.cells #[waysV N] 84)) := hb.trans (hb12.mono (by omega))
    have hs3 : (w2.alloc (.cells #[waysV N] 84)).heap.size = N + 6 := by simp; omega
    have hs2 : w2.heap.size = N + 5 := by omega
    have hcall := waysCall p hp6 P Q Hup.out Hub.out (waysOf P Q p) Hwv.out N B hBN (w2.alloc (.cells #[waysV N] 84)) (fun _ => none) 0 (Nat.two_pow_pos _) hMe3 hR3 hMm3 (fun n v h => by cases h)
    rw [show ((0 : Nat) : Int) = 0 from rfl] at hcall
    have hwN : w.heap.size + 2 ≤ N := by omega
    rw [hs2]
    refine ⟨trivial, (callsIn_wide.2 hcall).mono ?_⟩
    rintro e w4 ⟨rfl, D, hD1, hD2, hD3⟩
    generalize (w2.alloc (.cells #[waysV N] 84)) = w3 at *
    have hT4 := grown_cell hD3 hT (by omega)
    have hE4 : WaysAt w4 (N + 1 + 1 + 1) (N + 1 + 1) N (N + 1 + 1 + 1 + 1) B (N + 1) (2 ^ p - 1) := hMe3.grown hD3 (by omega) (by omega) (by omega) (by omega)
    have hR4 := hR3.grown hD3 (by omega)
    have K4 := grown_cell hD3 K3 (by omega)
    have E4 := grown_cell hD3 E3 (by omega)
    have F4 : w4.frozen? ⟨w.heap.size + 1, 0, none⟩ = false := (grown_frozen hD3 (by omega) (by omega)).trans F3
    have hb4 : Below w.heap.size w w4 := hb3.grown hD3 (by omega) (fun j e => by cases e; omega)
    have hs4 : N + 6 ≤ w4.heap.size := by have := hD3.size; omega
    clear hcall hT hE3 hMe3 hMm3 hR3 K3 E3 F3 hb3 hb12 hMe hMm hMb hMs hs2 hs3 hD3 hb hb1 hR' K0 E0 Fe HW hN hsz1 hsz hB
    obtain ⟨c, hcw⟩ : ∃ c, waysOf P Q p 0 = c := ⟨_, rfl⟩
    have Hcw := Lib.hid hcw
    rw [hcw]
    clear hcw
    by_cases hc0 : 0 < c
    case neg =>
      have hd : decide ((0 : Int) < (c : Int)) = false := by simp; omega
      have HRR := Lib.hid (show firstE s n = 10 by rw [HE.out, if_pos (by rw [HWX.out, Hcw.out]; omega)])
      gi_wp2_with (refine ⟨trivial, ?_⟩; gi_at_call 57; (with_reducible refine (callsIn_wide.2 (must_no _ _)).mono ?_); rintro e w' ⟨rfl, rfl⟩)
      refine leavesM_fn (f := 50) (args := #[.pointer (some ⟨w.heap.size + 1, 0, none⟩)]) (by simp) (by simp [go_sem]) ?_
      refine (told_panicIn _ (w.heap.size + 1) (.int .i64 0) 10 [] _ E4 F4).mono ?_
      rintro e u' w'' ⟨rfl, rfl, rfl⟩
      have y0 := told_cell E4 10
      have hfin := told_below hb4 (show w.heap.size ≤ w.heap.size + 1 by omega) 10
      simp [LeavesInM, LeavesIn, settle, results, Try.results17, go_sem, y0]
      exact ⟨hfin, .inl ⟨by rw [HRR.out]; omega, by rw [HRR.out]⟩⟩
    case pos =>
      have hd : decide ((0 : Int) < (c : Int)) = true := by simp; omega
      have HRR := Lib.hid (show firstE s n = 0 by rw [HE.out, if_neg (by rw [HWX.out, Hcw.out]; omega)])
      have hwz : w.heap.size < w4.heap.size := by omega
      have Kx : ∀ o1 o2, ((w4.alloc o1).alloc o2).cell? ⟨w.heap.size, 0, none⟩ = some (.int .i64 p) := fun o1 o2 => cellP (cellP K4 _) _
      gi_wp2_with (refine ⟨trivial, ?_⟩; gi_at_call 57; (with_reducible refine (callsIn_wide.2 (must_yes _ _)).mono ?_); rintro e w' ⟨rfl, rfl⟩)
      have hge : Below w4.heap.size w4 ((w4.alloc (.cells #[.int .i64 0, .int .i64 0, .int .i64 0, .int .i64 0, .int .i64 0, .int .i64 0] 88)).alloc (.cells #[.int .u64 0] 87)) := ((Below.refl _ _).alloc (Nat.le_refl _) _).alloc (by simp) _
      have hOd : ∀ j, j < 6 → ((w4.alloc (.cells #[.int .i64 0, .int .i64 0, .int .i64 0, .int .i64 0, .int .i64 0, .int .i64 0] 88)).alloc (.cells #[.int .u64 0] 87)).cell? ⟨w4.heap.size, j, none⟩ = some (.int .i64 0) := by
        intro j hj
        refine cellP (cellN rfl ?_) _
        match j, hj with
        | 0, _ => rfl
        | 1, _ => rfl
        | 2, _ => rfl
        | 3, _ => rfl
        | 4, _ => rfl
        | 5, _ => rfl
      have hOf : ∀ j, ((w4.alloc (.cells #[.int .i64 0, .int .i64 0, .int .i64 0, .int .i64 0, .int .i64 0, .int .i64 0] 88)).alloc (.cells #[.int .u64 0] 87)).frozen? ⟨w4.heap.size, j, none⟩ = false := fun j => (frozen_below ((Below.refl _ _).alloc (Nat.le_refl _) _) (by simp)).trans (World.frozen?_alloc_at _ _ _ _ rfl)
      have hCf : ((w4.alloc (.cells #[.int .i64 0, .int .i64 0, .int .i64 0, .int .i64 0, .int .i64 0, .int .i64 0] 88)).alloc (.cells #[.int .u64 0] 87)).frozen? ⟨w4.heap.size + 1, 0, none⟩ = false := World.frozen?_alloc_at _ _ _ _ (by simp)
      have hCm : ((w4.alloc (.cells #[.int .i64 0, .int .i64 0, .int .i64 0, .int .i64 0, .int .i64 0, .int .i64 0] 88)).alloc (.cells #[.int .u64 0] 87)).cell? ⟨w4.heap.size + 1, 0, none⟩ = some (.int .u64 0) := cellN (by simp) rfl
      have hsO : ((w4.alloc (.cells #[.int .i64 0, .int .i64 0, .int .i64 0, .int .i64 0, .int .i64 0, .int .i64 0] 88)).alloc (.cells #[.int .u64 0] 87)).heap.size = w4.heap.size + 2 := by simp
      obtain ⟨O, hO⟩ : ∃ O, w4.heap.size = O := ⟨_, rfl⟩
      have hW0 : FInv s w P Q p B N O 0 0 [] [] ((w4.alloc (.cells #[.int .i64 0, .int .i64 0, .int .i64 0, .int .i64 0, .int .i64 0, .int .i64 0] 88)).alloc (.cells #[.int .u64 0] 87)) := by
        rw [hO] at hOd hOf hCf hCm hsO
        exact ⟨Nat.zero_le _, card_zero, Nat.two_pow_pos _, rfl, by rw [Nat.sub_zero]; simp, by rw [Hcw.out]; exact hc0, hb4.trans (hge.mono (by omega)), by omega, Below.cellSome hge K4, Below.cellSome hge E4, (frozen_below hge (by omega)).trans F4, hOd, hOf, hCm, hCf,
          Below.cellSome hge hT4, ⟨Below.cellSome hge hE4.a, Below.cellSome hge hE4.k, Below.cellSome hge hE4.r, Below.cellSome hge hE4.o⟩, ⟨D, hD1.kept (hge.block _ hD1.lt), hD2⟩, hR4.below hge, List.nodup_nil, fun D h => by cases h⟩
      have hNO : N + 6 ≤ O := by omega
      generalize ((w4.alloc (.cells #[.int .i64 0, .int .i64 0, .int .i64 0, .int .i64 0, .int .i64 0, .int .i64 0] 88)).alloc (.cells #[.int .u64 0] 87)) = w5 at *
      rw [hO]
      clear hge hOd hOf hCf hCm hsO hO K4 E4 F4 hb4 hT4 hE4 hD1 hD2 hR4 hs4 Kx hwz
      refine wpIn_loop (fun a wr => ∃ (i come : Nat) (pre : List Nat) (Ds : List Nat) (u10 u11 v23 u24 u25 u26 u27 u28 u29 u30 u31 u32 u33 u34 u35 u36 u37 u38 u39 u40 u41 u42 u43 u44 : Value), a = { tmps := #[.agg #[.int .i64 p, .slice pa s.points.length pc, .slice la s.list.length lc], .int .i64 n, .pointer (some ⟨w.heap.size, 0, none⟩), undef, .slice none 0 0, .pointer (some ⟨w.heap.size + 1, 0, none⟩), .pointer (some ⟨B, 0, none⟩), .pointer (some ⟨N + 5, 0, none⟩), .pointer (some ⟨O, 0, none⟩), .pointer (some ⟨O + 1, 0, none⟩), u10, u11, .agg #[.int .i64 p, .slice pa s.points.length pc, .slice la s.list.length lc], .int .i64 n, .pointer (some ⟨B, 0, none⟩), .pointer (some ⟨B, 0, none⟩), waysV N, .func (.func 87) #[] #[.pointer (some ⟨N + 1 + 1 + 1, 0, none⟩), .pointer (some ⟨N + 1 + 1, 0, none⟩), .pointer (some ⟨N, 0, none⟩), .pointer (some ⟨N + 1 + 1 + 1 + 1, 0, none⟩)], .int .i64 c, .bool true, .tuple #[], .pointer (some ⟨w.heap.size, 0, none⟩), .int .i64 p, v23, u24, u25, u26, u27, u28, u29, u30, u31, u32, u33, u34, u35, u36, u37, u38, u39, u40, u41, u42, u43, u44, undef, undef, undef, undef, undef, undef, undef], defers := Ds.map (fun D => ({ target := .collected D, args := #[] } : Deferred)) ++ [{ target := Target.fn (Fn.func 50) #[], args := #[.pointer (some ⟨w.heap.size + 1, 0, none⟩)] }] } ∧ v23 = .int .i64 (i : Nat) ∧ FInv s w P Q p B N O i come pre Ds wr)
        (fun a _ => p - (intOf (a.tmps.getD 23 undef)).toNat) ⟨0, 0, [], [], _, _, _, _, _, _, _, _, _, _, _, _, _, _, _, _, _, _, _, _, _, _, _, _, rfl, rfl, hW0⟩ ?round
      case round =>
        rintro _ wr ⟨i, come, pre, Ds, u10, u11, _, u24, u25, u26, u27, u28, u29, u30, u31, u32, u33, u34, u35, u36, u37, u38, u39, u40, u41, u42, u43, u44, rfl, rfl, hI⟩
        have kk := hI.K
        by_cases hlt : i < p
        · have hdi : decide ((i : Int) < (p : Int)) = true := by simp; omega
          have h64 : come < 64 := Nat.lt_of_lt_of_le hI.cl (by have := Nat.pow_le_pow_right (n := 2) (by omega) hp6; omega)
          have ecm : ∀ o1, (wr.alloc o1).cell? ⟨O + 1, 0, none⟩ = some (.int .u64 come) := fun o1 => cellP hI.cm o1
          gi_wp2_with (refine ⟨trivial, ?_⟩; gi_at_call 58; refine (callsIn_wide.2 (next_any B come h64 _)).mono ?_; rintro e w' ⟨rfl, rfl⟩)
          obtain ⟨WL, hWL⟩ : ∃ WL, nextW (wr.alloc (.cells #[.int .i64 i] 3)) B come = WL := ⟨_, rfl⟩
          have hNx : NextAt WL (wr.heap.size + 1) B come := by
            have := nextW_at (wr.alloc (.cells #[.int .i64 i] 3)) B come
            rw [hWL] at this; simpa using this
          have hbL : Below wr.heap.size wr WL := by rw [← hWL]; exact ((Below.refl _ _).alloc (Nat.le_refl _) _).trans ((nextW_below _ _ _).mono (by simp))
          have hsL : WL.heap.size = wr.heap.size + 4 := by rw [← hWL, nextW_size]; simp
          have hpl : WL.cell? ⟨wr.heap.size, 0, none⟩ = some (.int .i64 i) := by rw [← hWL]; exact Below.cellSome (nextW_below _ _ _) (cellN rfl rfl)
          have hsw := hI.sz
          have hRL := hI.R.below hbL
          have TL := Below.cellSome hbL hI.T
          have CL := Below.cellSome hbL hI.cm
          have EL : WaysAt WL (N + 1 + 1 + 1) (N + 1 + 1) N (N + 1 + 1 + 1 + 1) B (N + 1) (2 ^ p - 1) := ⟨Below.cellSome hbL hI.W.a, Below.cellSome hbL hI.W.k, Below.cellSome hbL hI.W.r, Below.cellSome hbL hI.W.o⟩
          rw [hWL]
          clear hWL
          refine rangeG 29 11 rfl (by omega) (gf := 89) (lb := #[.pointer (some ⟨wr.heap.size + 1, 0, none⟩), .pointer (some ⟨wr.heap.size + 1 + 1, 0, none⟩), .pointer (some ⟨wr.heap.size + 1 + 1 + 1, 0, none⟩)]) rfl trivial (enters_of Try.func89 (by kernel_rfl) rfl)
            (next_stops 2 (by omega) (wr.heap.size + 1) B come p hp6 h64 P Q Hup.out Hub.out WL hNx hRL (by omega)) Kp4.trans ?hKb (Below.refl _ _)
            (fIn P Q p N come WL.heap.size WL) (fOut P Q p N O i come WL.heap.size WL) (fIn_own (by omega)) (fOut_own (by omega) (by omega))
            ⟨(fun q h => by cases h), ?m0, But.refl _ _ _, Nat.le_refl _⟩ ?assign ?body ?done ?stop
          case hKb => exact fun W' l o o' hl _ _ _ => kp4_putObj W' o' (by omega) (by omega)
          case m0 =>
            obtain ⟨D, h1, h2⟩ := hI.M
            exact ⟨D, h1.kept (hbL.block _ h1.lt), h2⟩
          case assign =>
            intro l x W K hK
            gi_wp2
            exact hK
          case body =>
            rintro l pr x W' ⟨g1, ⟨D', g2, g3⟩, g4, g5⟩ hlen
            simp only [List.setIfInBounds_toArray, List.set_cons_zero, List.set_cons_succ]
            have Hx : Hid (x.1 = x.1) := Lib.hid rfl
            obtain ⟨x, hx, hok⟩ := x
            have hxt : come.testBit x = false := by
              simp only [okN, Bool.and_eq_true, Bool.not_eq_true'] at hok; exact hok.1.1
            have hx64 : x < 64 := by omega
            have huc : U64 come := U64.of h64 (by omega)
            have hun : U64 (come ||| 2 ^ x) := huc.or (pow_lt_u64 hx64)
            have T0 : W'.drew.cell? ⟨N + 5, 0, none⟩ = some (waysV N) := g4.cell TL (by omega) (by omega)
            have C0 : W'.drew.cell? ⟨O + 1, 0, none⟩ = some (.int .u64 come) := g4.cell CL (by omega) (by omega)
            have gd : But (fun k => k = N + 1) WL.heap.size WL W'.drew := g4.trans (But.below (Below.refl _ W').drew)
            have hcall := waysCall p hp6 P Q Hup.out Hub.out (waysOf P Q p) Hwv.out N B hBN W'.drew D' (come ||| 2 ^ x) (or_lt hI.cl hx)
              ⟨gd.cell EL.a (by omega) (by omega), gd.cell EL.k (by omega) (by omega), gd.cell EL.r (by omega) (by omega), gd.cell EL.o (by omega) (by omega)⟩
              ⟨gd.cell hRL.c3 (by omega) (by omega), fun i hi => gd.cell (hRL.pl i hi) (by omega) (by omega), fun i hi => gd.cell (hRL.be i hi) (by omega) (by omega)⟩ (g2.kept rfl) g3
            obtain ⟨wx, hwx⟩ : ∃ wx, waysOf P Q p (come ||| 2 ^ x) = wx := ⟨_, rfl⟩
            unfold waysPost at hcall
            rw [hwx] at hcall
            have Hcall := Lib.hid hcall; clear hcall
            have Hwx := Lib.hid hwx; clear hwx
            apply wpIn_block
            refine wpIn_seq_k ?_
            intro K1 hK1'
            refine heldRegion (fun X => X.cell? ⟨N + 5, 0, none⟩ = some (waysV N) ∧ X.cell? ⟨O + 1, 0, none⟩ = some (.int .u64 come)) (by kernel_rfl) ?_
            have hS0 := And.intro T0 C0
            refine heldTake 0 (fun _ => trivial) rfl (by kernel_rfl) (by kernel_rfl) (by kernel_rfl) (fun _ _ _ h => h) hS0 rfl (v := waysV N) ?x0 ?_
            case x0 => rintro w ⟨s1, s2⟩; first | (go_simp; done) | simp [execOp, go_sem, *]
            try simp only [Act.put, List.setIfInBounds_toArray, List.set_cons_zero, List.set_cons_succ, List.getElem_toArray, List.getElem_cons_succ, List.getElem_cons_zero]
            refine heldTake 1 (fun _ => trivial) rfl (by kernel_rfl) (by kernel_rfl) (by kernel_rfl) (fun _ _ _ h => h) hS0 rfl (v := .int .u64 come) ?x1 ?_
            case x1 => rintro w ⟨s1, s2⟩; first | (go_simp; done) | simp [execOp, go_sem, *]
            try simp only [Act.put, List.setIfInBounds_toArray, List.set_cons_zero, List.set_cons_succ, List.getElem_toArray, List.getElem_cons_succ, List.getElem_cons_zero]
            refine heldTake 2 (fun _ => trivial) rfl (by kernel_rfl) (by kernel_rfl) (by kernel_rfl) (fun _ _ _ h => h) hS0 rfl (v := .int .i64 x) ?x2 ?_
            case x2 => rintro w ⟨s1, s2⟩; first | (go_simp; done) | simp [execOp, go_sem, *]
            try simp only [Act.put, List.setIfInBounds_toArray, List.set_cons_zero, List.set_cons_succ, List.getElem_toArray, List.getElem_cons_succ, List.getElem_cons_zero]
            refine heldTake 3 (fun _ => trivial) rfl (by kernel_rfl) (by kernel_rfl) (by kernel_rfl) (fun _ _ _ h => h) hS0 rfl (v := .int .u64 (2 ^ x)) ?x3 ?_
            case x3 => rintro w ⟨s1, s2⟩; first | (go_simp; done) | simp [execOp, go_sem, *]
            try simp only [Act.put, List.setIfInBounds_toArray, List.set_cons_zero, List.set_cons_succ, List.getElem_toArray, List.getElem_cons_succ, List.getElem_cons_zero]
            refine heldTake 4 (fun _ => trivial) rfl (by kernel_rfl) (by kernel_rfl) (by kernel_rfl) (fun _ _ _ h => h) hS0 rfl (v := .int .u64 (come ||| 2 ^ x : Nat)) ?x4 ?_
            case x4 => rintro w ⟨s1, s2⟩; first | (go_simp; done) | simp [execOp, go_sem, *]
            try simp only [Act.put, List.setIfInBounds_toArray, List.set_cons_zero, List.set_cons_succ, List.getElem_toArray, List.getElem_cons_succ, List.getElem_cons_zero]
            refine heldNext 5 (by kernel_rfl) rfl rfl (fun K hK => ?_)
            gi_wp2_with (refine ⟨trivial, ?_⟩; gi_at_call 87; refine (CallsIn.inRound l (callsIn_wide.2 Hcall.out)).mono ?_; rintro e w' ⟨rfl, D'', r1, r2, r3⟩)
            have hb1 : But (fun k => k = N + 1) W'.heap.size W'.drew w' := But.grown r3 (Nat.le_refl _) (fun r e => .inr (by cases e; rfl))
            have hb1' : But (fun k => k = N + 1) WL.heap.size WL w' := gd.trans (hb1.mono g5)
            have hS1 := And.intro (hb1'.cell TL (by omega) (by omega)) (hb1'.cell CL (by omega) (by omega))
            have hp0 := hb1'.cell hpl (by omega) (by omega)
            have hsx : WL.heap.size ≤ w'.heap.size := by have := hb1.size; simp at this; omega
            refine hK _ _ (fun _ => hS1) ?_
            clear hK K
            by_cases hwz : 0 < wx
            · have hdz : decide ((0 : Int) < (wx : Int)) = true := by simp; omega
              refine heldTake 6 (fun _ => trivial) rfl (by kernel_rfl) (by kernel_rfl) (by kernel_rfl) (fun _ _ _ h => h) hS1 rfl (v := .bool true) ?x6 ?_
              case x6 => rintro w ⟨s1, s2⟩; first | (go_simp; done) | simp [execOp, go_sem, *]
              try simp only [Act.put, List.setIfInBounds_toArray, List.set_cons_zero, List.set_cons_succ, List.getElem_toArray, List.getElem_cons_succ, List.getElem_cons_zero]
              refine heldDone (by kernel_rfl) ?_ _
              gi_wp2
              have hi6 : (i : Int) < 6 := by omega
              have o0 := hb1'.cell (Below.cellSome hbL (hI.od i (by omega))) (by omega) (by omega)
              have of0 : w'.frozen? ⟨O, i, none⟩ = false := (hb1'.frozen (by omega) (by omega)).trans ((frozen_below hbL (by omega)).trans (hI.of i))
              have cf0 : w'.frozen? ⟨O + 1, 0, none⟩ = false := (hb1'.frozen (by omega) (by omega)).trans ((frozen_below hbL (by omega)).trans hI.cf)
              refine heldRegion (fun X => X.cell? ⟨wr.heap.size, 0, none⟩ = some (.int .i64 i) ∧ X.cell? ⟨O + 1, 0, none⟩ = some (.int .u64 come)) (by kernel_rfl) ?_
              have hS2 : w'.drew.cell? ⟨wr.heap.size, 0, none⟩ = some (.int .i64 i) ∧ w'.drew.cell? ⟨O + 1, 0, none⟩ = some (.int .u64 come) := And.intro hp0 hS1.2
              refine heldTake 0 (fun _ => trivial) rfl (by kernel_rfl) (by kernel_rfl) (by kernel_rfl) (fun _ _ _ h => h) hS2 rfl (v := .int .i64 i) ?y0 ?_
              case y0 => rintro w ⟨s1, s2⟩; first | (go_simp; done) | simp [execOp, go_sem, *]
              try simp only [Act.put, List.setIfInBounds_toArray, List.set_cons_zero, List.set_cons_succ, List.getElem_toArray, List.getElem_cons_succ, List.getElem_cons_zero]
              refine heldTake 1 (fun _ => trivial) rfl (by kernel_rfl) (by kernel_rfl) (by kernel_rfl) (fun _ _ _ h => h) hS2 rfl (v := .int .i64 x) ?y1 ?_
              case y1 => rintro w ⟨s1, s2⟩; first | (go_simp; done) | simp [execOp, go_sem, *]
              try simp only [Act.put, List.setIfInBounds_toArray, List.set_cons_zero, List.set_cons_succ, List.getElem_toArray, List.getElem_cons_succ, List.getElem_cons_zero]
              refine heldTake 2 (fun _ => trivial) rfl (by kernel_rfl) (by kernel_rfl) (by kernel_rfl) (fun _ _ _ h => h) hS2 rfl (v := .int .u64 come) ?y2 ?_
              case y2 => rintro w ⟨s1, s2⟩; first | (go_simp; done) | simp [execOp, go_sem, *]
              try simp only [Act.put, List.setIfInBounds_toArray, List.set_cons_zero, List.set_cons_succ, List.getElem_toArray, List.getElem_cons_succ, List.getElem_cons_zero]
              refine heldTake 3 (fun _ => trivial) rfl (by kernel_rfl) (by kernel_rfl) (by kernel_rfl) (fun _ _ _ h => h) hS2 rfl (v := .int .i64 x) ?y3 ?_
              case y3 => rintro w ⟨s1, s2⟩; first | (go_simp; done) | simp [execOp, go_sem, *]
              try simp only [Act.put, List.setIfInBounds_toArray, List.set_cons_zero, List.set_cons_succ, List.getElem_toArray, List.getElem_cons_succ, List.getElem_cons_zero]
              refine heldTake 4 (fun _ => trivial) rfl (by kernel_rfl) (by kernel_rfl) (by kernel_rfl) (fun _ _ _ h => h) hS2 rfl (v := .int .u64 (2 ^ x)) ?y4 ?_
              case y4 => rintro w ⟨s1, s2⟩; first | (go_simp; done) | simp [execOp, go_sem, *]
              try simp only [Act.put, List.setIfInBounds_toArray, List.set_cons_zero, List.set_cons_succ, List.getElem_toArray, List.getElem_cons_succ, List.getElem_cons_zero]
              refine heldTake 5 (fun _ => trivial) rfl (by kernel_rfl) (by kernel_rfl) (by kernel_rfl) (fun _ _ _ h => h) hS2 rfl (v := .int .u64 (come ||| 2 ^ x : Nat)) ?y5 ?_
              case y5 => rintro w ⟨s1, s2⟩; first | (go_simp; done) | simp [execOp, go_sem, *]
              try simp only [Act.put, List.setIfInBounds_toArray, List.set_cons_zero, List.set_cons_succ, List.getElem_toArray, List.getElem_cons_succ, List.getElem_cons_zero]
              refine heldTake 6 (fun _ => trivial) rfl (by kernel_rfl) (by kernel_rfl) (by kernel_rfl) (fun _ _ _ h => h) hS2 rfl (v := .pointer (some ⟨O, i, none⟩)) ?y6 ?_
              case y6 => rintro w ⟨s1, s2⟩; first | (go_simp; done) | simp [execOp, go_sem, *]
              try simp only [Act.put, List.setIfInBounds_toArray, List.set_cons_zero, List.set_cons_succ, List.getElem_toArray, List.getElem_cons_succ, List.getElem_cons_zero]
              refine heldNext 7 (by kernel_rfl) rfl rfl (fun K hK => ?_)
              gi_wp2
              refine hK _ _ (fun _ => ⟨cellOtherB (w := w') hp0 (by omega), cellOtherB (w := w') hS1.2 (by omega)⟩) ?_
              clear hK K
              try simp only [Act.put, List.setIfInBounds_toArray, List.set_cons_zero, List.set_cons_succ, List.getElem_toArray, List.getElem_cons_succ, List.getElem_cons_zero]
              have c2 : (w'.setCell ⟨O, i, none⟩ (.int .i64 x)).drew.cell? ⟨O + 1, 0, none⟩ = some (.int .u64 come) := cellOtherB (w := w') hS1.2 (by omega)
              refine heldLast 8 (by kernel_rfl) rfl (by kernel_rfl) (by kernel_rfl) rfl (fun K hK => ?_)
              simp only [List.getElem_toArray, List.getElem_cons_succ, List.getElem_cons_zero]
              gi_wp2
              have hbu : But (fun k => k = N + 1 ∨ k = O ∨ k = O + 1) W'.heap.size W' ((w'.setCell ⟨O, i, none⟩ (.int .i64 x)).setCell ⟨O + 1, 0, none⟩ (.int .u64 (come ||| 2 ^ x : Nat))).drew :=
                (((((But.below (Below.refl _ W').drew).trans hb1).more (fun k h => .inl h)).set i _ (.inr (.inr (.inl rfl)))).set 0 _ (.inr (.inr (.inr rfl)))).trans (But.below (Below.refl _ _).drew)
              show KeepsFrom _ _ _ ∧ _
              refine ⟨keeps_of_but hbu (by rintro k (rfl | rfl | rfl) <;> omega), rfl, pr, ⟨x, hx, hok⟩, rfl, g1, by show 0 < waysOf P Q p (come ||| 2 ^ x); rw [Hwx.out]; exact hwz, ⟨D'', ?_, r2⟩, ?_, ?_, ?_, ?_, ?_, ?_, ?_⟩
              · exact r1.kept (by
                  show ((w'.setCell ⟨O, i, none⟩ (.int .i64 x)).setCell ⟨O + 1, 0, none⟩ (.int .u64 (come ||| 2 ^ x : Nat))).heap[N + 1]? = _
                  rw [Below.heap_setCell _ _ _ _ (by simp; omega), Below.heap_setCell _ _ _ _ (by simp; omega)])
              · exact (g4.more (fun k h => .inl h)).trans (hbu.mono g5)
              · have := hbu.size; omega
              · exact cellOtherB (cellSame o0) (by omega)
              · intro j v hj hv
                exact cellOtherB (cellOther (hb1'.cell hv (by omega) (by omega)) (Ne.symm hj)) (by omega)
              · intro j
                show ((w'.setCell ⟨O, i, none⟩ (.int .i64 x)).setCell ⟨O + 1, 0, none⟩ (.int .u64 (come ||| 2 ^ x : Nat))).frozen? _ = _
                rw [World.frozen?_setCell, World.frozen?_setCell]; exact hb1'.frozen (by omega) (by omega)
              · exact cellSame (cellOtherB (w := w') hS1.2 (by omega))
              · show ((w'.setCell ⟨O, i, none⟩ (.int .i64 x)).setCell ⟨O + 1, 0, none⟩ (.int .u64 (come ||| 2 ^ x : Nat))).frozen? _ = _
                rw [World.frozen?_setCell, World.frozen?_setCell]; exact hb1'.frozen (by omega) (by omega)
            · have hdz : decide ((0 : Int) < (wx : Int)) = false := by simp; omega
              refine heldTake 6 (fun _ => trivial) rfl (by kernel_rfl) (by kernel_rfl) (by kernel_rfl) (fun _ _ _ h => h) hS1 rfl (v := .bool false) ?x6 ?_
              case x6 => rintro w ⟨s1, s2⟩; first | (go_simp; done) | simp [execOp, go_sem, *]
              try simp only [Act.put, List.setIfInBounds_toArray, List.set_cons_zero, List.set_cons_succ, List.getElem_toArray, List.getElem_cons_succ, List.getElem_cons_zero]
              refine heldDone (by kernel_rfl) ?_ _
              gi_wp2
              have z1 := keeps_of_but (X := WL.heap.size) ((But.below (Below.refl _ W').drew).trans hb1) (by rintro k rfl; omega)
              have z2 := kp4_of_but (N := wr.heap.size + 1) (B := B) ((But.below (Below.refl _ W').drew).trans hb1) (by omega) (by omega) (by omega) (by omega) (by omega) (by omega)
              refine ⟨z1, z2, ?_, ⟨D'', r1, r2⟩, hb1', hsx⟩
              intro q hq
              rcases List.mem_append.1 hq with hq | hq
              · exact g1 q hq
              · simp at hq
                subst hq
                show waysOf P Q p (come ||| 2 ^ x) = 0
                rw [Hwx.out]; omega
          case done =>
            rintro Dd xs W' hDd hS ⟨g1, _⟩ hKd
            exact absurd (fDone hp6 (by rw [hI.cd]; exact hlt) hI.cl xs hS g1) (by have := hI.ps; omega)
          case stop =>
            rintro Dd c' pr W' hDd ⟨k, hk, hok, hSp⟩ ⟨rfl, b, q, rfl, hb0, hq0, ⟨D', m1, m2⟩, hbut, hszx, ho, hoth, hof, hcm, hcf⟩ hKd
            have hInv := FInv.step hp6 hI hlt b q hk hSp hb0 hq0 hBN hwN hNO hbL hsL hDd hKd ⟨D', m1, m2⟩ hbut hszx ho hoth hof hcm hcf
            have Hinv := Lib.hid hInv; clear hInv
            gi_wp2
            exact ⟨⟨i + 1, come ||| 2 ^ q.1, pre ++ [q.1], Dd :: Ds, _, _, _, _, _, _, _, _, _, _, _, _, _, _, _, _, _, _, _, _, _, _, _, _, rfl, by go_num, Hinv.out⟩, by simp [intOf]; omega⟩
        · have hip : p = i := by have := hI.ip; omega
          subst hip
          have hdi : decide ((p : Int) < (p : Int)) = false := by simp
          have hmk := make_p wr p hp6
          obtain ⟨Wm, hWm⟩ : ∃ Wm, wr.alloc (.cells (List.replicate p (.int .i64 0)).toArray 3) = Wm := ⟨_, rfl⟩
          rw [hWm] at hmk
          have hbm : Below wr.heap.size wr Wm := by rw [← hWm]; exact (Below.refl _ _).alloc (Nat.le_refl _) _
          have hgm : Wm.heap[wr.heap.size]? = some (.cells (List.replicate p (.int .i64 0)).toArray 3 (0, 0)) := by rw [← hWm]; show (wr.heap.push _)[wr.heap.size]? = _; simp
          have hsm : Wm.heap.size = wr.heap.size + 1 := by rw [← hWm]; simp
          have Em := Below.cellSome hbm hI.E
          have hsO := hI.sz
          have Fm : Wm.frozen? ⟨w.heap.size + 1, 0, none⟩ = false := (frozen_below hbm (by omega)).trans hI.F
          have Om : ∀ j, j < 6 → Wm.cell? ⟨O, j, none⟩ = some (.int .i64 (pre.getD j 0 : Nat)) := fun j hj => Below.cellSome hbm (hI.od j hj)
          have hDm : ∀ D, D ∈ Ds → O + 2 ≤ D ∧ D < wr.heap.size ∧ Wm.heap[D]? = some (.deferred (some [])) := fun D hD => by
            obtain ⟨h1, h2⟩ := hI.dm D hD
            have h3 := (Array.getElem?_eq_some_iff.1 h2).1
            exact ⟨h1, h3, by rw [hbm.block D h3]; exact h2⟩
          have hbw : Below w.heap.size w Wm := hI.bl.trans (hbm.mono (by omega))
          have hlen := hI.pl
          have hhd := hI.hd
          have hnd := hI.nd
          clear hWm
          have Hlen := Lib.hid hlen; have Hhd := Lib.hid hhd; have HDm := Lib.hid hDm; have HOm := Lib.hid Om
          obtain ⟨cs, hcs⟩ : ∃ cs, pre.map (fun (p : Nat) => Value.int .i64 (p : Nat)) = cs := ⟨_, rfl⟩
          have hcl : cs.length = p := by rw [← hcs]; simp [hlen]
          have hcp := run_copy_row (P := Try.prog) Wm 22 22 3 3 wr.heap.size 0 p p ⟨O, 0, none⟩ 6 6 (List.replicate p (.int .i64 0)).toArray 3 cs (by kernel_rfl) (by kernel_rfl) hgm (by rw [hcl]; exact (Nat.min_eq_right hp6).symm)
            (fun j v hj => by
              have hj' : j < p := by rw [← hcl]; exact (List.getElem?_eq_some_iff.1 hj).1
              have := Om j (by omega)
              rw [← hcs, List.getElem?_map] at hj
              cases e : pre[j]? with
              | none => rw [e] at hj; cases hj
              | some x =>
                rw [e] at hj
                cases hj
                have e2 : pre.getD j 0 = x := by simp [List.getD, e]
                rw [e2] at this
                have ea : (⟨O, 0, none⟩ : Addr).add j = ⟨O, j, none⟩ := by simp [Addr.add]; omega
                rw [ea]; exact this) (by simp [hcl]) (fun v hv => by
              rw [← hcs] at hv
              obtain ⟨x, _, rfl⟩ := List.mem_map.1 hv
              rfl)
          rw [hcl] at hcp
          obtain ⟨Wc, hWc⟩ : ∃ Wc, Wm.setRow wr.heap.size ((List.replicate p (Value.int .i64 0)).toArray.toList.take 0 ++ cs ++ (List.replicate p (Value.int .i64 0)).toArray.toList.drop (0 + p)).toArray = Wc := ⟨_, rfl⟩
          rw [hWc] at hcp
          change _ = Result.ok (Value.int .i64 (p : Nat)) Wc at hcp
          have hbc : Below wr.heap.size Wm Wc := by rw [← hWc]; exact (Below.refl _ _).trans ⟨rfl, rfl, rfl, by simp [World.setRow], fun k hk => setRow_other _ _ _ _ (by omega)⟩
          have hgc : Wc.heap[wr.heap.size]? = some (.cells cs.toArray 3 (0, 0)) := by
            rw [← hWc, setRow_heap Wm _ _ _ _ _ hgm]; simp [hcl]
          have hwsz := hI.bl.size
          have Ec : Wc.cell? ⟨w.heap.size + 1, 0, none⟩ = some (.int .i64 0) := (World.cell?_of_block (hbc.block _ (by show w.heap.size + 1 < _; omega))).trans Em
          have Fc : Wc.frozen? ⟨w.heap.size + 1, 0, none⟩ = false := (World.frozen?_of_block (hbc.block _ (by show w.heap.size + 1 < _; omega))).trans Fm
          have HDc := Lib.hid (show ∀ D, D ∈ Ds → O + 2 ≤ D ∧ D < wr.heap.size ∧ Wc.heap[D]? = some (.deferred (some [])) from fun D hD => ⟨(hDm D hD).1, (hDm D hD).2.1, by rw [hbc.block D (hDm D hD).2.1]; exact (hDm D hD).2.2⟩)
          have hbwc : Below w.heap.size w Wc := hbw.trans (hbc.mono (by omega))
          have hsc := hbc.size
          have Hgc := Lib.hid hgc
          have Hcs := Lib.hid hcs
          clear hWc hgm hbm hbc hgc hbw hcs
          have Hnd := Lib.hid hnd
          clear hI hlen hhd hDm Om hnd
          gi_wp2_with fail
          have hfx : firstX s (sprOf s n) = pre := by
            rw [HF.out, HFX.out, Hhd.out, Nat.sub_self]
            unfold goOn
            simp
          have hcx : ((firstX s (sprOf s n)).map fun (x : Nat) => Value.int .i64 (x : Nat)) = cs := by rw [hfx]; exact Hcs.out
          have hlx : (firstX s (sprOf s n)).length = p := by rw [hfx]; exact Hlen.out
          have hnE : w.heap.size + 1 ∉ Ds := fun h => by have := (HDc.out _ h).1; omega
          have hnR : wr.heap.size ∉ Ds := fun h => by have := (HDc.out _ h).2.1; omega
          have hne : w.heap.size + 1 ≠ wr.heap.size := by omega
          show LeavesInM Fence.wide 3 Try.prog Try.f17 _ (firstPost s n w) (_ ++ _) .returning _
          refine leavesM_marks (S := fun _ => False) (X := w.heap.size) (w0 := w) Ds _ Hnd.out ((But.below hbwc).set 0 _ (.inl (by omega))) ?_ ?_
          · intro D hD
            obtain ⟨h1, h2, h3⟩ := HDc.out D hD
            exact ⟨.inl (by omega), (Below.heap_setCell _ _ _ _ (by simp; omega)).trans h3⟩
          · intro w' hb' hk'
            have y0 : w'.cell? ⟨w.heap.size + 1, 0, none⟩ = some (.int .i64 0) := (World.cell?_of_block (hk' _ hnE)).trans (cellSame Ec)
            have y1 : w'.heap[wr.heap.size]? = some (.cells cs.toArray 3 (0, 0)) := (hk' _ hnR).trans ((Below.heap_setCell _ _ _ _ (by simp; omega)).trans Hgc.out)
            have hfin : Below w.heap.size w w' := ⟨hb'.os, hb'.tape, hb'.output, hb'.size, fun k hk => hb'.block k hk (fun h => h)⟩
            refine leavesM_fn (f := 50) (args := #[.pointer (some ⟨w.heap.size + 1, 0, none⟩)]) (by simp) (by simp [go_sem]) ?_
            refine (told_okIn _ (w.heap.size + 1) _).mono ?_
            rintro e u' w'' ⟨rfl, rfl, rfl⟩
            have hown : w'.ownsRow w.heap.size 3 1 (.slice (some ⟨wr.heap.size, 0, none⟩) p p) p cs := ⟨by simpa using hcl, .inr ⟨wr.heap.size, p, cs.toArray, rfl, by omega, y1, Nat.le_refl _, by simp [maxLen]; omega, by simp [hcl], by simp [← hcl]⟩⟩
            have hpost : firstPost s n w (.returned (.tuple #[.slice (some ⟨wr.heap.size, 0, none⟩) p p, .int .i64 0])) w' :=
              ⟨hfin, .inr ⟨HRR.out, _, rfl, by rw [hlx, hcx]; exact hown⟩⟩
            clear hk' hb' HDc
            simp [LeavesInM, LeavesIn, settle, results, Try.results17, go_sem, y0]
            exact hpost
end Go.Proofs.Ytoabfffmjhdijaa
