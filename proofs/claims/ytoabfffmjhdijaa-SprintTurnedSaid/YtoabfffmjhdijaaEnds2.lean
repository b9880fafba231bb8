import Derived.Test.YtoabfffmjhdijaaEnds
/- The closure of ends. -/
set_option linter.unusedSimpArgs false
set_option linter.unusedVariables false
namespace Go.Proofs.Ytoabfffmjhdijaa
open Go.RowKit Go.Shelf
attribute [local go_sem] Oper.semAt_some

theorem endsOf_step (f : Nat → Int → Int) (worth : Nat → Int) (places before : Nat → Nat) {n come : Nat} (hn : n ≤ 6) (hc : come < 2 ^ n) :
    endsOf f worth places before n come = spanL (worthsBy f worth places before n come (cand places before come n)) := by
  by_cases h : come = 2 ^ n - 1
  · have hnil : cand places before come n = [] := by
      unfold cand
      rw [List.filter_eq_nil_iff]
      intro p hp
      have hp := List.mem_range.1 hp
      have : come.testBit p = true := by rw [h, Nat.testBit_two_pow_sub_one]; simpa using hp
      simp [okN, this]
    rw [hnil, h, endsOf, worths_all f worth places before hn]
    rfl
  · rw [endsOf, worths_step f worth places before hn hc h]
theorem worthsBy_nil (f : Nat → Int → Int) (worth : Nat → Int) (places before : Nat → Nat) (n come : Nat) : worthsBy f worth places before n come [] = [] := rfl
theorem spanL_nil : spanL [] = (0, 0) := rfl
section
variable {F : Fence} {n : Nat} {P : Program} {ops : Array Oper} {Q : Exit → Act → World → Prop} {md : Region.Mode} {S : World → Prop}
/-- Only two numbers can come up. -/
theorem heldTwo (i j : Nat) {oi oj : Oper} {fuel : Nat} {listed : Array Bool} {a : Act} {w : World} (hr : Region.ready md ops listed = [i, j]) (hi : ops[i]? = some oi) (hj : ops[j]? = some oj) (hwi : Region.wanted oi (yielded ops a.tmps) = true) (hwj : Region.wanted oj (yielded ops a.tmps) = true)
    (h1 : ∀ K : Act → World → Prop, (∀ a' w', (lastOp md ops i = false → S w') → wpAnyHI F n P md ops Q S fuel (listed.setIfInBounds i true) a' w' → K a' w') → oi.wpIn F n P a w K Q)
    (h2 : ∀ K : Act → World → Prop, (∀ a' w', (lastOp md ops j = false → S w') → wpAnyHI F n P md ops Q S fuel (listed.setIfInBounds j true) a' w' → K a' w') → oj.wpIn F n P a w K Q) : wpAnyHI F n P md ops Q S (fuel + 1) listed a w := by
  refine ⟨fun h0 => (by rw [h0] at hr; cases hr), fun k hk => ?_⟩
  rw [hr] at hk
  rcases List.mem_cons.1 hk with rfl | hk
  · unfold wpOpIn
    simp only [hi, hwi, if_true]
    exact h1 _ fun a' w' h1 h2 => ⟨h1, h2⟩
  · cases List.mem_singleton.1 hk
    unfold wpOpIn
    simp only [hj, hwj, if_true]
    exact h2 _ fun a' w' h1 h2 => ⟨h1, h2⟩
end
/-- A way to say what comes next in a fenced walk. -/
theorem heldAsk {F : Fence} {n : Nat} {o : Oper} {a : Act} {w : World} {K : Act → World → Prop} {Q : Exit → Act → World → Prop} {fid : Nat} {args : Array Value} (hd : ∀ c, o.op ≠ .defer c)
    (h : (execOp a.eval o).run Try.prog w = .ok (.enter fid args) w) (hF : ∀ f, F.fn f) (hn : F.depth.isSome = true → 1 ≤ n) (hc : CallsIn F (n - 1) Try.prog fid args w (fun e w' => match e, w' with
      | .returned v, w' => K (a.put o.dst v) w'
      | .panicked c, w' => Q (.panic c) a w'
      | .outgrown, _ => LetsOut Q)) : o.wpIn F n Try.prog a w K Q := by
  unfold Oper.wpIn
  refine ⟨fun f _ => hF f, ?_⟩
  rw [Oper.semAt_eq _ _ _ hd, h]
  simp only [Oper.uponIn]
  exact ⟨hn, hc⟩

/-- The temporaries, set to some values. -/
def setAll (a : Act) (l : List (Nat × Value)) : Act := { a with tmps := l.foldl (fun t p => t.setIfInBounds p.1 p.2) a.tmps }
/-- What is left behind a piece of code that goes through. -/
def CutPost {β : Type} (a : Act) (vals : β → List (Nat × Value)) (R : β → World → Prop) : Exit → Act → World → Prop
  | .normal, a', w' => ∃ x, a' = setAll a (vals x) ∧ R x w'
  | _, _, _ => False
/-- A piece of code that goes through, cut off. -/
theorem cutIn {F : Fence} {n : Nat} {P : Program} {c : Code} {Q : Exit → Act → World → Prop} {a : Act} {w : World} {β : Type} (vals : β → List (Nat × Value)) (R : β → World → Prop)
    (h : c.wpIn F n P (CutPost a vals R) a w) (k : ∀ x w', R x w' → Q .normal (setAll a (vals x)) w') : c.wpIn F n P Q a w := by
  refine wpIn_mono h ?_
  intro e a' w' hp
  cases e <;> first | exact hp.elim | skip
  obtain ⟨x, rfl, hr⟩ := hp
  exact k x w' hr

/-- What is left of the world behind a piece of code that goes through. -/
def CutW (R : World → Prop) : Exit → Act → World → Prop
  | .normal, _, w' => R w'
  | _, _, _ => False
theorem cutW {F : Fence} {n : Nat} {P : Program} {c : Code} {Q : Exit → Act → World → Prop} {a : Act} {w : World} (R : World → Prop)
    (h : c.wpIn F n P (CutW R) a w) (k : ∀ a' w', R w' → Q .normal a' w') : c.wpIn F n P Q a w := by
  refine wpIn_mono h ?_
  intro e a' w' hp
  cases e <;> first | exact hp.elim | skip
  exact k a' w' hp
theorem endsOf_def (f : Nat → Int → Int) (worth : Nat → Int) (places before : Nat → Nat) (n come : Nat) : endsOf f worth places before n come = spanL (worths f worth places before n come) := rfl
/-- What the tail of a round leaves. -/
def tailPost (nb ns : Nat) (lo hi : Int) (w w' : World) : Prop :=
  w'.cell? ⟨nb, 0, none⟩ = some (.int .i64 lo) ∧ w'.cell? ⟨nb, 1, none⟩ = some (.int .i64 hi) ∧ w'.cell? ⟨ns, 0, none⟩ = some (.bool true) ∧ (∀ X, But (two2 nb ns) X w w') ∧ ∀ a, w'.frozen? a = w.frozen? a
theorem tail_A {nb ns : Nat} {lo hi : Int} {w : World} {u0 u1 : Value} (h0 : w.cell? ⟨nb, 0, none⟩ = some u0) (h1 : w.cell? ⟨nb, 1, none⟩ = some u1) (h2 : w.cell? ⟨ns, 0, none⟩ = some (.bool true)) (hne : nb ≠ ns) :
    tailPost nb ns lo hi w ((w.setCell ⟨nb, 0, none⟩ (.int .i64 lo)).setCell ⟨nb, 1, none⟩ (.int .i64 hi)) :=
  ⟨cellOther (cellSame h0) (by omega), cellSame (cellOther h1 (by omega)), cellOtherB (cellOtherB h2 hne) hne, fun X => (((But.refl _ X w).set 0 _ (.inr (.inl rfl))).set 1 _ (.inr (.inl rfl))), fun a => by rw [World.frozen?_setCell, World.frozen?_setCell]⟩
theorem tail_B {nb ns : Nat} {lo hi : Int} {w : World} {u0 u1 u2 : Value} (h0 : w.cell? ⟨nb, 0, none⟩ = some u0) (h1 : w.cell? ⟨nb, 1, none⟩ = some u1) (h2 : w.cell? ⟨ns, 0, none⟩ = some u2) (hne : nb ≠ ns) :
    tailPost nb ns lo hi w (((((w.setCell ⟨nb, 0, none⟩ (.int .i64 lo)).setCell ⟨nb, 1, none⟩ (.int .i64 hi)).setCell ⟨ns, 0, none⟩ (.bool true)).setCell ⟨nb, 0, none⟩ (.int .i64 lo)).setCell ⟨nb, 1, none⟩ (.int .i64 hi)) :=
  ⟨cellOther (cellSame (cellOtherB (cellOther (cellSame h0) (by omega)) (Ne.symm hne))) (by omega), cellSame (cellOther (cellOtherB (cellSame (cellOther h1 (by omega))) (Ne.symm hne)) (by omega)),
   cellOtherB (cellOtherB (cellSame (cellOtherB (cellOtherB h2 hne) hne)) hne) hne,
   fun X => ((((((But.refl _ X w).set 0 _ (.inr (.inl rfl))).set 1 _ (.inr (.inl rfl))).set 0 _ (.inr (.inr rfl))).set 0 _ (.inr (.inl rfl))).set 1 _ (.inr (.inl rfl))),
   fun a => by rw [World.frozen?_setCell, World.frozen?_setCell, World.frozen?_setCell, World.frozen?_setCell, World.frozen?_setCell]⟩
theorem keeps_of_but {S : Nat → Prop} {X : Nat} {w w' : World} (h : But S w.heap.size w w') (hS : ∀ k, S k → k < X) : KeepsFrom X w w' :=
  ⟨h.size, fun k o hk ho _ => (h.block k (Array.getElem?_eq_some_iff.1 ho).1 (fun hs => by have := hS k hs; omega)).trans ho⟩
theorem kp4_of_but {S : Nat → Prop} {N B : Nat} {w w' : World} (h : But S w.heap.size w w') (h1 : N + 1 + 1 < w.heap.size) (h2 : B < w.heap.size) (s1 : ¬ S N) (s2 : ¬ S (N + 1)) (s3 : ¬ S (N + 1 + 1)) (s4 : ¬ S B) : Kp4 N B w w' :=
  ⟨h.size, fun a ha => by
    rcases ha with ha | ha | ha | ha
    · exact h.cellEq (by omega) (by rw [ha]; exact s1)
    · exact h.cellEq (by omega) (by rw [ha]; exact s2)
    · exact h.cellEq (by omega) (by rw [ha]; exact s3)
    · exact h.cellEq (by omega) (by rw [ha]; exact s4)⟩
theorem gx_A {l ws gx : List Int} {nn y1 y2 e1 e2 : Int} (hgx : gx = l ++ ws.map (nn + ·)) (hws : ws ≠ []) (hy : spanL ws = (y1, y2)) (he : spanL l = (e1, e2)) (hl : l.isEmpty = false) :
    (spanL gx).1 = min e1 (y1 + nn) ∧ (spanL gx).2 = max e2 (y2 + nn) ∧ gx.isEmpty = false := by
  have hl' : l ≠ [] := by rintro rfl; cases hl
  have hm : ws.map (nn + ·) ≠ [] := by simpa using hws
  rw [hgx, spanL_append hl' hm, spanL_add hws, hy, he]
  refine ⟨by simp only []; omega, by simp only []; omega, ?_⟩
  cases l with
  | nil => cases hl
  | cons a l => rfl
theorem gx_B {l ws gx : List Int} {nn y1 y2 : Int} (hgx : gx = l ++ ws.map (nn + ·)) (hws : ws ≠ []) (hy : spanL ws = (y1, y2)) (hl : l.isEmpty = true) :
    (spanL gx).1 = y1 + nn ∧ (spanL gx).2 = y2 + nn ∧ gx.isEmpty = false := by
  have hl' : l = [] := by simpa using hl
  subst hl'
  rw [List.nil_append] at hgx
  rw [hgx, spanL_add hws, hy]
  refine ⟨by simp only []; omega, by simp only []; omega, ?_⟩
  cases ws with
  | nil => exact absurd rfl hws
  | cons a l => rfl
/-- A store of two numbers, inside a fence. -/
theorem store2_in {F : Fence} {k : Nat} {Q : Exit → Act → World → Prop} {w : World} {b : Nat} {x0 x1 : Value} (h0 : w.cell? ⟨b, 0, none⟩ = some x0) (h1 : w.cell? ⟨b, 1, none⟩ = some x1) (hf : ∀ o, w.frozen? ⟨b, o, none⟩ = false) (m n : Int)
    (hF : ∀ f, F.fn f) (a : Act) (i j : Nat) (o : Oper) (ho : o.op = .store 101 (.tmp i) (.tmp j)) (hd : o.dst = none)
    (hi : a.tmps.getD i undef = .pointer (some ⟨b, 0, none⟩)) (hj : a.tmps.getD j undef = .agg #[.int .i64 m, .int .i64 n]) (K : Act → World → Prop)
    (hK : K a ((w.setCell ⟨b, 0, none⟩ (.int .i64 m)).setCell ⟨b, 1, none⟩ (.int .i64 n))) : o.wpIn F k Try.prog a w K Q := by
  have f0 := hf 0
  have f1 := hf 1
  have g0 := cell?_setCell_some (w := w) (p := ⟨b, 0, none⟩) (x := .int .i64 m) (q := ⟨b, 1, none⟩) (v := x1) (by go_simp)
  have e : (execOp a.eval o).run Try.prog w = .ok .skip ((w.setCell ⟨b, 0, none⟩ (.int .i64 m)).setCell ⟨b, 1, none⟩ (.int .i64 n)) := by
    simp only [execOp, ho]
    go_simp
  unfold Oper.wpIn
  refine ⟨fun f _ => hF f, ?_⟩
  rw [Oper.semAt_eq _ _ _ (by rw [ho]; intro c hc; cases hc), e]
  simp only [Oper.uponIn, hd, Act.put]
  exact hK

/-- What the sum of two ends leaves. -/
def ends10 (K1 K2 : (Int → Option Value) → Prop) (m1 m2 : Nat) (z1 z2 : Int) (W' : World) (b : Nat) (w : World) : Prop :=
  w.cell? ⟨b, 0, none⟩ = some (.int .i64 z1) ∧ w.cell? ⟨b, 1, none⟩ = some (.int .i64 z2) ∧ W'.heap.size ≤ b ∧ W'.heap.size ≤ w.heap.size ∧
    (∃ D, MapIs w m1 .u64 D ∧ K1 D) ∧ (∃ D, MapIs w m2 .u64 D ∧ K2 D) ∧ But (two2 m1 m2) W'.heap.size W' w
theorem ends10_mk {K1 K2 : (Int → Option Value) → Prop} {m1 m2 : Nat} {z1 z2 : Int} {W' : World} {b : Nat} {w : World} {u0 u1 : Value} {D1 D2 : Int → Option Value} (p0 : w.cell? ⟨b, 0, none⟩ = some u0) (p1 : w.cell? ⟨b, 1, none⟩ = some u1) (hb : W'.heap.size ≤ b)
    (h1 : MapIs w m1 .u64 D1) (k1 : K1 D1) (h2 : MapIs w m2 .u64 D2) (k2 : K2 D2) (hbut : But (two2 m1 m2) W'.heap.size W' w) (l1 : m1 < W'.heap.size) (l2 : m2 < W'.heap.size) :
    ends10 K1 K2 m1 m2 z1 z2 W' b ((w.setCell ⟨b, 0, none⟩ (.int .i64 z1)).setCell ⟨b, 1, none⟩ (.int .i64 z2)) := by
  refine ⟨cellOther (cellSame p0) (by omega), cellSame (cellOther p1 (by omega)), hb, by simpa using hbut.size, ⟨D1, h1.kept ?_, k1⟩, ⟨D2, h2.kept ?_, k2⟩, (hbut.set 0 _ (.inl hb)).set 1 _ (.inl hb)⟩
  · rw [Below.heap_setCell _ _ _ _ (by simp; omega), Below.heap_setCell _ _ _ _ (by simp; omega)]
  · rw [Below.heap_setCell _ _ _ _ (by simp; omega), Below.heap_setCell _ _ _ _ (by simp; omega)]
attribute [local irreducible] endsOf waysOf worthsBy worths spanL goOn
set_option maxRecDepth 100000 in
set_option maxHeartbeats 4000000 in
theorem ends1_any (pairs : Nat) (hp : pairs ≤ 6) (places before : Nat → Nat) (hpl : ∀ i, U64 (places i)) (hbe : ∀ i, U64 (before i)) (f : Nat → Int → Int) (worth : Nat → Int)
    (hwo : ∀ i, 0 ≤ worth i ∧ worth i ≤ 100) (hfb : ∀ p i, -100 ≤ f p (worth i) ∧ f p (worth i) ≤ 100) (va : Value) (hva : Asks va f) (M B : Nat) (hB : B < M) :
    ∀ (fuel come : Nat) (W : World) (D1 D2 : Int → Option Value), come < 2 ^ pairs → pairs - card come < fuel → EndsAt W M B va pairs → RunW W B pairs worth places before →
      MapIs W (M + 3 + 1) .u64 D1 → Knows (fun c => .int .i64 (waysOf places before pairs c)) D1 → MapIs W (M + 9) .u64 D2 → Knows (fun c => pairV (endsOf f worth places before pairs c)) D2 →
      Calls Try.prog 97 #[.int .u64 come, .pointer (some ⟨M + 10, 0, none⟩), .pointer (some ⟨M, 0, none⟩), .pointer (some ⟨M + 8, 0, none⟩), .pointer (some ⟨M + 1, 0, none⟩), .pointer (some ⟨M + 11, 0, none⟩)] W
        (endsPost (waysOf places before pairs) (endsOf f worth places before pairs) (M + 3 + 1) (M + 9) come W) := by
  intro fuel
  induction fuel with
  | zero => intro come W D1 D2 _ hf; omega
  | succ fuel ih =>
    intro come W D1 D2 hc hf hE hR hM1 hK1 hM2 hK2
    have H := Lib.hid ih; clear ih
    have h64 : come < 64 := Nat.lt_of_lt_of_le hc (by have := Nat.pow_le_pow_right (n := 2) (by omega) hp; omega)
    have huc : U64 come := U64.of h64 (by omega)
    have hlt := hE.lt
    have hmlt := hM2.lt
    have ek : ∀ o1 o2, ((W.alloc o1).alloc o2).cell? ⟨M + 10, 0, none⟩ = some (.map (some (M + 9))) := fun _ _ => cellP (cellP hE.k _) _
    have hb2 : ∀ o1 o2, Below W.heap.size W ((W.alloc o1).alloc o2) := fun o1 o2 => ((Below.refl _ _).alloc (Nat.le_refl _) _).alloc (by simp) _
    have hM2a : MapIs ((W.alloc (.cells #[.int .u64 come] 87)).alloc (.cells #[.int .i64 0, .int .i64 0] 101)) (M + 9) .u64 D2 := hM2.kept ((hb2 _ _).block _ hmlt)
    have hlk := run_lookup_int (P := Try.prog) hM2a und140 und87 (zero101 _) come
    cases hD : D2 come with
    | some v =>
      rw [hD] at hlk
      obtain ⟨c, hcc, rfl⟩ := hK2 _ _ hD
      obtain rfl : c = come := by omega
      clear hcc
      obtain ⟨e1, e2, he⟩ : ∃ e1 e2, endsOf f worth places before pairs c = (e1, e2) := by
        cases endsOf f worth places before pairs c with
        | mk a b => exact ⟨a, b, rfl⟩
      simp only [Option.getD_some, Option.isSome_some, pairV, he] at hlk
      have HD := Lib.hid (hK2 _ _ hD); clear hD
      have He := Lib.hid he; clear he
      refine (callsIn_wide (n := 3)).1 ?_
      refine callsIn_of_wp_marks Try.func97 rfl trivial ?_ rfl
      simp only [Try.ntmps97, List.size_toArray, List.length_cons, List.length_nil, Nat.reduceAdd, Nat.reduceSub, Array.replicate_succ, Array.replicate_zero, List.push_toArray, List.append_toArray, List.nil_append, List.cons_append]
      gi_wp2
      refine ⟨_, by simp [results, Try.results97, go_sem]; rfl, ?_⟩
      have hb3 : ∀ o1 o2 o3, Below W.heap.size W (((W.alloc o1).alloc o2).alloc o3) := fun o1 o2 o3 => (hb2 o1 o2).alloc (by simp; omega) o3
      refine ⟨by rw [pairV, He.out], D1, D2, hM1.kept ((hb3 _ _ _).block _ (by omega)), hK1, hM2.kept ((hb3 _ _ _).block _ hmlt), hK2, But.below (hb3 _ _ _)⟩
    | none =>
      rw [hD] at hlk
      simp only [Option.getD_none, Option.isSome_none] at hlk
      have HD := Lib.hid hD; clear hD
      refine (callsIn_wide (n := 3)).1 ?_
      refine callsIn_of_wp_marks Try.func97 rfl trivial ?_ rfl
      simp only [Try.ntmps97, List.size_toArray, List.length_cons, List.length_nil, Nat.reduceAdd, Nat.reduceSub, Array.replicate_succ, Array.replicate_zero, List.push_toArray, List.append_toArray, List.nil_append, List.cons_append]
      have er : ∀ o1 o2 o3 o4 o5, (((((W.alloc o1).alloc o2).alloc o3).alloc o4).alloc o5).cell? ⟨M, 0, none⟩ = some (.pointer (some ⟨B, 0, none⟩)) := fun _ _ _ _ _ => cellP (cellP (cellP (cellP (cellP hE.r _) _) _) _) _
      gi_wp2_with (refine ⟨trivial, ?_⟩; gi_at_call 58; refine (callsIn_wide.2 (next_any B come h64 _)).mono ?_; rintro e w' ⟨rfl, rfl⟩)
      obtain ⟨WL, hWL⟩ : ∃ WL, nextW (((((W.alloc (.cells #[.int .u64 come] 87)).alloc (.cells #[.int .i64 0, .int .i64 0] 101)).alloc (.cells #[.int .i64 0, .int .i64 0] 101)).alloc (.cells #[.int .i64 0, .int .i64 0] 101)).alloc (.cells #[.bool false] 4)) B come = WL := ⟨_, rfl⟩
      have hb5 : ∀ o1 o2 o3 o4 o5, Below W.heap.size W (((((W.alloc o1).alloc o2).alloc o3).alloc o4).alloc o5) := fun o1 o2 o3 o4 o5 => (((hb2 o1 o2).alloc (by simp; omega) o3).alloc (by simp; omega) o4).alloc (by simp; omega) o5
      have hbel : Below W.heap.size W WL := by
        rw [← hWL]; exact (hb5 _ _ _ _ _).trans ((nextW_below _ _ _).mono (by simp; omega))
      have c0 : WL.cell? ⟨W.heap.size, 0, none⟩ = some (.int .u64 come) := by
        rw [← hWL]; exact Below.cellSome (nextW_below _ _ _) (cellP (cellP (cellP (cellP (cellN rfl rfl) _) _) _) _)
      have c1 : WL.cell? ⟨W.heap.size + 1, 0, none⟩ = some (.int .i64 0) := by
        rw [← hWL]; exact Below.cellSome (nextW_below _ _ _) (cellP (cellP (cellP (cellN (by simp) rfl) _) _) _)
      have c1' : WL.cell? ⟨W.heap.size + 1, 1, none⟩ = some (.int .i64 0) := by
        rw [← hWL]; exact Below.cellSome (nextW_below _ _ _) (cellP (cellP (cellP (cellN (by simp) rfl) _) _) _)
      have c3 : WL.cell? ⟨W.heap.size + 1 + 1 + 1, 0, none⟩ = some (.int .i64 0) := by
        rw [← hWL]; exact Below.cellSome (nextW_below _ _ _) (cellP (cellN (by simp) rfl) _)
      have c3' : WL.cell? ⟨W.heap.size + 1 + 1 + 1, 1, none⟩ = some (.int .i64 0) := by
        rw [← hWL]; exact Below.cellSome (nextW_below _ _ _) (cellP (cellN (by simp) rfl) _)
      have c4 : WL.cell? ⟨W.heap.size + 1 + 1 + 1 + 1, 0, none⟩ = some (.bool false) := by
        rw [← hWL]; exact Below.cellSome (nextW_below _ _ _) (cellN (by simp) rfl)
      have f1 : ∀ o, WL.frozen? ⟨W.heap.size + 1, o, none⟩ = false := by
        intro o
        rw [← hWL, frozen_below (nextW_below _ _ _) (by simp <;> omega), frozen_below ((Below.refl _ _).alloc (Nat.le_refl _) _) (by simp <;> omega), frozen_below ((Below.refl _ _).alloc (Nat.le_refl _) _) (by simp <;> omega), frozen_below ((Below.refl _ _).alloc (Nat.le_refl _) _) (by simp)]
        exact World.frozen?_alloc_at _ _ _ _ (by simp)
      have f3 : ∀ o, WL.frozen? ⟨W.heap.size + 1 + 1 + 1, o, none⟩ = false := by
        intro o
        rw [← hWL, frozen_below (nextW_below _ _ _) (by simp <;> omega), frozen_below ((Below.refl _ _).alloc (Nat.le_refl _) _) (by simp)]
        exact World.frozen?_alloc_at _ _ _ _ (by simp)
      have f4 : WL.frozen? ⟨W.heap.size + 1 + 1 + 1 + 1, 0, none⟩ = false := by
        rw [← hWL, frozen_below (nextW_below _ _ _) (by simp)]
        exact World.frozen?_alloc_at _ _ _ _ (by simp)
      have hNx : NextAt WL (W.heap.size + 1 + 1 + 1 + 1 + 1) B come := by
        have := nextW_at (((((W.alloc (.cells #[.int .u64 come] 87)).alloc (.cells #[.int .i64 0, .int .i64 0] 101)).alloc (.cells #[.int .i64 0, .int .i64 0] 101)).alloc (.cells #[.int .i64 0, .int .i64 0] 101)).alloc (.cells #[.bool false] 4)) B come
        rw [hWL] at this; simpa using this
      have hsz : WL.heap.size = W.heap.size + 8 := by rw [← hWL, nextW_size]; simp
      have hRL := hR.but (S := fun _ => False) (But.below hbel) (by omega) (by simp)
      have hEL := hE.but (S := fun _ => False) (But.below hbel) (by omega) (by simp)
      have hML1 := hM1.kept (hbel.block _ (by omega))
      have hML2 := hM2.kept (hbel.block _ (by omega))
      rw [hWL]
      clear hlk hM2a hWL er ek
      obtain ⟨wv, hwv'⟩ : ∃ wv, wv = waysOf places before pairs := ⟨_, rfl⟩
      obtain ⟨ev, hev'⟩ : ∃ ev, ev = endsOf f worth places before pairs := ⟨_, rfl⟩
      rw [← hwv'] at hK1 H
      rw [← hev'] at hK2 H
      rw [← hwv', ← hev']
      have hwv : Counts places before pairs wv := hwv' ▸ counts_of places before hp
      have Hwv := Lib.hid hwv'; clear hwv'
      have Hev := Lib.hid hev'; clear hev'
      obtain ⟨g, hg'⟩ : ∃ g : List (Can places before come pairs) → List Int, g = fun pre => worthsBy f worth places before pairs come (pre.map (·.1)) := ⟨_, rfl⟩
      have hg0 : g [] = [] := by rw [hg']; exact worthsBy_nil _ _ _ _ _ _
      have Hg := Lib.hid hg'; clear hg'
      obtain ⟨ta, tv, fid, recv, rfl, hmeth, hnilA, hcf, hask⟩ := hva
      have Hask := Lib.hid hask; clear hask
      refine rangeG 26 12 rfl (by omega) (gf := 89) (lb := #[.pointer (some ⟨W.heap.size + 1 + 1 + 1 + 1 + 1, 0, none⟩), .pointer (some ⟨W.heap.size + 1 + 1 + 1 + 1 + 1 + 1, 0, none⟩), .pointer (some ⟨W.heap.size + 1 + 1 + 1 + 1 + 1 + 1 + 1, 0, none⟩)]) rfl trivial (enters_of Try.func89 (by kernel_rfl) rfl)
        (next_stops 2 (by omega) (W.heap.size + 1 + 1 + 1 + 1 + 1) B come pairs hp h64 places before hpl hbe WL hNx hRL.r (by omega)) Kp4.trans ?hKb (Below.refl _ _)
        (endsInv g wv ev WL.heap.size (M + 3 + 1) (M + 9) (W.heap.size + 1 + 1 + 1) (W.heap.size + 1 + 1 + 1 + 1) WL) (fun _ _ _ => False)
        (endsInv_own _ _ _ _ _ _ _ _ _ (by omega) (by omega) (by omega) (by omega)) (fun _ _ _ _ _ hs _ _ => hs) ⟨D1, D2, by rw [hg0, spanL_nil]; exact c3, by rw [hg0, spanL_nil]; exact c3', f3, by rw [hg0]; exact c4, f4, hML1, hK1, hML2, hK2, But.refl _ _ _, Nat.le_refl _⟩
        ?assign ?body ?done ?stop
      case hKb => exact fun W' l o o' hl _ _ _ => kp4_putObj W' o' (by omega) (by omega)
      case assign =>
        intro l x W K hK
        gi_wp2
        exact hK
      case body =>
        rintro l pre x W' ⟨D1', D2', a1, a2, a3, a4, a5, a6, a7, a8, a9, a10, a11⟩ hlen
        simp only [List.setIfInBounds_toArray, List.set_cons_zero, List.set_cons_succ]
        have hgx : g (pre ++ [x]) = g pre ++ (worths f worth places before pairs (come ||| 2 ^ x.1)).map (f x.1 (worth (card come)) + ·) := by
          rw [Hg.out]; simp only [List.map_append, List.map_cons, List.map_nil]; exact worthsBy_snoc _ _ _ _ _ _ _ _
        have Hgx := Lib.hid hgx; clear hgx
        obtain ⟨gx, hgx⟩ : ∃ gx, gx = g (pre ++ [x]) := ⟨_, rfl⟩
        rw [← hgx] at Hgx
        obtain ⟨x, hx, hok⟩ := x
        have hxt : come.testBit x = false := by
          simp only [okN, Bool.and_eq_true, Bool.not_eq_true'] at hok; exact hok.1.1
        have hcard := card_or (x := come) (p := x) (by omega) hxt
        have hcl : card come < pairs := by
          rcases Nat.lt_or_ge (card come) pairs with h | h
          · exact h
          · have := card_full (by omega) hc h
            rw [this, Nat.testBit_two_pow_sub_one] at hxt
            simp at hxt; omega
        have hx64 : x < 64 := by omega
        have hun : U64 (come ||| 2 ^ x) := huc.or (pow_lt_u64 hx64)
        have hE1 := hEL.but (a10.trans (But.below (Below.refl _ W').drew)) (by omega) (by intro k h1 h2 h3; simp only [four4]; omega)
        have hR1 := hRL.but (a10.trans (But.below (Below.refl _ W').drew)) (by omega) (by simp only [four4]; omega)
        have b0 : W'.drew.cell? ⟨W.heap.size, 0, none⟩ = some (.int .u64 come) := a10.cell c0 (by omega) (by simp only [four4]; omega)
        have hways := waysCall pairs hp places before hpl hbe wv hwv (M + 3) B (by omega) W'.drew D1' (come ||| 2 ^ x) (or_lt hc hx) hE1.e hR1.r (a6.kept rfl) a7
        obtain ⟨wx, hwx⟩ : ∃ wx, wx = wv (come ||| 2 ^ x) := ⟨_, rfl⟩
        have hwle : wx ≤ 1000000 := hwx ▸ hwv.le _
        unfold waysPost at hways
        rw [← hwx] at hways
        have Hways := Lib.hid hways; clear hways
        have Hwx := Lib.hid hwx; clear hwx
        have Hgxx := Lib.hid hgx; clear hgx
        apply wpIn_block
        refine wpIn_seq_k ?_
        intro K1 hK1'
        refine wpIn_seq_k ?_
        intro K2 hK2'
        refine heldRegion (fun X => X.cell? ⟨M + 8, 0, none⟩ = some (waysV (M + 3)) ∧ X.cell? ⟨W.heap.size, 0, none⟩ = some (.int .u64 come)) (by kernel_rfl) ?_
        have hS0 := And.intro hE1.wy b0
        refine heldTake 0 (fun _ => trivial) rfl (by kernel_rfl) (by kernel_rfl) (by kernel_rfl) (fun _ _ _ h => h) hS0 rfl (v := waysV (M + 3)) ?y0 ?_
        case y0 => rintro w ⟨s1, s2⟩; go_simp
        simp only [Act.put, List.setIfInBounds_toArray, List.set_cons_zero, List.set_cons_succ]
        refine heldTake 1 (fun _ => trivial) rfl (by kernel_rfl) (by kernel_rfl) (by kernel_rfl) (fun _ _ _ h => h) hS0 rfl (v := .int .u64 come) ?y1 ?_
        case y1 => rintro w ⟨s1, s2⟩; go_simp
        simp only [Act.put, List.setIfInBounds_toArray, List.set_cons_zero, List.set_cons_succ]
        refine heldTake 2 (fun _ => trivial) rfl (by kernel_rfl) (by kernel_rfl) (by kernel_rfl) (fun _ _ _ h => h) hS0 rfl (v := .int .i64 x) ?y2 ?_
        case y2 => rintro w ⟨s1, s2⟩; go_simp
        simp only [Act.put, List.setIfInBounds_toArray, List.set_cons_zero, List.set_cons_succ]
        refine heldTake 3 (fun _ => trivial) rfl (by kernel_rfl) (by kernel_rfl) (by kernel_rfl) (fun _ _ _ h => h) hS0 rfl (v := .int .u64 (2 ^ x)) ?y3 ?_
        case y3 => rintro w ⟨s1, s2⟩; go_simp
        simp only [Act.put, List.setIfInBounds_toArray, List.set_cons_zero, List.set_cons_succ]
        refine heldTake 4 (fun _ => trivial) rfl (by kernel_rfl) (by kernel_rfl) (by kernel_rfl) (fun _ _ _ h => h) hS0 rfl (v := .int .u64 (come ||| 2 ^ x : Nat)) ?y4 ?_
        case y4 => rintro w ⟨s1, s2⟩; go_simp
        simp only [Act.put, List.setIfInBounds_toArray, List.set_cons_zero, List.set_cons_succ]
        refine heldNext 5 (by kernel_rfl) rfl rfl (fun K hK => ?_)
        gi_wp2_with (refine ⟨trivial, ?_⟩; gi_at_call 87; refine (CallsIn.inRound l (callsIn_wide.2 Hways.out)).mono ?_; rintro e w' ⟨rfl, D1'', r1, r2, r3⟩)
        have hb1 : But (two2 (M + 3 + 1) (M + 9)) W'.heap.size W'.drew w' := But.grown r3 (Nat.le_refl _) (fun r e => .inr (.inl (by cases e; rfl)))
        have hE2 := hE1.but hb1 (by omega) (by intro k h1 h2 h3; simp only [two2]; omega)
        have hR2 := hR1.but hb1 (by omega) (by simp only [two2]; omega)
        have b1 : w'.cell? ⟨W.heap.size, 0, none⟩ = some (.int .u64 come) := hb1.cell b0 (by omega) (by simp only [two2]; omega)
        have hS1 := And.intro hE2.wy b1
        refine hK _ _ (fun _ => hS1) ?_
        clear hK K
        have hbz : ((wx : Int) == 0) = decide (wx = 0) := by
          by_cases h : wx = 0 <;> simp [h]
        refine heldTake 6 (fun _ => trivial) rfl (by kernel_rfl) (by kernel_rfl) (by kernel_rfl) (fun _ _ _ h => h) hS1 rfl (v := .bool (decide (wx = 0))) ?y6 ?_
        case y6 => rintro w ⟨s1, s2⟩; go_simp
        simp only [Act.put, List.setIfInBounds_toArray, List.set_cons_zero, List.set_cons_succ, List.getElem_toArray, List.getElem_cons_succ, List.getElem_cons_zero]
        refine heldDone (by kernel_rfl) ?_ _
        by_cases hz : wx = 0
        · have hzd : decide (wx = 0) = true := by simp [hz]
          rw [hzd]
          gi_wp2
          have hgx' := Hgx.out
          have hemp : worths f worth places before pairs (come ||| 2 ^ x) = [] := worths_empty.2 (by rw [← Hwv.out, ← Hwx.out]; exact hz)
          rw [hemp, List.map_nil, List.append_nil] at hgx'
          have hbut8 : But (four4 (M + 3 + 1) (M + 9) (W.heap.size + 1 + 1 + 1) (W.heap.size + 1 + 1 + 1 + 1)) W'.heap.size W' w' := (But.below ((Below.refl _ W').drew)).trans (hb1.more (fun k h => by rcases h with h | h; exact .inl h; exact .inr (.inl h)))
          show KeepsFrom _ _ _ ∧ _ ∧ _
          refine ⟨keeps_of_but hbut8 (by simp only [four4]; intro k hk; omega), kp4_of_but hbut8 (by omega) (by omega) (by simp only [four4]; omega) (by simp only [four4]; omega) (by simp only [four4]; omega) (by simp only [four4]; omega), D1'', D2', ?_⟩
          rw [← Hgxx.out, hgx']
          exact ⟨hb1.cell a1 (by omega) (by simp only [two2]; omega), hb1.cell a2 (by omega) (by simp only [two2]; omega), fun o => (hb1.frozen (by omega) (by simp only [two2]; omega)).trans (a3 o), hb1.cell a4 (by omega) (by simp only [two2]; omega), (hb1.frozen (by omega) (by simp only [two2]; omega)).trans a5,
            r1, r2, a8.kept (r3.block _ a8.lt (by simp)), a9, a10.trans (hbut8.mono a11), Nat.le_trans a11 hbut8.size⟩
        · have hzd : decide (wx = 0) = false := by simp [hz]
          rw [hzd]
          gi_wp2
          have b2 := hR2.wo (card come) (by omega)
          have hc6 : ((card come : Nat) : Int) < 6 := by omega
          refine heldRegion (fun X => X.cell? ⟨M + 1, 0, none⟩ = some (.iface ta tv) ∧ X.cell? ⟨M, 0, none⟩ = some (.pointer (some ⟨B, 0, none⟩)) ∧ X.cell? ⟨W.heap.size, 0, none⟩ = some (.int .u64 come) ∧ X.cell? ⟨B, 4 + card come, none⟩ = some (.int .i64 (worth (card come)))) (by kernel_rfl) ?_
          have hS2 := And.intro hE2.a (And.intro hE2.r (And.intro b1 b2))
          refine heldTake 0 (fun _ => trivial) rfl (by kernel_rfl) (by kernel_rfl) (by kernel_rfl) (fun _ _ _ h => h) hS2 rfl (v := .iface ta tv) ?z0 ?_
          case z0 => rintro w ⟨s1, s2, s3, s4⟩; first | go_simp | simp [execOp, go_sem, *]
          simp only [Act.put, List.setIfInBounds_toArray, List.set_cons_zero, List.set_cons_succ, List.getElem_toArray, List.getElem_cons_succ, List.getElem_cons_zero]
          refine heldTake 1 (fun _ => trivial) rfl (by kernel_rfl) (by kernel_rfl) (by kernel_rfl) (fun _ _ _ h => h) hS2 rfl (v := .int .i64 x) ?z1 ?_
          case z1 => rintro w ⟨s1, s2, s3, s4⟩; first | go_simp | simp [execOp, go_sem, *]
          simp only [Act.put, List.setIfInBounds_toArray, List.set_cons_zero, List.set_cons_succ, List.getElem_toArray, List.getElem_cons_succ, List.getElem_cons_zero]
          refine heldTake 2 (fun _ => trivial) rfl (by kernel_rfl) (by kernel_rfl) (by kernel_rfl) (fun _ _ _ h => h) hS2 rfl (v := .pointer (some ⟨B, 0, none⟩)) ?z2 ?_
          case z2 => rintro w ⟨s1, s2, s3, s4⟩; first | go_simp | simp [execOp, go_sem, *]
          simp only [Act.put, List.setIfInBounds_toArray, List.set_cons_zero, List.set_cons_succ, List.getElem_toArray, List.getElem_cons_succ, List.getElem_cons_zero]
          refine heldTake 3 (fun _ => trivial) rfl (by kernel_rfl) (by kernel_rfl) (by kernel_rfl) (fun _ _ _ h => h) hS2 rfl (v := .int .u64 come) ?z3 ?_
          case z3 => rintro w ⟨s1, s2, s3, s4⟩; first | go_simp | simp [execOp, go_sem, *]
          simp only [Act.put, List.setIfInBounds_toArray, List.set_cons_zero, List.set_cons_succ, List.getElem_toArray, List.getElem_cons_succ, List.getElem_cons_zero]
          refine heldTake 9 (fun _ => trivial) rfl (by kernel_rfl) (by kernel_rfl) (by kernel_rfl) (fun _ _ _ h => h) hS2 rfl (v := .func (.method "lapworks/sprint.worth") #[.iface ta tv] #[]) ?z9 ?_
          case z9 => rintro w ⟨s1, s2, s3, s4⟩; first | go_simp | simp [execOp, go_sem, *]
          simp only [Act.put, List.setIfInBounds_toArray, List.set_cons_zero, List.set_cons_succ, List.getElem_toArray, List.getElem_cons_succ, List.getElem_cons_zero]
          refine heldTake 10 (fun _ => trivial) rfl (by kernel_rfl) (by kernel_rfl) (by kernel_rfl) (fun _ _ _ h => h) hS2 rfl (v := .func (.method "lapworks/sprint.worth") #[.iface ta tv] #[]) ?z10 ?_
          case z10 => rintro w ⟨s1, s2, s3, s4⟩; first | go_simp | simp [execOp, go_sem, *]
          simp only [Act.put, List.setIfInBounds_toArray, List.set_cons_zero, List.set_cons_succ, List.getElem_toArray, List.getElem_cons_succ, List.getElem_cons_zero]
          refine heldTake 11 (fun _ => trivial) rfl (by kernel_rfl) (by kernel_rfl) (by kernel_rfl) (fun _ _ _ h => h) hS2 rfl (v := .iface ta tv) ?z11 ?_
          case z11 => rintro w ⟨s1, s2, s3, s4⟩; first | go_simp | simp [execOp, go_sem, *]
          simp only [Act.put, List.setIfInBounds_toArray, List.set_cons_zero, List.set_cons_succ, List.getElem_toArray, List.getElem_cons_succ, List.getElem_cons_zero]
          refine heldTake 5 (fun _ => trivial) rfl (by kernel_rfl) (by kernel_rfl) (by kernel_rfl) (fun _ _ _ h => h) hS2 rfl (v := .pointer (some ⟨B, 0, none⟩)) ?z5 ?_
          case z5 => rintro w ⟨s1, s2, s3, s4⟩; first | go_simp | simp [execOp, go_sem, *]
          simp only [Act.put, List.setIfInBounds_toArray, List.set_cons_zero, List.set_cons_succ, List.getElem_toArray, List.getElem_cons_succ, List.getElem_cons_zero]
          refine heldTake 6 (fun _ => trivial) rfl (by kernel_rfl) (by kernel_rfl) (by kernel_rfl) (fun _ _ _ h => h) hS2 rfl (v := .pointer (some ⟨B, 4, none⟩)) ?z6 ?_
          case z6 => rintro w ⟨s1, s2, s3, s4⟩; first | go_simp | simp [execOp, go_sem, *]
          simp only [Act.put, List.setIfInBounds_toArray, List.set_cons_zero, List.set_cons_succ, List.getElem_toArray, List.getElem_cons_succ, List.getElem_cons_zero]
          refine heldNext 4 (by kernel_rfl) rfl rfl (fun K hK => ?_)
          gi_wp2_with (refine ⟨trivial, ?_⟩; gi_at_call 88; refine (CallsIn.inRound l (callsIn_wide.2 (ones_any come (by omega) _))).mono ?_; rintro e w'' ⟨rfl, rfl⟩)
          refine hK _ _ (fun _ => hS2) ?_
          clear hK K
          refine heldTake 7 (fun _ => trivial) rfl (by kernel_rfl) (by kernel_rfl) (by kernel_rfl) (fun _ _ _ h => h) hS2 rfl (v := .pointer (some ⟨B, 4 + card come, none⟩)) ?z7 ?_
          case z7 => rintro w ⟨s1, s2, s3, s4⟩; first | go_simp | simp [execOp, go_sem, *]
          simp only [Act.put, List.setIfInBounds_toArray, List.set_cons_zero, List.set_cons_succ, List.getElem_toArray, List.getElem_cons_succ, List.getElem_cons_zero]
          refine heldTake 8 (fun _ => trivial) rfl (by kernel_rfl) (by kernel_rfl) (by kernel_rfl) (fun _ _ _ h => h) hS2 rfl (v := .int .i64 (worth (card come))) ?z8 ?_
          case z8 => rintro w ⟨s1, s2, s3, s4⟩; first | go_simp | simp [execOp, go_sem, *]
          simp only [Act.put, List.setIfInBounds_toArray, List.set_cons_zero, List.set_cons_succ, List.getElem_toArray, List.getElem_cons_succ, List.getElem_cons_zero]
          refine heldNext 12 (by kernel_rfl) rfl rfl (fun K hK => ?_)
          refine heldAsk (fid := fid) (args := #[recv, .int .i64 x, .int .i64 (worth (card come))]) (fun c hc => by cases hc) (by simp [execOp, resolve, invoke, callMethod, go_sem, hmeth, hcf]) (fun _ => trivial) (by intro h; first | omega | simp at h | (cases h)) ?_
          refine (CallsIn.inRound l (callsIn_wide.2 (Hask.out x (worth (card come)) w'.drew (hwo _).1 (hwo _).2))).mono ?_
          rintro e w3 ⟨rfl, hb3'⟩
          have hb3 : But (two2 (M + 3 + 1) (M + 9)) W'.heap.size W'.drew w3 := (hb1.trans (But.below (Below.refl _ w').drew)).trans (But.below (hb3'.mono hb1.size))
          have hE3 := hE1.but hb3 (by omega) (by intro k h1 h2 h3; simp only [two2]; omega)
          have hR3 := hR1.but hb3 (by omega) (by simp only [two2]; omega)
          have b3 : w3.cell? ⟨W.heap.size, 0, none⟩ = some (.int .u64 come) := hb3.cell b0 (by omega) (by simp only [two2]; omega)
          have r13 : MapIs w3 (M + 3 + 1) .u64 D1'' := r1.kept (hb3'.block _ r1.lt)
          have a83 : MapIs w3 (M + 9) .u64 D2' := a8.kept ((hb3'.block _ (Nat.lt_of_lt_of_le a8.lt hb1.size)).trans (r3.block _ a8.lt (by simp)))
          have hS3 := And.intro hE3.a (And.intro hE3.r (And.intro b3 (hR3.wo (card come) (by omega))))
          refine hK _ _ (fun _ => hS3) ?_
          clear hK K
          obtain ⟨nn, hnn⟩ : ∃ nn, f x (worth (card come)) = nn := ⟨_, rfl⟩
          have hnb : -100 ≤ nn ∧ nn ≤ 100 := hnn ▸ hfb x (card come)
          rw [hnn]
          have Hnn := Lib.hid hnn; clear hnn
          refine heldTake 13 (fun _ => trivial) rfl (by kernel_rfl) (by kernel_rfl) (by kernel_rfl) (fun _ _ _ h => h) hS3 rfl (v := .int .i64 nn) ?z13 ?_
          case z13 => rintro w ⟨s1, s2, s3, s4⟩; first | go_simp | simp [execOp, go_sem, *]
          simp only [Act.put, List.setIfInBounds_toArray, List.set_cons_zero, List.set_cons_succ, List.getElem_toArray, List.getElem_cons_succ, List.getElem_cons_zero]
          refine heldDone (by kernel_rfl) ?_ _
          gi_wp2
          have hon := fun W4 (hb : Below W'.heap.size w3 W4) => H.out (come ||| 2 ^ x) W4 D1'' D2' (or_lt hc hx) (by omega) (hE3.but (S := fun _ => False) (But.below hb) (by omega) (by simp)) (hR3.but (S := fun _ => False) (But.below hb) (by omega) (by simp)) (r13.kept (hb.block _ a6.lt)) r2 (a83.kept (hb.block _ a8.lt)) a9
          unfold endsPost at hon
          have hevb := endsOf_bound f worth places before hp hfb (come ||| 2 ^ x)
          rw [← Hev.out] at hevb
          obtain ⟨y1, y2, hy⟩ : ∃ y1 y2, ev (come ||| 2 ^ x) = (y1, y2) := by
            cases ev (come ||| 2 ^ x) with
            | mk a b => exact ⟨a, b, rfl⟩
          rw [hy] at hevb
          rw [hy] at hon
          simp only [pairV] at hon hevb
          have Hon := Lib.hid hon; clear hon
          have Hy := Lib.hid hy; clear hy
          have HP := Lib.hid (fun w => plus_any (y1, y2) (nn, nn) w (by simp only []; omega) (by simp only []; omega))
          have hw3 : W'.heap.size ≤ w3.heap.size := hb3.size
          refine cutIn (β := Nat) (fun b => [(47, .func (.func 97) #[] #[.pointer (some ⟨M + 10, 0, none⟩), .pointer (some ⟨M, 0, none⟩), .pointer (some ⟨M + 8, 0, none⟩), .pointer (some ⟨M + 1, 0, none⟩), .pointer (some ⟨M + 11, 0, none⟩)]), (48, .int .u64 come), (49, .int .i64 x), (50, .int .u64 (2 ^ x)),
            (51, .int .u64 (come ||| 2 ^ x : Nat)), (52, .agg #[.int .i64 y1, .int .i64 y2]), (53, .int .i64 nn), (54, .int .i64 nn), (55, .agg #[.int .i64 nn, .int .i64 nn]), (56, .agg #[.int .i64 (y1 + nn), .int .i64 (y2 + nn)]), (14, .pointer (some ⟨b, 0, none⟩))])
            (ends10 (fun D => Knows (fun c => .int .i64 (wv c)) D) (fun D => Knows (fun c => pairV (ev c)) D) (M + 3 + 1) (M + 9) (y1 + nn) (y2 + nn) W') ?reg10 ?rest10
          case reg10 =>
            have hS4 := And.intro hE3.o b3
            have hw3' : W'.heap.size ≤ w3.heap.size := hb3.size
            refine heldRegion (fun X => X.cell? ⟨M + 11, 0, none⟩ = some (.func (.func 97) #[] #[.pointer (some ⟨M + 10, 0, none⟩), .pointer (some ⟨M, 0, none⟩), .pointer (some ⟨M + 8, 0, none⟩), .pointer (some ⟨M + 1, 0, none⟩), .pointer (some ⟨M + 11, 0, none⟩)]) ∧ X.cell? ⟨W.heap.size, 0, none⟩ = some (.int .u64 come)) (by kernel_rfl) ?_
            refine heldTake 0 (fun _ => trivial) rfl (by kernel_rfl) (by kernel_rfl) (by kernel_rfl) (fun _ _ _ h => h) hS4 rfl (v := .func (.func 97) #[] #[.pointer (some ⟨M + 10, 0, none⟩), .pointer (some ⟨M, 0, none⟩), .pointer (some ⟨M + 8, 0, none⟩), .pointer (some ⟨M + 1, 0, none⟩), .pointer (some ⟨M + 11, 0, none⟩)]) ?x0 ?_
            case x0 => rintro w ⟨s1, s2⟩; first | go_simp | simp [execOp, go_sem, *]
            try simp only [Act.put, List.setIfInBounds_toArray, List.set_cons_zero, List.set_cons_succ, List.getElem_toArray, List.getElem_cons_succ, List.getElem_cons_zero]
            refine heldTake 1 (fun _ => trivial) rfl (by kernel_rfl) (by kernel_rfl) (by kernel_rfl) (fun _ _ _ h => h) hS4 rfl (v := .int .u64 come) ?x1 ?_
            case x1 => rintro w ⟨s1, s2⟩; first | go_simp | simp [execOp, go_sem, *]
            try simp only [Act.put, List.setIfInBounds_toArray, List.set_cons_zero, List.set_cons_succ, List.getElem_toArray, List.getElem_cons_succ, List.getElem_cons_zero]
            refine heldTake 2 (fun _ => trivial) rfl (by kernel_rfl) (by kernel_rfl) (by kernel_rfl) (fun _ _ _ h => h) hS4 rfl (v := .int .i64 x) ?x2 ?_
            case x2 => rintro w ⟨s1, s2⟩; first | go_simp | simp [execOp, go_sem, *]
            try simp only [Act.put, List.setIfInBounds_toArray, List.set_cons_zero, List.set_cons_succ, List.getElem_toArray, List.getElem_cons_succ, List.getElem_cons_zero]
            refine heldTake 3 (fun _ => trivial) rfl (by kernel_rfl) (by kernel_rfl) (by kernel_rfl) (fun _ _ _ h => h) hS4 rfl (v := .int .u64 (2 ^ x)) ?x3 ?_
            case x3 => rintro w ⟨s1, s2⟩; first | go_simp | simp [execOp, go_sem, *]
            try simp only [Act.put, List.setIfInBounds_toArray, List.set_cons_zero, List.set_cons_succ, List.getElem_toArray, List.getElem_cons_succ, List.getElem_cons_zero]
            refine heldTake 4 (fun _ => trivial) rfl (by kernel_rfl) (by kernel_rfl) (by kernel_rfl) (fun _ _ _ h => h) hS4 rfl (v := .int .u64 (come ||| 2 ^ x : Nat)) ?x4 ?_
            case x4 => rintro w ⟨s1, s2⟩; first | go_simp | simp [execOp, go_sem, *]
            try simp only [Act.put, List.setIfInBounds_toArray, List.set_cons_zero, List.set_cons_succ, List.getElem_toArray, List.getElem_cons_succ, List.getElem_cons_zero]
            refine heldTake 6 (fun _ => trivial) rfl (by kernel_rfl) (by kernel_rfl) (by kernel_rfl) (fun _ _ _ h => h) hS4 rfl (v := .int .i64 nn) ?x6 ?_
            case x6 => rintro w ⟨s1, s2⟩; first | go_simp | simp [execOp, go_sem, *]
            try simp only [Act.put, List.setIfInBounds_toArray, List.set_cons_zero, List.set_cons_succ, List.getElem_toArray, List.getElem_cons_succ, List.getElem_cons_zero]
            refine heldTake 7 (fun _ => trivial) rfl (by kernel_rfl) (by kernel_rfl) (by kernel_rfl) (fun _ _ _ h => h) hS4 rfl (v := .int .i64 nn) ?x7 ?_
            case x7 => rintro w ⟨s1, s2⟩; first | go_simp | simp [execOp, go_sem, *]
            try simp only [Act.put, List.setIfInBounds_toArray, List.set_cons_zero, List.set_cons_succ, List.getElem_toArray, List.getElem_cons_succ, List.getElem_cons_zero]
            refine heldTake 8 (fun _ => trivial) rfl (by kernel_rfl) (by kernel_rfl) (by kernel_rfl) (fun _ _ _ h => h) hS4 rfl (v := .agg #[.int .i64 nn, .int .i64 nn]) ?x8 ?_
            case x8 => rintro w ⟨s1, s2⟩; first | go_simp | simp [execOp, go_sem, *]
            try simp only [Act.put, List.setIfInBounds_toArray, List.set_cons_zero, List.set_cons_succ, List.getElem_toArray, List.getElem_cons_succ, List.getElem_cons_zero]
            refine heldTwo 5 10 (by kernel_rfl) rfl rfl rfl rfl (fun K hK => ?_) (fun K hK => ?_)
            · skip
              gi_wp2_with (refine ⟨trivial, ?_⟩; gi_at_call 97; refine (CallsIn.inRound l (callsIn_wide.2 (Hon.out w3.drew ((Below.refl _ _).drew)))).mono ?_; rintro e w5 ⟨rfl, D1a, D2a, t1, t2, t3, t4, t5⟩)
              have hS5 := And.intro (t5.cell hE3.o (by simp; omega) (by simp only [two2]; omega)) (t5.cell b3 (by simp; omega) (by simp only [two2]; omega))
              have hw5 : w3.heap.size ≤ w5.heap.size := t5.size
              have hb5 : But (two2 (M + 3 + 1) (M + 9)) W'.heap.size W' w5 := ((But.below (Below.refl _ W').drew).trans (hb3.trans (But.below (Below.refl _ w3).drew))).trans (t5.mono hw3')
              refine hK _ _ (fun _ => hS5) ?_
              clear hK K
              try simp only [Act.put, List.setIfInBounds_toArray, List.set_cons_zero, List.set_cons_succ, List.getElem_toArray, List.getElem_cons_succ, List.getElem_cons_zero]
              refine heldTwo 9 10 (by kernel_rfl) rfl rfl rfl rfl (fun K hK => ?_) (fun K hK => ?_)
              · skip
                gi_wp2_with (refine ⟨trivial, ?_⟩; gi_at_call 98; refine (CallsIn.inRound l (callsIn_wide.2 (HP.out w5))).mono ?_; rintro e w6 ⟨rfl, hp6⟩)
                refine hK _ _ (fun _ => ⟨Below.cellSome hp6 hS5.1, Below.cellSome hp6 hS5.2⟩) ?_
                clear hK K
                try simp only [Act.put, List.setIfInBounds_toArray, List.set_cons_zero, List.set_cons_succ, List.getElem_toArray, List.getElem_cons_succ, List.getElem_cons_zero]
                have hq6 := hp6.size
                refine heldNext 10 (by kernel_rfl) rfl rfl (fun K hK => ?_)
                gi_wp2
                refine hK _ _ (fun _ => ⟨cellP (Below.cellSome hp6 hS5.1) _, cellP (Below.cellSome hp6 hS5.2) _⟩) ?_
                clear hK K
                try simp only [Act.put, List.setIfInBounds_toArray, List.set_cons_zero, List.set_cons_succ, List.getElem_toArray, List.getElem_cons_succ, List.getElem_cons_zero]
                have hp7 : Below w5.heap.size w5 (w6.alloc (.cells #[.int .i64 0, .int .i64 0] 101)) := hp6.alloc hp6.size _
                refine heldLast 11 (by kernel_rfl) rfl (by kernel_rfl) (by kernel_rfl) rfl (fun K hK => ?_)
                simp only [List.getElem_toArray, List.getElem_cons_succ, List.getElem_cons_zero]
                refine store2_in (cellN (w := w6) (c := #[.int .i64 0, .int .i64 0]) (t := 101) rfl rfl) (cellN (w := w6) (c := #[.int .i64 0, .int .i64 0]) (t := 101) rfl rfl) (fun o => World.frozen?_alloc_at _ _ _ _ rfl) (y1 + nn) (y2 + nn) (fun _ => trivial) _ 14 56 _ rfl rfl rfl rfl K ?_
                refine hK _ _ ?_
                exact ⟨_, by simp only [setAll, List.foldl, List.setIfInBounds_toArray, List.set_cons_zero, List.set_cons_succ], ends10_mk (cellN (w := w6) (c := #[.int .i64 0, .int .i64 0]) (t := 101) rfl rfl) (cellN (w := w6) (c := #[.int .i64 0, .int .i64 0]) (t := 101) rfl rfl) (by omega) (t1.kept (hp7.block _ t1.lt)) t2 (t3.kept (hp7.block _ t3.lt)) t4 (hb5.trans (But.below (hp7.mono (by omega)))) a6.lt a8.lt⟩
              · skip
                gi_wp2
                refine hK _ _ (fun _ => ⟨cellP hS5.1 _, cellP hS5.2 _⟩) ?_
                clear hK K
                try simp only [Act.put, List.setIfInBounds_toArray, List.set_cons_zero, List.set_cons_succ, List.getElem_toArray, List.getElem_cons_succ, List.getElem_cons_zero]
                refine heldNext 9 (by kernel_rfl) rfl rfl (fun K hK => ?_)
                gi_wp2_with (refine ⟨trivial, ?_⟩; gi_at_call 98; refine (CallsIn.inRound l (callsIn_wide.2 (HP.out (w5.alloc (.cells #[.int .i64 0, .int .i64 0] 101))))).mono ?_; rintro e w6 ⟨rfl, hp6⟩)
                refine hK _ _ (fun _ => ⟨Below.cellSome hp6 (cellP hS5.1 _), Below.cellSome hp6 (cellP hS5.2 _)⟩) ?_
                clear hK K
                try simp only [Act.put, List.setIfInBounds_toArray, List.set_cons_zero, List.set_cons_succ, List.getElem_toArray, List.getElem_cons_succ, List.getElem_cons_zero]
                have hq6 := hp6.size
                simp at hq6
                have hp7 : Below w5.heap.size w5 w6 := ((Below.refl _ w5).alloc (Nat.le_refl _) (.cells #[.int .i64 0, .int .i64 0] 101)).trans (hp6.mono (by simp))
                have p0 : w6.cell? ⟨w5.heap.size, 0, none⟩ = some (.int .i64 0) := Below.cellSome hp6 (cellN rfl rfl)
                have p1 : w6.cell? ⟨w5.heap.size, 1, none⟩ = some (.int .i64 0) := Below.cellSome hp6 (cellN rfl rfl)
                have pf : ∀ o, w6.frozen? ⟨w5.heap.size, o, none⟩ = false := fun o => (frozen_below hp6 (by simp)).trans (World.frozen?_alloc_at _ _ _ _ rfl)
                refine heldLast 11 (by kernel_rfl) rfl (by kernel_rfl) (by kernel_rfl) rfl (fun K hK => ?_)
                simp only [List.getElem_toArray, List.getElem_cons_succ, List.getElem_cons_zero]
                refine store2_in p0 p1 pf (y1 + nn) (y2 + nn) (fun _ => trivial) _ 14 56 _ rfl rfl rfl rfl K ?_
                refine hK _ _ ?_
                exact ⟨_, by simp only [setAll, List.foldl, List.setIfInBounds_toArray, List.set_cons_zero, List.set_cons_succ], ends10_mk p0 p1 (by omega) (t1.kept (hp7.block _ t1.lt)) t2 (t3.kept (hp7.block _ t3.lt)) t4 (hb5.trans (But.below (hp7.mono (by omega)))) a6.lt a8.lt⟩
            · skip
              gi_wp2
              refine hK _ _ (fun _ => ⟨cellP hS4.1 _, cellP hS4.2 _⟩) ?_
              clear hK K
              try simp only [Act.put, List.setIfInBounds_toArray, List.set_cons_zero, List.set_cons_succ, List.getElem_toArray, List.getElem_cons_succ, List.getElem_cons_zero]
              refine heldNext 5 (by kernel_rfl) rfl rfl (fun K hK => ?_)
              have hbA : Below W'.heap.size w3 (w3.alloc (.cells #[.int .i64 0, .int .i64 0] 101)).drew := ((Below.refl _ _).alloc hw3' _).drew
              gi_wp2_with (refine ⟨trivial, ?_⟩; gi_at_call 97; refine (CallsIn.inRound l (callsIn_wide.2 (Hon.out (w3.alloc (.cells #[.int .i64 0, .int .i64 0] 101)).drew hbA))).mono ?_; rintro e w5 ⟨rfl, D1a, D2a, t1, t2, t3, t4, t5⟩)
              have hS5 := And.intro (t5.cell (cellP hE3.o _) (by simp; omega) (by simp only [two2]; omega)) (t5.cell (cellP b3 _) (by simp; omega) (by simp only [two2]; omega))
              have hw5 : w3.heap.size + 1 ≤ w5.heap.size := by have := t5.size; simpa using this
              have hb5 : But (two2 (M + 3 + 1) (M + 9)) W'.heap.size W' w5 := ((But.below (Below.refl _ W').drew).trans (hb3.trans (But.below hbA))).trans (t5.mono (by simp; omega))
              have p0 : w5.cell? ⟨w3.heap.size, 0, none⟩ = some (.int .i64 0) := t5.cell (cellN rfl rfl) (by simp) (by simp only [two2]; omega)
              have p1 : w5.cell? ⟨w3.heap.size, 1, none⟩ = some (.int .i64 0) := t5.cell (cellN rfl rfl) (by simp) (by simp only [two2]; omega)
              have pf : ∀ o, w5.frozen? ⟨w3.heap.size, o, none⟩ = false := fun o => (t5.frozen (by simp) (by simp only [two2]; omega)).trans (World.frozen?_alloc_at _ _ _ _ rfl)
              refine hK _ _ (fun _ => hS5) ?_
              clear hK K
              try simp only [Act.put, List.setIfInBounds_toArray, List.set_cons_zero, List.set_cons_succ, List.getElem_toArray, List.getElem_cons_succ, List.getElem_cons_zero]
              refine heldNext 9 (by kernel_rfl) rfl rfl (fun K hK => ?_)
              gi_wp2_with (refine ⟨trivial, ?_⟩; gi_at_call 98; refine (CallsIn.inRound l (callsIn_wide.2 (HP.out w5))).mono ?_; rintro e w6 ⟨rfl, hp6⟩)
              refine hK _ _ (fun _ => ⟨Below.cellSome hp6 hS5.1, Below.cellSome hp6 hS5.2⟩) ?_
              clear hK K
              try simp only [Act.put, List.setIfInBounds_toArray, List.set_cons_zero, List.set_cons_succ, List.getElem_toArray, List.getElem_cons_succ, List.getElem_cons_zero]
              have hq6 := hp6.size
              refine heldLast 11 (by kernel_rfl) rfl (by kernel_rfl) (by kernel_rfl) rfl (fun K hK => ?_)
              simp only [List.getElem_toArray, List.getElem_cons_succ, List.getElem_cons_zero]
              refine store2_in (Below.cellSome hp6 p0) (Below.cellSome hp6 p1) (fun o => (frozen_below hp6 (by omega)).trans (pf o)) (y1 + nn) (y2 + nn) (fun _ => trivial) _ 14 56 _ rfl rfl rfl rfl K ?_
              refine hK _ _ ?_
              exact ⟨_, by simp only [setAll, List.foldl, List.setIfInBounds_toArray, List.set_cons_zero, List.set_cons_succ], ends10_mk (Below.cellSome hp6 p0) (Below.cellSome hp6 p1) (by omega) (t1.kept (hp6.block _ t1.lt)) t2 (t3.kept (hp6.block _ t3.lt)) t4 (hb5.trans (But.below (hp6.mono (by omega)))) a6.lt a8.lt⟩
          case rest10 =>
            rintro b w7 ⟨x0, x1, hxb, hxs, ⟨D1a, v1, v2⟩, ⟨D2a, v3, v4⟩, hx7⟩
            simp only [setAll, List.foldl, List.setIfInBounds_toArray, List.set_cons_zero, List.set_cons_succ]
            obtain ⟨e1, e2, he⟩ : ∃ e1 e2, spanL (g pre) = (e1, e2) := by
              cases spanL (g pre) with
              | mk a b => exact ⟨a, b, rfl⟩
            rw [he] at a1 a2
            simp only [] at a1 a2
            have He := Lib.hid he; clear he
            have n1 := hx7.cell a1 (by omega) (by simp only [two2]; omega)
            have n2 := hx7.cell a2 (by omega) (by simp only [two2]; omega)
            have n4 := hx7.cell a4 (by omega) (by simp only [two2]; omega)
            have n3 : ∀ o, w7.frozen? ⟨W.heap.size + 1 + 1 + 1, o, none⟩ = false := fun o => (hx7.frozen (by omega) (by simp only [two2]; omega)).trans (a3 o)
            have n5 : w7.frozen? ⟨W.heap.size + 1 + 1 + 1 + 1, 0, none⟩ = false := (hx7.frozen (by omega) (by simp only [two2]; omega)).trans a5
            have n30 := n3 0
            have n31 := n3 1
            have hlt7 : b < w7.heap.size := lt_of_cell x0
            have hne1 : W.heap.size + 1 + 1 + 1 + 1 < b := by omega
            gi_step
            gi_step
            cases hge : (g pre).isEmpty
            · rw [hge] at n4
              have Hge := Lib.hid hge; clear hge
              simp only [Bool.not_false] at n4
              refine cutW (tailPost (W.heap.size + 1 + 1 + 1) (W.heap.size + 1 + 1 + 1 + 1) (min e1 (y1 + nn)) (max e2 (y2 + nn)) w7) ?tailA ?endA
              case tailA =>
                clear a1 a2 a3 a4 a5 n3 hK1 hK2 hwv Hwv Hev Hg hNx hRL hML1 hML2 c0 c1 c1' c3 c3' c4 f1 f3 f4 hbel hb5 hb2 hM1 hM2 hR hE hEL H Hask hmeth hnilA hcf a6 a7 a8 a9 a10 Hgx Hgxx hE1 hR1 b0 Hways Hwx hS0 r1 r2 r3 hb1 hE2 hR2 b1 hS1 b2 hS2 hb3' hb3 hE3 hR3 b3 r13 a83 hS3 Hnn Hon Hy HP hx7 v1 v2 v3 v4 He hpl hbe hwo hfb hcard hsz hxt hbz hzd hun huc
                have hne2 : W.heap.size + 1 + 1 + 1 < W.heap.size + 1 + 1 + 1 + 1 := by omega
                clear a11 hlen hcl hx64 hwle hz hc6 hw3 hxb hxs hlt7 hmlt hlt hf hc h64 Hge hg0 HD hB hp
                generalize W.heap.size + 1 + 1 + 1 + 1 = ns at *
                generalize W.heap.size + 1 + 1 + 1 = nb at *
                gi_wp2
                all_goals
                  show tailPost _ _ _ _ _ _
                  first
                    | rw [show min e1 (y1 + nn) = e1 by omega, show max e2 (y2 + nn) = e2 by omega]
                    | rw [show min e1 (y1 + nn) = e1 by omega, show max e2 (y2 + nn) = y2 + nn by omega]
                    | rw [show min e1 (y1 + nn) = y1 + nn by omega, show max e2 (y2 + nn) = e2 by omega]
                    | rw [show min e1 (y1 + nn) = y1 + nn by omega, show max e2 (y2 + nn) = y2 + nn by omega]
                  exact tail_A n1 n2 n4 (by omega)
              case endA =>
                rintro a' w8 ⟨u0, u1, u2, u3, u4⟩
                clear hevb hnb hc6 hwle hf h64 hcard hbz hzd hfb hwo hpl hbe hb2 hb5 hc hcl hx64 hlen hb3' r3 hS0 hS1 hS2 hS3 b0 b1 b2 b3 hE1 hE2 hE3 hR1 hR2 hR3 a83 r13 a8 a6
                have hws : worths f worth places before pairs (come ||| 2 ^ x) ≠ [] := fun h => hz (by rw [Hwx.out, Hwv.out]; exact worths_empty.1 h)
                have hyy : spanL (worths f worth places before pairs (come ||| 2 ^ x)) = (y1, y2) := by rw [← Hy.out, Hev.out, endsOf_def]
                have hgx' := Hgx.out
                rw [Hnn.out] at hgx'
                obtain ⟨q1, q2, q3⟩ := gx_A hgx' hws hyy He.out Hge.out
                have hbut8 : But (four4 (M + 3 + 1) (M + 9) (W.heap.size + 1 + 1 + 1) (W.heap.size + 1 + 1 + 1 + 1)) W'.heap.size W' w8 := (hx7.more (fun k h => by rcases h with h | h; exact .inl h; exact .inr (.inl h))).trans ((u3 _).more (fun k h => by rcases h with h | h; exact .inr (.inr (.inl h)); exact .inr (.inr (.inr h))))
                have k1 : w8.heap[M + 3 + 1]? = w7.heap[M + 3 + 1]? := (u3 (M + 3 + 1 + 1)).block _ (by omega) (by simp only [two2]; omega)
                have k2 : w8.heap[M + 9]? = w7.heap[M + 9]? := (u3 (M + 9 + 1)).block _ (by omega) (by simp only [two2]; omega)
                show KeepsFrom _ _ _ ∧ _ ∧ _
                refine ⟨keeps_of_but hbut8 (by simp only [four4]; intro k hk; omega), kp4_of_but hbut8 (by omega) (by omega) (by simp only [four4]; omega) (by simp only [four4]; omega) (by simp only [four4]; omega) (by simp only [four4]; omega), D1a, D2a, ?_⟩
                rw [← Hgxx.out, q1, q2, q3]
                exact ⟨u0, u1, fun o => (u4 _).trans (n3 o), u2, (u4 _).trans n5, v1.kept k1, v2, v3.kept k2, v4, a10.trans (hbut8.mono a11), Nat.le_trans a11 (Nat.le_trans hxs (u3 0).size)⟩
            · rw [hge] at n4
              have Hge := Lib.hid hge; clear hge
              simp only [Bool.not_true] at n4
              refine cutW (tailPost (W.heap.size + 1 + 1 + 1) (W.heap.size + 1 + 1 + 1 + 1) (y1 + nn) (y2 + nn) w7) ?tailB ?endB
              case tailB =>
                clear a1 a2 a3 a4 a5 n3 hK1 hK2 hwv Hwv Hev Hg hNx hRL hML1 hML2 c0 c1 c1' c3 c3' c4 f1 f3 f4 hbel hb5 hb2 hM1 hM2 hR hE hEL H Hask hmeth hnilA hcf a6 a7 a8 a9 a10 Hgx Hgxx hE1 hR1 b0 Hways Hwx hS0 r1 r2 r3 hb1 hE2 hR2 b1 hS1 b2 hS2 hb3' hb3 hE3 hR3 b3 r13 a83 hS3 Hnn Hon Hy HP hx7 v1 v2 v3 v4 He hpl hbe hwo hfb hcard hsz hxt hbz hzd hun huc
                have hne2 : W.heap.size + 1 + 1 + 1 < W.heap.size + 1 + 1 + 1 + 1 := by omega
                clear a11 hlen hcl hx64 hwle hz hc6 hw3 hxb hxs hlt7 hmlt hlt hf hc h64 Hge hg0 HD hB hp
                generalize W.heap.size + 1 + 1 + 1 + 1 = ns at *
                generalize W.heap.size + 1 + 1 + 1 = nb at *
                gi_wp2
                exact tail_B n1 n2 n4 (by omega)
              case endB =>
                rintro a' w8 ⟨u0, u1, u2, u3, u4⟩
                clear hevb hnb hc6 hwle hf h64 hcard hbz hzd hfb hwo hpl hbe hb2 hb5 hc hcl hx64 hlen hb3' r3 hS0 hS1 hS2 hS3 b0 b1 b2 b3 hE1 hE2 hE3 hR1 hR2 hR3 a83 r13 a8 a6
                have hws : worths f worth places before pairs (come ||| 2 ^ x) ≠ [] := fun h => hz (by rw [Hwx.out, Hwv.out]; exact worths_empty.1 h)
                have hyy : spanL (worths f worth places before pairs (come ||| 2 ^ x)) = (y1, y2) := by rw [← Hy.out, Hev.out, endsOf_def]
                have hgx' := Hgx.out
                rw [Hnn.out] at hgx'
                obtain ⟨q1, q2, q3⟩ := gx_B hgx' hws hyy Hge.out
                have hbut8 : But (four4 (M + 3 + 1) (M + 9) (W.heap.size + 1 + 1 + 1) (W.heap.size + 1 + 1 + 1 + 1)) W'.heap.size W' w8 := (hx7.more (fun k h => by rcases h with h | h; exact .inl h; exact .inr (.inl h))).trans ((u3 _).more (fun k h => by rcases h with h | h; exact .inr (.inr (.inl h)); exact .inr (.inr (.inr h))))
                have k1 : w8.heap[M + 3 + 1]? = w7.heap[M + 3 + 1]? := (u3 (M + 3 + 1 + 1)).block _ (by omega) (by simp only [two2]; omega)
                have k2 : w8.heap[M + 9]? = w7.heap[M + 9]? := (u3 (M + 9 + 1)).block _ (by omega) (by simp only [two2]; omega)
                show KeepsFrom _ _ _ ∧ _ ∧ _
                refine ⟨keeps_of_but hbut8 (by simp only [four4]; intro k hk; omega), kp4_of_but hbut8 (by omega) (by omega) (by simp only [four4]; omega) (by simp only [four4]; omega) (by simp only [four4]; omega) (by simp only [four4]; omega), D1a, D2a, ?_⟩
                rw [← Hgxx.out, q1, q2, q3]
                exact ⟨u0, u1, fun o => (u4 _).trans (n3 o), u2, (u4 _).trans n5, v1.kept k1, v2, v3.kept k2, v4, a10.trans (hbut8.mono a11), Nat.le_trans a11 (Nat.le_trans hxs (u3 0).size)⟩
      case done =>
        rintro Dd xs W' hDd hS ⟨D1', D2', a1, a2, a3, a4, a5, a6, a7, a8, a9, a10, a11⟩ hKd
        have hev1 : ev come = spanL (g xs) := by rw [Hev.out, endsOf_step f worth places before hp hc, Hg.out, ← hS]
        obtain ⟨e1, e2, he⟩ : ∃ e1 e2, spanL (g xs) = (e1, e2) := by
          cases spanL (g xs) with
          | mk a b => exact ⟨a, b, rfl⟩
        rw [he] at a1 a2 hev1
        simp only [] at a1 a2
        have Hev1 := Lib.hid hev1; clear hev1
        clear he
        have hb0 := a10.cell c0 (by omega) (by simp only [four4]; omega)
        have hb2 := a10.cell hEL.k (by omega) (by simp only [four4]; omega)
        have r0 := a10.cell c1 (by omega) (by simp only [four4]; omega)
        have r1 := a10.cell c1' (by omega) (by simp only [four4]; omega)
        have r2 : ∀ o, W'.frozen? ⟨W.heap.size + 1, o, none⟩ = false := fun o => (a10.frozen (by omega) (by simp only [four4]; omega)).trans (f1 o)
        obtain ⟨o, hup, hM', ho⟩ := run_mapUpdate_int a8 und140 und87 come (.agg #[.int .i64 e1, .int .i64 e2])
        have keepB : ∀ k, k ≠ M + 9 → (W'.putObj (M + 9) o).heap[k]? = W'.heap[k]? := fun k hk => World.putObj_heap_other hk
        have q1 : (W'.putObj (M + 9) o).cell? ⟨W.heap.size + 1 + 1 + 1, 0, none⟩ = some (.int .i64 e1) := by rw [World.cell?_of_block (keepB _ (by simp; omega))]; exact a1
        have q2 : (W'.putObj (M + 9) o).cell? ⟨W.heap.size + 1 + 1 + 1, 1, none⟩ = some (.int .i64 e2) := by rw [World.cell?_of_block (keepB _ (by simp; omega))]; exact a2
        have q3 : (W'.putObj (M + 9) o).cell? ⟨W.heap.size + 1, 0, none⟩ = some (.int .i64 0) := by rw [World.cell?_of_block (keepB _ (by simp; omega))]; exact r0
        have q4 : (W'.putObj (M + 9) o).cell? ⟨W.heap.size + 1, 1, none⟩ = some (.int .i64 0) := by rw [World.cell?_of_block (keepB _ (by simp; omega))]; exact r1
        have q5 : (W'.putObj (M + 9) o).frozen? ⟨W.heap.size + 1, 0, none⟩ = false := by rw [World.frozen?_of_block (keepB _ (by simp; omega))]; exact r2 0
        have q6 : (W'.putObj (M + 9) o).frozen? ⟨W.heap.size + 1, 1, none⟩ = false := by rw [World.frozen?_of_block (keepB _ (by simp; omega))]; exact r2 1
        have hne1 : W.heap.size + 1 < W.heap.size + 1 + 1 + 1 := by omega
        have hne3 : M + 9 < W.heap.size := by omega
        have hKd' : (W'.putObj (M + 9) o).heap[Dd]? = some (.deferred (some [])) := (keepB _ (by omega)).trans hKd
        have hKd2 : (((W'.putObj (M + 9) o).setCell ⟨W.heap.size + 1, 0, none⟩ (.int .i64 e1)).setCell ⟨W.heap.size + 1, 1, none⟩ (.int .i64 e2)).heap[Dd]? = some (.deferred (some [])) := by
          rw [Below.heap_setCell _ _ _ _ (by simp; omega), Below.heap_setCell _ _ _ _ (by simp; omega)]; exact hKd'
        have hm1 : MapIs (((W'.putObj (M + 9) o).setCell ⟨W.heap.size + 1, 0, none⟩ (.int .i64 e1)).setCell ⟨W.heap.size + 1, 1, none⟩ (.int .i64 e2)) (M + 3 + 1) .u64 D1' :=
          a6.kept (by rw [Below.heap_setCell _ _ _ _ (by simp; omega), Below.heap_setCell _ _ _ _ (by simp; omega)]; exact keepB _ (by omega))
        have hm2 : MapIs (((W'.putObj (M + 9) o).setCell ⟨W.heap.size + 1, 0, none⟩ (.int .i64 e1)).setCell ⟨W.heap.size + 1, 1, none⟩ (.int .i64 e2)) (M + 9) .u64 (fun x => if x = (come : Int) then some (.agg #[.int .i64 e1, .int .i64 e2]) else D2' x) :=
          hM'.kept (by rw [Below.heap_setCell _ _ _ _ (by simp; omega), Below.heap_setCell _ _ _ _ (by simp; omega)])
        have hend : But (two2 (M + 3 + 1) (M + 9)) W.heap.size W (((W'.putObj (M + 9) o).setCell ⟨W.heap.size + 1, 0, none⟩ (.int .i64 e1)).setCell ⟨W.heap.size + 1, 1, none⟩ (.int .i64 e2)) := by
          refine ⟨a10.os.trans hbel.os, a10.tape.trans hbel.tape, a10.output.trans hbel.output, ?_, fun k hk hne => ?_⟩
          · simp [World.putObj]; omega
          · simp only [two2, not_or] at hne
            rw [Below.heap_setCell _ _ _ _ (by simp; omega), Below.heap_setCell _ _ _ _ (by simp; omega), keepB _ hne.2, a10.block k (by omega) (by simp only [four4]; omega)]
            exact hbel.block k hk
        have hkn : Knows (fun c => pairV (ev c)) (fun x => if x = (come : Int) then some (.agg #[.int .i64 e1, .int .i64 e2]) else D2' x) := by
          intro n v hv
          simp only at hv
          split at hv
          · rename_i e
            cases hv
            exact ⟨come, e, by show _ = pairV (ev come); rw [Hev1.out]⟩
          · exact a9 n v hv
        have Hm2 := Lib.hid hm2
        have Hkn := Lib.hid hkn
        clear hm2 hkn a3 a4 a5 a6 a8 a9 a10 hM' keepB hKd hS c0 c1 c1' c3 c3' c4 f1 f3 f4 hNx hRL hML1 hML2 hEL hE hM1 hM2 hR H Hask hmeth hnilA hcf hK1 hK2 hwv Hg hbel hb5 r0 r1 r2 ho
        gi_wp2
        have hne9 : Dd ≠ W.heap.size + 1 := by omega
        have z0 : ∀ oo, ((((W'.putObj (M + 9) o).setCell ⟨W.heap.size + 1, 0, none⟩ (.int .i64 e1)).setCell ⟨W.heap.size + 1, 1, none⟩ (.int .i64 e2)).putObj Dd oo).cell? ⟨W.heap.size + 1, 0, none⟩ = some (.int .i64 e1) := fun oo => by
          rw [World.cell?_of_block (World.putObj_heap_other (by simp; omega))]; exact cellOther (cellSame q3) (by omega)
        have z1 : ∀ oo, ((((W'.putObj (M + 9) o).setCell ⟨W.heap.size + 1, 0, none⟩ (.int .i64 e1)).setCell ⟨W.heap.size + 1, 1, none⟩ (.int .i64 e2)).putObj Dd oo).cell? ⟨W.heap.size + 1, 1, none⟩ = some (.int .i64 e2) := fun oo => by
          rw [World.cell?_of_block (World.putObj_heap_other (by simp; omega))]; exact cellSame (cellOther q4 (by omega))
        refine ⟨by simp, .inl ⟨_, _, rfl, run_takeDeferred hKd2, ?_⟩⟩
        refine ⟨.agg #[.int .i64 e1, .int .i64 e2], ?_, ?_⟩
        · simp [results, Try.results97, go_sem, z0, z1]
        rw [← Hwv.out, ← Hev.out]
        refine ⟨by rw [Hev1.out], D1', _, hm1.kept (World.putObj_heap_other (by omega)), a7, Hm2.out.kept (World.putObj_heap_other (by omega)), Hkn.out, hend.put _ (.inl (by omega))⟩
      case stop =>
        rintro D c pre W _ _ h _
        exact h.elim
end Go.Proofs.Ytoabfffmjhdijaa
