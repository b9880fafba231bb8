import Derived.Test.YtoabfffmjhdijaaNext
import Derived.Test.YtoabfffmjhdijaaMaps
/- ways of package sprint: in how many orders all others can come. -/
set_option linter.unusedSimpArgs false
set_option linter.unusedVariables false
namespace Go.Proofs.Ytoabfffmjhdijaa
open Go.RowKit Go.Shelf
attribute [local go_sem] Oper.semAt_some

theorem grown_cell {w w' : World} {m : Nat} (hg : w.grownBy w' (some m)) {b o : Nat} {v : Value} (h : w.cell? ⟨b, o, none⟩ = some v) (hne : b ≠ m) : w'.cell? ⟨b, o, none⟩ = some v :=
  hg.cell h (by simpa using hne)
theorem grown_cellEq {w w' : World} {m : Nat} (hg : w.grownBy w' (some m)) {a : Addr} (h : a.block < w.heap.size) (hne : a.block ≠ m) : w'.cell? a = w.cell? a :=
  World.cell?_of_block (hg.block a.block h (by simpa using hne))
theorem grown_frozen {w w' : World} {m : Nat} (hg : w.grownBy w' (some m)) {b o : Nat} (h : b < w.heap.size) (hne : b ≠ m) : w'.frozen? ⟨b, o, none⟩ = w.frozen? ⟨b, o, none⟩ :=
  World.frozen?_of_block (hg.block b h (by simpa using hne))
theorem grown_trans {a b c : World} {m : Nat} (h : a.grownBy b (some m)) (k : b.grownBy c (some m)) : a.grownBy c (some m) := World.grownBy.trans h k
theorem grown_of_below {w w' : World} {row : Option Nat} (h : Below w.heap.size w w') : w.grownBy w' row := ⟨h.os, h.tape, h.output, h.size, fun k hk _ => h.block k hk⟩
theorem grown_putObj (w : World) (m : Nat) (o : Obj) : w.grownBy (w.putObj m o) (some m) :=
  ⟨rfl, rfl, rfl, by simp [World.putObj], fun k hk hne => by simp only [World.putObj]; rw [Array.getElem?_setIfInBounds_ne (fun h => hne (by rw [h]))]⟩

/-- What the closure of ways has captured: all, known, r, on. -/
structure WaysAt (w : World) (Na Nk Nr No B m all : Nat) : Prop where
  a : w.cell? ⟨Na, 0, none⟩ = some (.int .u64 all)
  k : w.cell? ⟨Nk, 0, none⟩ = some (.map (some m))
  r : w.cell? ⟨Nr, 0, none⟩ = some (.pointer (some ⟨B, 0, none⟩))
  o : w.cell? ⟨No, 0, none⟩ = some (.func (.func 87) #[] #[.pointer (some ⟨Na, 0, none⟩), .pointer (some ⟨Nk, 0, none⟩), .pointer (some ⟨Nr, 0, none⟩), .pointer (some ⟨No, 0, none⟩)])
theorem WaysAt.grown {w w' : World} {Na Nk Nr No B m all : Nat} (h : WaysAt w Na Nk Nr No B m all) (hg : w.grownBy w' (some m)) (h1 : Na ≠ m) (h2 : Nk ≠ m) (h3 : Nr ≠ m) (h4 : No ≠ m) : WaysAt w' Na Nk Nr No B m all :=
  ⟨grown_cell hg h.a h1, grown_cell hg h.k h2, grown_cell hg h.r h3, grown_cell hg h.o h4⟩
theorem RunR.grown {w w' : World} {B pairs m : Nat} {places before : Nat → Nat} (h : RunR w B pairs places before) (hg : w.grownBy w' (some m)) (hB : B ≠ m) : RunR w' B pairs places before :=
  ⟨grown_cell hg h.c3 hB, fun i hi => grown_cell hg (h.pl i hi) hB, fun i hi => grown_cell hg (h.be i hi) hB⟩

/-- What is known is so. -/
def Knows (f : Nat → Value) (D : Int → Option Value) : Prop := ∀ n v, D n = some v → ∃ c : Nat, n = c ∧ v = f c

/-- A function that counts by who has come. -/
structure Counts (places before : Nat → Nat) (pairs : Nat) (wv : Nat → Nat) : Prop where
  all : wv (2 ^ pairs - 1) = 1
  step : ∀ come, come < 2 ^ pairs → come ≠ 2 ^ pairs - 1 → wv come = ((cand places before come pairs).map (fun p => wv (come ||| 2 ^ p))).sum
  le : ∀ come, wv come ≤ 1000000

def waysPost (wv : Nat → Nat) (m come : Nat) (W : World) (e : Ending) (W' : World) : Prop :=
  e = .returned (.int .i64 (wv come)) ∧ ∃ D', MapIs W' m .u64 D' ∧ Knows (fun c => .int .i64 (wv c)) D' ∧ W.grownBy W' (some m)

theorem zero3 (w : World) : (zeroValue 3).run Try.prog w = .ok (.int .i64 0) w := by kernel_rfl
theorem und127 : Try.prog.underlying 127 = some (.map 87 3) := by kernel_rfl
theorem und87 : Try.prog.underlying 87 = some (.int .u64) := by kernel_rfl

theorem or_lt {pairs come p : Nat} (h : come < 2 ^ pairs) (hp : p < pairs) : come ||| 2 ^ p < 2 ^ pairs := Nat.or_lt_two_pow h (Nat.pow_lt_pow_right (by omega) hp)

/-- What stands below X but for two blocks is as it was. -/
structure But2 (X m nb : Nat) (W W' : World) : Prop where
  os : W'.os = W.os
  tape : W'.tape = W.tape
  output : W'.output = W.output
  size : W.heap.size ≤ W'.heap.size
  block : ∀ k, k < X → k ≠ m → k ≠ nb → W'.heap[k]? = W.heap[k]?
theorem But2.refl (X m nb : Nat) (W : World) : But2 X m nb W W := ⟨rfl, rfl, rfl, Nat.le_refl _, fun _ _ _ _ => rfl⟩
theorem But2.grown {X m nb : Nat} {W W' W'' : World} {row : Option Nat} (h : But2 X m nb W W') (hX : X ≤ W'.heap.size) (hg : W'.grownBy W'' row) (hr : ∀ r, row = some r → X ≤ r ∨ r = m ∨ r = nb) : But2 X m nb W W'' :=
  ⟨hg.os.trans h.os, hg.tape.trans h.tape, hg.output.trans h.output, Nat.le_trans h.size hg.size, fun k hk h1 h2 => (hg.block k (by omega) (fun e => by
    rcases hr k e.symm with h | h | h <;> omega)).trans (h.block k hk h1 h2)⟩
theorem But2.cell {X m nb : Nat} {W W' : World} (h : But2 X m nb W W') {b o : Nat} {v : Value} (hc : W.cell? ⟨b, o, none⟩ = some v) (hX : b < X) (h1 : b ≠ m) (h2 : b ≠ nb) : W'.cell? ⟨b, o, none⟩ = some v := by
  rw [World.cell?_of_block (h.block b hX h1 h2)]; exact hc
theorem But2.setCell {X m nb : Nat} {W W' : World} (h : But2 X m nb W W') (v : Value) : But2 X m nb W (W'.setCell ⟨nb, 0, none⟩ v) :=
  ⟨h.os, h.tape, h.output, by simpa using h.size, fun k hk h1 h2 => (Below.heap_setCell _ _ _ _ h2).trans (h.block k hk h1 h2)⟩

def sumA {α : Type} (f : α → Nat) (l : List α) : Nat := (l.map f).sum
theorem sumA_snoc {α : Type} (f : α → Nat) (l : List α) (x : α) : sumA f (l ++ [x]) = sumA f l + f x := by simp [sumA]
theorem sumA_le {α : Type} (f : α → Nat) (l : List α) (m : Nat) (h : ∀ x, f x ≤ m) : sumA f l ≤ l.length * m := by
  induction l with
  | nil => simp [sumA]
  | cons a l ih =>
    have := h a
    simp only [sumA, List.map_cons, List.sum_cons, List.length_cons] at *
    rw [Nat.add_mul]; omega
/-- What holds between two rounds of the sum. -/
def waysInv {α : Type} (f : α → Nat) (wv : Nat → Nat) (X m nb : Nat) (WL : World) (pre : List α) (W' : World) : Prop :=
  ∃ D', W'.cell? ⟨nb, 0, none⟩ = some (.int .i64 (sumA f pre : Nat)) ∧ W'.frozen? ⟨nb, 0, none⟩ = false ∧ MapIs W' m .u64 D' ∧ Knows (fun c => .int .i64 (wv c)) D' ∧ But2 X m nb WL W' ∧ X ≤ W'.heap.size
theorem waysInv_own {α : Type} (f : α → Nat) (wv : Nat → Nat) (X m nb : Nat) (WL : World) (hm : m < X) (hn : nb < X) : OwnFrom X (waysInv f wv X m nb WL) := by
  rintro pre A B row ⟨D', h1, h2, h3, h4, h5, h6⟩ hg hr
  have hne : ∀ k, k < X → some k ≠ row := fun k hk e => by have := (hr k e.symm).1; omega
  refine ⟨D', hg.cell h1 (hne nb hn), ?_, h3.kept (hg.block m (by omega) (hne m hm)), h4, h5.grown h6 hg (fun r e => .inl (hr r e).1), Nat.le_trans h6 hg.size⟩
  rw [World.frozen?_of_block (hg.block nb (by omega) (hne nb hn))]; exact h2

set_option maxRecDepth 100000 in
set_option maxHeartbeats 400000 in
theorem ways1_all (pairs : Nat) (wv : Nat → Nat) (hw : wv (2 ^ pairs - 1) = 1) (come : Nat) (hall : come = 2 ^ pairs - 1)
    (Na Nk Nr No B m : Nat) (W : World) (D : Int → Option Value) (hE : WaysAt W Na Nk Nr No B m (2 ^ pairs - 1)) (hM : MapIs W m .u64 D) (hK : Knows (fun c => .int .i64 (wv c)) D) :
      Calls Try.prog 87 #[.int .u64 come, .pointer (some ⟨Na, 0, none⟩), .pointer (some ⟨Nk, 0, none⟩), .pointer (some ⟨Nr, 0, none⟩), .pointer (some ⟨No, 0, none⟩)] W (waysPost wv m come W) := by
  have hbe : ((come : Int) == ((2 ^ pairs - 1 : Nat) : Int)) = true := by simp [hall]
  have HW := Lib.hid (show wv come = 1 by rw [hall]; exact hw)
  clear hall hw
  have hNa := lt_of_cell hE.a
  have e := hE.a
  refine (callsIn_wide (n := 3)).1 ?_
  refine callsIn_of_wp_marks Try.func87 rfl trivial ?_ rfl
  simp only [Try.ntmps87, List.size_toArray, List.length_cons, List.length_nil, Nat.reduceAdd, Nat.reduceSub, Array.replicate_succ, Array.replicate_zero, List.push_toArray, List.append_toArray, List.nil_append, List.cons_append]
  gi_wp2
  refine ⟨_, results_tmp rfl _ _ _, ?_⟩
  refine ⟨by rw [HW.out]; rfl, D, hM.kept (Below.heap_alloc _ _ _ hM.lt), hK, World.grownBy_alloc _ _ _⟩

set_option maxRecDepth 100000 in
set_option maxHeartbeats 2000000 in
theorem ways1_any (pairs : Nat) (hp : pairs ≤ 6) (places before : Nat → Nat) (hpl : ∀ i, U64 (places i)) (hbe : ∀ i, U64 (before i)) (wv : Nat → Nat) (hwv : Counts places before pairs wv)
    (Na Nk Nr No B m : Nat) (h1 : Na ≠ m) (h2 : Nk ≠ m) (h3 : Nr ≠ m) (h4 : No ≠ m) (h5 : B ≠ m) :
    ∀ (fuel come : Nat) (W : World) (D : Int → Option Value), come < 2 ^ pairs → pairs - card come ≤ fuel → WaysAt W Na Nk Nr No B m (2 ^ pairs - 1) → RunR W B pairs places before →
      MapIs W m .u64 D → Knows (fun c => .int .i64 (wv c)) D →
      Calls Try.prog 87 #[.int .u64 come, .pointer (some ⟨Na, 0, none⟩), .pointer (some ⟨Nk, 0, none⟩), .pointer (some ⟨Nr, 0, none⟩), .pointer (some ⟨No, 0, none⟩)] W (waysPost wv m come W) := by
  intro fuel
  induction fuel with
  | zero =>
    intro come W D hc hf hE hR hM hK
    exact ways1_all pairs wv hwv.all come (card_full (by omega) hc (by omega)) Na Nk Nr No B m W D hE hM hK
  | succ fuel ih =>
    intro come W D hc hf hE hR hM hK
    have H := Lib.hid ih; clear ih
    have h64 : come < 64 := Nat.lt_of_lt_of_le hc (by have := Nat.pow_le_pow_right (n := 2) (by omega) hp; omega)
    have huc : U64 come := U64.of h64 (by omega)
    have hNa := lt_of_cell hE.a
    have hNk := lt_of_cell hE.k
    have hNr := lt_of_cell hE.r
    have hNo := lt_of_cell hE.o
    have hB := lt_of_cell hR.c3
    have hmlt := hM.lt
    by_cases hall : come = 2 ^ pairs - 1
    · exact ways1_all pairs wv hwv.all come hall Na Nk Nr No B m W D hE hM hK
    have hbe' : ((come : Int) == ((2 ^ pairs - 1 : Nat) : Int)) = false := by simp; omega
    have Hall := Lib.hid hall; clear hall
    have ea := hE.a
    have ek := hE.k
    have er := hE.r
    have hM1 : MapIs (W.alloc (.cells #[.int .u64 come] 87)) m .u64 D := hM.kept (Below.heap_alloc _ _ _ hmlt)
    have hlk := run_lookup_int (P := Try.prog) hM1 und127 und87 (zero3 _) come
    cases hD : D come with
    | some v =>
      rw [hD] at hlk
      obtain ⟨c, hcc, rfl⟩ := hK _ _ hD
      obtain rfl : c = come := by omega
      clear hcc
      simp only [Option.getD_some, Option.isSome_some] at hlk
      have HD := Lib.hid hD; clear hD
      refine (callsIn_wide (n := 3)).1 ?_
      refine callsIn_of_wp_marks Try.func87 rfl trivial ?_ rfl
      simp only [Try.ntmps87, List.size_toArray, List.length_cons, List.length_nil, Nat.reduceAdd, Nat.reduceSub, Array.replicate_succ, Array.replicate_zero, List.push_toArray, List.append_toArray, List.nil_append, List.cons_append]
      gi_wp2
      refine ⟨_, results_tmp rfl _ _ _, ?_⟩
      exact ⟨rfl, D, hM1, hK, World.grownBy_alloc _ _ _⟩
    | none =>
      rw [hD] at hlk
      simp only [Option.getD_none, Option.isSome_none] at hlk
      have HD := Lib.hid hD; clear hD
      refine (callsIn_wide (n := 3)).1 ?_
      refine callsIn_of_wp_marks Try.func87 rfl trivial ?_ rfl
      simp only [Try.ntmps87, List.size_toArray, List.length_cons, List.length_nil, Nat.reduceAdd, Nat.reduceSub, Array.replicate_succ, Array.replicate_zero, List.push_toArray, List.append_toArray, List.nil_append, List.cons_append]
      gi_wp2_with (refine ⟨trivial, ?_⟩; gi_at_call 58; refine (callsIn_wide.2 (next_any B come h64 _)).mono ?_; rintro e w' ⟨rfl, rfl⟩)
      obtain ⟨WL, hWL⟩ : ∃ WL, nextW ((W.alloc (.cells #[.int .u64 come] 87)).alloc (.cells #[.int .i64 0] 3)) B come = WL := ⟨_, rfl⟩
      have hbel : Below W.heap.size W WL := by
        rw [← hWL]; exact (((Below.refl _ W).alloc (Nat.le_refl _) _).alloc (by simp) _).trans ((nextW_below _ _ _).mono (by simp; omega))
      have c0 : WL.cell? ⟨W.heap.size, 0, none⟩ = some (.int .u64 come) := by
        rw [← hWL]; exact Below.cellSome (nextW_below _ _ _) (cellP (cellN rfl rfl) _)
      have c1 : WL.cell? ⟨W.heap.size + 1, 0, none⟩ = some (.int .i64 0) := by
        rw [← hWL]; exact Below.cellSome (nextW_below _ _ _) (cellN (by simp) rfl)
      have f1 : WL.frozen? ⟨W.heap.size + 1, 0, none⟩ = false := by
        rw [← hWL, frozen_below (nextW_below _ _ _) (by simp)]; exact World.frozen?_alloc_at _ _ _ _ (by simp)
      have hNx : NextAt WL (W.heap.size + 1 + 1) B come := by
        have := nextW_at ((W.alloc (.cells #[.int .u64 come] 87)).alloc (.cells #[.int .i64 0] 3)) B come
        rw [hWL] at this; simpa using this
      have hsz : WL.heap.size = W.heap.size + 5 := by rw [← hWL, nextW_size]; simp
      have hRL := RunR.grown (m := m) hR (grown_of_below hbel) h5
      have hEL := WaysAt.grown hE (grown_of_below hbel) h1 h2 h3 h4
      have hML : MapIs WL m .u64 D := hM.kept (hbel.block m hmlt)
      rw [hWL]
      clear hlk hM1 hWL
      obtain ⟨f, hf'⟩ : ∃ f : Can places before come pairs → Nat, f = fun p => wv (come ||| 2 ^ p.1) := ⟨_, rfl⟩
      have Hf := Lib.hid hf'; clear hf'
      refine rangeG 25 10 rfl (by omega) (gf := 89) (lb := #[.pointer (some ⟨W.heap.size + 1 + 1, 0, none⟩), .pointer (some ⟨W.heap.size + 1 + 1 + 1, 0, none⟩), .pointer (some ⟨W.heap.size + 1 + 1 + 1 + 1, 0, none⟩)]) rfl trivial (enters_of Try.func89 (by kernel_rfl) rfl)
        (next_stops 2 (by omega) (W.heap.size + 1 + 1) B come pairs hp h64 places before hpl hbe WL hNx hRL (by omega)) Kp4.trans ?hKb (Below.refl _ _)
        (waysInv f wv WL.heap.size m (W.heap.size + 1) WL) (fun _ _ _ => False)
        (waysInv_own _ _ _ _ _ _ (by omega) (by omega)) (fun _ _ _ _ _ hs _ _ => hs) ⟨D, c1, f1, hML, hK, But2.refl _ _ _ _, Nat.le_refl _⟩
        ?assign ?body ?done ?stop
      case hKb => exact fun W' l o o' hl _ _ _ => kp4_putObj W' o' (by omega) (by omega)
      case assign =>
        intro l x W K hK
        gi_wp2
        exact hK
      case body =>
        rintro l pre x W' ⟨D', q1, q2, q3, q4, q5, q6⟩ hlen
        simp only [List.setIfInBounds_toArray, List.set_cons_zero, List.set_cons_succ]
        obtain ⟨x, hx, hok⟩ := x
        have hb3 := q5.cell hEL.o (by omega) h4 (by omega)
        have hb0 := q5.cell c0 (by omega) (by omega) (by omega)
        have hxt : come.testBit x = false := by
          simp only [okN, Bool.and_eq_true, Bool.not_eq_true'] at hok; exact hok.1.1
        have hcard := card_or (x := come) (p := x) (by omega) hxt
        have hx64 : x < 64 := by omega
        have hun : U64 (come ||| 2 ^ x) := huc.or (pow_lt_u64 hx64)
        have Hcall := Lib.hid (H.out (come ||| 2 ^ x) W'.drew D' (or_lt hc hx) (by omega)
          ⟨q5.cell hEL.a (by omega) h1 (by omega), q5.cell hEL.k (by omega) h2 (by omega), q5.cell hEL.r (by omega) h3 (by omega), hb3⟩
          ⟨q5.cell hRL.c3 (by omega) h5 (by omega), fun i hi => q5.cell (hRL.pl i hi) (by omega) h5 (by omega), fun i hi => q5.cell (hRL.be i hi) (by omega) h5 (by omega)⟩ (q3.kept rfl) q4)
        apply wpIn_block
        refine heldRegion (fun X => X.cell? ⟨W.heap.size + 1, 0, none⟩ = some (.int .i64 (sumA f pre : Nat)) ∧
          X.cell? ⟨No, 0, none⟩ = some (.func (.func 87) #[] #[.pointer (some ⟨Na, 0, none⟩), .pointer (some ⟨Nk, 0, none⟩), .pointer (some ⟨Nr, 0, none⟩), .pointer (some ⟨No, 0, none⟩)]) ∧
          X.cell? ⟨W.heap.size, 0, none⟩ = some (.int .u64 come)) (by kernel_rfl) ?_
        have hS0 := And.intro q1 (And.intro hb3 hb0)
        refine heldTake 0 (fun _ => trivial) rfl (by kernel_rfl) (by kernel_rfl) (by kernel_rfl) (fun _ _ _ h => h) hS0 rfl (v := .int .i64 (sumA f pre : Nat)) ?y0 ?_
        case y0 => rintro w ⟨s1, s2, s3⟩; go_simp
        simp only [Act.put, List.setIfInBounds_toArray, List.set_cons_zero, List.set_cons_succ]
        refine heldTake 1 (fun _ => trivial) rfl (by kernel_rfl) (by kernel_rfl) (by kernel_rfl) (fun _ _ _ h => h) hS0 rfl (v := .func (.func 87) #[] #[.pointer (some ⟨Na, 0, none⟩), .pointer (some ⟨Nk, 0, none⟩), .pointer (some ⟨Nr, 0, none⟩), .pointer (some ⟨No, 0, none⟩)]) ?y1 ?_
        case y1 => rintro w ⟨s1, s2, s3⟩; go_simp
        simp only [Act.put, List.setIfInBounds_toArray, List.set_cons_zero, List.set_cons_succ]
        refine heldTake 2 (fun _ => trivial) rfl (by kernel_rfl) (by kernel_rfl) (by kernel_rfl) (fun _ _ _ h => h) hS0 rfl (v := .int .u64 come) ?y2 ?_
        case y2 => rintro w ⟨s1, s2, s3⟩; go_simp
        simp only [Act.put, List.setIfInBounds_toArray, List.set_cons_zero, List.set_cons_succ]
        refine heldTake 3 (fun _ => trivial) rfl (by kernel_rfl) (by kernel_rfl) (by kernel_rfl) (fun _ _ _ h => h) hS0 rfl (v := .int .i64 x) ?y3 ?_
        case y3 => rintro w ⟨s1, s2, s3⟩; go_simp
        simp only [Act.put, List.setIfInBounds_toArray, List.set_cons_zero, List.set_cons_succ]
        refine heldTake 4 (fun _ => trivial) rfl (by kernel_rfl) (by kernel_rfl) (by kernel_rfl) (fun _ _ _ h => h) hS0 rfl (v := .int .u64 (2 ^ x)) ?y4 ?_
        case y4 => rintro w ⟨s1, s2, s3⟩; go_simp
        simp only [Act.put, List.setIfInBounds_toArray, List.set_cons_zero, List.set_cons_succ]
        refine heldTake 5 (fun _ => trivial) rfl (by kernel_rfl) (by kernel_rfl) (by kernel_rfl) (fun _ _ _ h => h) hS0 rfl (v := .int .u64 (come ||| 2 ^ x : Nat)) ?y5 ?_
        case y5 => rintro w ⟨s1, s2, s3⟩; go_simp
        simp only [Act.put, List.setIfInBounds_toArray, List.set_cons_zero, List.set_cons_succ]
        have hfx : f ⟨x, hx, hok⟩ = wv (come ||| 2 ^ x) := by rw [Hf.out]
        have hle1 : sumA f pre ≤ 6000000 := by
          have := sumA_le f pre 1000000 (fun p => by rw [Hf.out]; exact hwv.le _)
          omega
        have hle2 := hwv.le (come ||| 2 ^ x)
        have Hfx := Lib.hid hfx; clear hfx
        refine heldNext 6 (by kernel_rfl) rfl rfl (fun K hK => ?_)
        gi_wp2_with (refine ⟨trivial, ?_⟩; gi_at_call 87; refine (CallsIn.inRound l (callsIn_wide.2 Hcall.out)).mono ?_; rintro e w' ⟨rfl, D'', r1, r2, r3⟩)
        have hS1 := And.intro (grown_cell r3 q1 (by omega)) (And.intro (grown_cell r3 hb3 h4) (grown_cell r3 hb0 (by omega)))
        refine hK _ _ (fun _ => hS1) ?_
        clear hK K
        refine heldTake 7 (fun _ => trivial) rfl (by kernel_rfl) (by kernel_rfl) (by kernel_rfl) (fun _ _ _ h => h) hS1 rfl (v := .int .i64 ((sumA f pre : Nat) + (wv (come ||| 2 ^ x) : Nat))) ?y7 ?_
        case y7 => rintro w ⟨s1, s2, s3⟩; go_simp; exact IntWalk.i64_in _ (by omega)
        simp only [Act.put, List.setIfInBounds_toArray, List.set_cons_zero, List.set_cons_succ]
        have hn1 := hS1.1
        have hfr : w'.frozen? ⟨W.heap.size + 1, 0, none⟩ = false := by
          rw [grown_frozen r3 (by simp; omega) (by omega)]; exact q2
        refine heldLast 8 (by kernel_rfl) rfl (by kernel_rfl) (by kernel_rfl) rfl (fun K hK => ?_)
        gi_wp2
        have hg : But2 WL.heap.size m (W.heap.size + 1) WL w' := q5.grown q6 (World.grownBy.trans (World.grownBy_drewN W' 1 _) r3) (fun r e => by cases e; exact .inr (.inl rfl))
        have hkw : KeepsFrom WL.heap.size W' w' := ⟨r3.size, fun k o hk ho hc => (r3.block k (Array.getElem?_eq_some_iff.1 ho).1 (by simp; omega)).trans ho⟩
        refine ⟨hkw.trans ((KeepsOthers.setCell _ _ _).from _), ?_, D'', ?_, ?_, ?_, r2, hg.setCell _, ?_⟩
        · refine Kp4.trans ⟨r3.size, fun a ha => grown_cellEq r3 (by simp; omega) (by omega)⟩ ⟨by simp, fun a ha => World.cell?_setCell_other _ _ _ _ (fun e => by rw [← e] at ha; simp at ha; omega)⟩
        · rw [sumA_snoc, Hfx.out, Int.natCast_add]; exact cellSame hn1
        · rw [World.frozen?_setCell]; exact hfr
        · exact r1.kept (Below.heap_setCell _ _ _ _ (by simp; omega))
        · simp; exact Nat.le_trans q6 r3.size
      case done =>
        rintro Dd xs W' hDd hS ⟨D', q1, q2, q3, q4, q5, q6⟩ hKd
        have hb2 := q5.cell hEL.k (by omega) h2 (by omega)
        have hb0 := q5.cell c0 (by omega) (by omega) (by omega)
        obtain ⟨o, hup, hM', ho⟩ := run_mapUpdate_int q3 und127 und87 come (.int .i64 (sumA f xs : Nat))
        have q1' : (W'.putObj m o).cell? ⟨W.heap.size + 1, 0, none⟩ = some (.int .i64 (sumA f xs : Nat)) := by
          rw [World.cell?_of_block (World.putObj_heap_other (by simp; omega))]; exact q1
        have hKd' : (W'.putObj m o).heap[Dd]? = some (.deferred (some [])) := (World.putObj_heap_other (by omega)).trans hKd
        gi_wp2
        refine ⟨by simp, .inl ⟨_, _, rfl, run_takeDeferred hKd', ?_⟩⟩
        refine ⟨_, results_tmp rfl _ _ _, ?_⟩
        have hsum : sumA f xs = wv come := by
          rw [hwv.step come hc Hall.out, ← hS, List.map_map, sumA, Hf.out]; rfl
        refine ⟨by rw [← hsum]; rfl, _, hM'.kept (World.putObj_heap_other (by omega)), ?_, ?_⟩
        · intro n v hv
          simp only at hv
          split at hv
          · rename_i e
            cases hv
            exact ⟨come, e, by rw [hsum]⟩
          · exact q4 n v hv
        · refine ⟨q5.os.trans hbel.os, q5.tape.trans hbel.tape, q5.output.trans hbel.output, ?_, fun k hk hne => ?_⟩
          · simp [World.putObj]; omega
          · have hkm : k ≠ m := fun e => hne (by rw [e])
            rw [World.putObj_heap_other (by omega), World.putObj_heap_other (by omega), q5.block k (by omega) hkm (by omega)]
            exact hbel.block k hk
      case stop =>
        rintro D c pre W _ _ h _
        exact h.elim
end Go.Proofs.Ytoabfffmjhdijaa
