import Derived.Test.YtoabfffmjhdijaaApi1
import Derived.Deep.WholeRow
import Derived.Deep.MidRow
/- on and ahead of package sprint: a run with one thing more seen. -/
set_option linter.unusedSimpArgs false
set_option linter.unusedVariables false
namespace Go.Proofs.Ytoabfffmjhdijaa
open Go.RowKit Go.Shelf

/-- A run, as a value. -/
abbrev runV (va vp : Value) (d : Bool) (pairs : Int) (worth : Nat → Int) (places before : Nat → Nat) : Value :=
  .agg #[va, vp, .bool d, .int .i64 pairs, .int .i64 (worth 0), .int .i64 (worth 1), .int .i64 (worth 2), .int .i64 (worth 3), .int .i64 (worth 4), .int .i64 (worth 5),
    .int .u64 (places 0), .int .u64 (places 1), .int .u64 (places 2), .int .u64 (places 3), .int .u64 (places 4), .int .u64 (places 5),
    .int .u64 (before 0), .int .u64 (before 1), .int .u64 (before 2), .int .u64 (before 3), .int .u64 (before 4), .int .u64 (before 5)]
theorem RunAt.boxed (w : World) (va vp : Value) (d : Bool) (pairs : Int) (worth : Nat → Int) (places before : Nat → Nat) :
    RunAt (w.alloc (.cells #[va, vp, .bool d, .int .i64 pairs, .int .i64 (worth 0), .int .i64 (worth 1), .int .i64 (worth 2), .int .i64 (worth 3), .int .i64 (worth 4), .int .i64 (worth 5),
    .int .u64 (places 0), .int .u64 (places 1), .int .u64 (places 2), .int .u64 (places 3), .int .u64 (places 4), .int .u64 (places 5),
    .int .u64 (before 0), .int .u64 (before 1), .int .u64 (before 2), .int .u64 (before 3), .int .u64 (before 4), .int .u64 (before 5)] 113)) w.heap.size va vp d pairs worth places before := by
  refine ⟨cellN rfl rfl, cellN rfl rfl, cellN rfl rfl, cellN rfl rfl, fun i hi => ?_, fun i hi => ?_, fun i hi => ?_, fun i => World.frozen?_alloc_at _ _ _ _ rfl⟩ <;>
  · refine cellN rfl ?_
    match i, hi with
    | 0, _ => rfl
    | 1, _ => rfl
    | 2, _ => rfl
    | 3, _ => rfl
    | 4, _ => rfl
    | 5, _ => rfl

set_option maxHeartbeats 400000 in
theorem on_any (va vp : Value) (d : Bool) (pairs : Int) (worth : Nat → Int) (places before : Nat → Nat) (k pl : Nat) (hk : k < 6) (hpl : pl < 64) (hu : ∀ i, U64 (places i)) (w : World) :
    Calls Try.prog 61 #[runV va vp d pairs worth places before, .int .i64 k, .int .i64 pl] w fun e w' => e = .returned (.pointer (some ⟨w.heap.size, 0, none⟩)) ∧
      RunAt w' w.heap.size va vp d pairs worth (fun i => if i = k then places k &&& 2 ^ pl else places i) before ∧ Below w.heap.size w w' := by
  have hR := RunAt.boxed w va vp d pairs worth places before
  have hup := hu k
  have hb : Below w.heap.size w (w.alloc (.cells #[va, vp, .bool d, .int .i64 pairs, .int .i64 (worth 0), .int .i64 (worth 1), .int .i64 (worth 2), .int .i64 (worth 3), .int .i64 (worth 4), .int .i64 (worth 5),
    .int .u64 (places 0), .int .u64 (places 1), .int .u64 (places 2), .int .u64 (places 3), .int .u64 (places 4), .int .u64 (places 5),
    .int .u64 (before 0), .int .u64 (before 1), .int .u64 (before 2), .int .u64 (before 3), .int .u64 (before 4), .int .u64 (before 5)] 113)) := (Below.refl _ _).alloc (Nat.le_refl _) _
  go_enter Try.func61, Try.ntmps61
  go_wp2_with fail
  generalize (w.alloc (.cells #[va, vp, .bool d, .int .i64 pairs, .int .i64 (worth 0), .int .i64 (worth 1), .int .i64 (worth 2), .int .i64 (worth 3), .int .i64 (worth 4), .int .i64 (worth 5),
    .int .u64 (places 0), .int .u64 (places 1), .int .u64 (places 2), .int .u64 (places 3), .int .u64 (places 4), .int .u64 (places 5),
    .int .u64 (before 0), .int .u64 (before 1), .int .u64 (before 2), .int .u64 (before 3), .int .u64 (before 4), .int .u64 (before 5)] 113)) = w1 at *
  have hw := hR.pl k hk
  have hf := hR.fr (10 + k)
  have hk6 : (k : Int) < 6 := by omega
  go_region
  go_wp2
  go_ret
  exact ⟨rfl, (hR.setPlace hk _).drew, (hb.setCell (by simp) _).drew⟩

/-- A whole row into the block that was made last. -/
theorem wpList_store_new {P : Program} {ops : Array Oper} {rest : List Oper} {op : Oper} {a : Act} {w : World} {Q : Exit → Act → World → Prop} (hgd : op.guard = none) (ty : TypeId) (x y : Operand) (ho : op.op = .store ty x y)
    (n : Nat) (c c' : Array Value) (hx : a.eval x = .pointer (some ⟨n, 0, none⟩)) (hy : a.eval y = .agg c') (hi : (P.info? ty).map (·.size) = some c'.size) (hs : c.size = c'.size) (h1 : c'.all (·.oneCell') = true) (hn : n = w.heap.size)
    (h : wpList P ops Q rest (a.put op.dst undef) (w.alloc (.cells c' ty))) : wpList P ops Q (op :: rest) a (w.alloc (.cells c ty)) := by
  subst hn
  refine wpList_plain hgd fun K hK => ?_
  unfold Oper.wp execOp
  simp only [ho, hx, hy, Sem.run_bind, run_storeAt_new w ty c c' hi hs h1, Result.andThen_ok, Sem.run_pure]
  exact hK _ _ h
/-- The cells of a run, in order. -/
abbrev runL (va vp : Value) (d : Bool) (pairs : Int) (worth : Nat → Int) (places before : Nat → Nat) : List Value :=
  [va, vp, .bool d, .int .i64 pairs, .int .i64 (worth 0), .int .i64 (worth 1), .int .i64 (worth 2), .int .i64 (worth 3), .int .i64 (worth 4), .int .i64 (worth 5),
    .int .u64 (places 0), .int .u64 (places 1), .int .u64 (places 2), .int .u64 (places 3), .int .u64 (places 4), .int .u64 (places 5),
    .int .u64 (before 0), .int .u64 (before 1), .int .u64 (before 2), .int .u64 (before 3), .int .u64 (before 4), .int .u64 (before 5)]
theorem RunAt.range {w : World} {B : Nat} {va vp : Value} {d : Bool} {pairs : Int} {worth : Nat → Int} {places before : Nat → Nat} (h : RunAt w B va vp d pairs worth places before) : w.rangeAt B 0 (runL va vp d pairs worth places before) := by
  intro j v hv
  rw [Nat.zero_add]
  match j, hv with
  | 0, hv => cases hv; exact h.c0
  | 1, hv => cases hv; exact h.c1
  | 2, hv => cases hv; exact h.c2
  | 3, hv => cases hv; exact h.c3
  | 4, hv => cases hv; exact h.wo 0 (by omega)
  | 5, hv => cases hv; exact h.wo 1 (by omega)
  | 6, hv => cases hv; exact h.wo 2 (by omega)
  | 7, hv => cases hv; exact h.wo 3 (by omega)
  | 8, hv => cases hv; exact h.wo 4 (by omega)
  | 9, hv => cases hv; exact h.wo 5 (by omega)
  | 10, hv => cases hv; exact h.pl 0 (by omega)
  | 11, hv => cases hv; exact h.pl 1 (by omega)
  | 12, hv => cases hv; exact h.pl 2 (by omega)
  | 13, hv => cases hv; exact h.pl 3 (by omega)
  | 14, hv => cases hv; exact h.pl 4 (by omega)
  | 15, hv => cases hv; exact h.pl 5 (by omega)
  | 16, hv => cases hv; exact h.be 0 (by omega)
  | 17, hv => cases hv; exact h.be 1 (by omega)
  | 18, hv => cases hv; exact h.be 2 (by omega)
  | 19, hv => cases hv; exact h.be 3 (by omega)
  | 20, hv => cases hv; exact h.be 4 (by omega)
  | 21, hv => cases hv; exact h.be 5 (by omega)
  | j + 22, hv => simp at hv
theorem und113 : (Try.prog.underlying 113).map (·.isRow) = some true := by kernel_rfl
theorem und113' : ∃ d, Try.prog.underlying 113 = some d ∧ d.isRow = true := by
  have h := und113
  cases e : Try.prog.underlying 113 with
  | none => rw [e] at h; cases h
  | some d => rw [e] at h; exact ⟨d, rfl, by simpa using h⟩
theorem info113 : (Try.prog.info? 113).map (·.size) = some 22 := by kernel_rfl

set_option maxRecDepth 100000 in
set_option maxHeartbeats 1000000 in
theorem ahead_any (a1 a2 : Option Addr) (n1 n2 q1 q2 : Nat) (d : Bool) (n : Nat) (hn : n ≤ 6) (worth : Nat → Int) (places before : Nat → Nat) (hup : ∀ i, U64 (places i)) (hub : ∀ i, U64 (before i)) (B a b : Nat) (ha : a < 6) (hb : b < 6) (w : World)
    (hR : RunAt w B (.slice a1 n1 q1) (.slice a2 n2 q2) d n worth places before) :
    Calls Try.prog 82 #[.pointer (some ⟨B, 0, none⟩), .agg #[.int .i64 a, .int .i64 b]] w fun e w' =>
      e = .returned (.int .i64 (waysOf places (fun i => if i = b then before b ||| 2 ^ a else before i) n 0 : Nat)) ∧ Below w.heap.size w w' := by
  have hB := hR.lt
  have HG := Lib.hid (fun o => (hR.below ((Below.refl _ _).alloc (Nat.le_refl _) o)).range)
  obtain ⟨td, htd1, htd2⟩ := und113'
  have Htd1 := Lib.hid htd1; clear htd1
  have Htd2 := Lib.hid htd2; clear htd2
  have hub' := hub b
  have ha64 : a < 64 := by omega
  have hb6 : (b : Int) < 6 := by omega
  have hRb := RunAt.boxed (w.alloc (.cells #[.int .i64 a, .int .i64 b] 121)) (.slice a1 n1 q1) (.slice a2 n2 q2) d n worth places before
  simp only [World.size_alloc] at hRb
  have hbel : ∀ o1 o2, Below w.heap.size w ((w.alloc o1).alloc o2) := fun o1 o2 => ((Below.refl _ _).alloc (Nat.le_refl _) o1).alloc (by simp) o2
  have hsz : ∀ o1 o2, w.heap.size < ((w.alloc o1).alloc o2).heap.size := fun o1 o2 => by simp; omega
  have hx : ∀ o2, ((w.alloc (.cells #[.int .i64 a, .int .i64 b] 121)).alloc o2).cell? ⟨w.heap.size, 0, none⟩ = some (.int .i64 a) := fun o2 => cellP (cellN rfl rfl) _
  have hy : ∀ o2, ((w.alloc (.cells #[.int .i64 a, .int .i64 b] 121)).alloc o2).cell? ⟨w.heap.size, 1, none⟩ = some (.int .i64 b) := fun o2 => cellP (cellN rfl rfl) _
  have HO := Lib.hid (show ∀ i, U64 (if i = b then before b ||| 2 ^ a else before i) from fun i => by split; exact (hub b).or (pow_lt_u64 ha64); exact hub i)
  go_enter Try.func82, Try.ntmps82
  go_wp2_with (first | (refine wpList_load_mid rfl 113 (.tmp 7) rfl B 0 rfl _ td (HG.out _) Htd1.out Htd2.out info113 ?_) | (refine wpList_store_new rfl 113 (.tmp 5) (.tmp 8) rfl _ _ _ rfl rfl info113 rfl ?h1 ?hn ?_))
  case hn => simp
  case h1 => refine all_oneCell_toArray ?_; simp [Value.oneCell']
  have hRb' : RunAt ((w.alloc (.cells #[.int .i64 a, .int .i64 b] 121)).alloc (.cells (runL (.slice a1 n1 q1) (.slice a2 n2 q2) d n worth places before).toArray 113)) (w.heap.size + 1) (.slice a1 n1 q1) (.slice a2 n2 q2) d n worth places before := hRb
  have hx' := hx (.cells (runL (.slice a1 n1 q1) (.slice a2 n2 q2) d n worth places before).toArray 113)
  have hy' := hy (.cells (runL (.slice a1 n1 q1) (.slice a2 n2 q2) d n worth places before).toArray 113)
  have hb' := hbel (.cells #[.int .i64 a, .int .i64 b] 121) (.cells (runL (.slice a1 n1 q1) (.slice a2 n2 q2) d n worth places before).toArray 113)
  have hs' := hsz (.cells #[.int .i64 a, .int .i64 b] 121) (.cells (runL (.slice a1 n1 q1) (.slice a2 n2 q2) d n worth places before).toArray 113)
  clear hRb hx hy hbel hsz HG
  simp only [Act.put]
  generalize ((w.alloc (.cells #[.int .i64 a, .int .i64 b] 121)).alloc (.cells (runL (.slice a1 n1 q1) (.slice a2 n2 q2) d n worth places before).toArray 113)) = W at *
  generalize (runL (.slice a1 n1 q1) (.slice a2 n2 q2) d n worth places before).toArray = rv
  have hbe := hRb'.be b hb
  have hf := hRb'.fr (16 + b)
  go_region
  have hR3 := (hRb'.setBefore hb (before b ||| 2 ^ a)).drew
  have hb3 : Below w.heap.size w (W.setCell ⟨w.heap.size + 1, 16 + b, none⟩ (.int .u64 (before b ||| 2 ^ a : Nat))).drew := (hb'.setCell (by simp) _).drew
  have hs3 : w.heap.size < ((W.setCell ⟨w.heap.size + 1, 16 + b, none⟩ (.int .u64 (before b ||| 2 ^ a : Nat))).drew).heap.size := by simpa using hs'
  generalize (W.setCell ⟨w.heap.size + 1, 16 + b, none⟩ (.int .u64 (before b ||| 2 ^ a : Nat))).drew = W3 at *
  have HC := Lib.hid (count_any n hn places _ hup HO.out _ (counts_of places _ hn) (w.heap.size + 1) W3 hR3.r)
  clear hbe hf hRb' hx' hy' hb' hs' hR3
  go_wp2_with fail
  refine HC.out.mono ?_
  rintro e w4 ⟨rfl, hb4⟩
  go_wp2
  go_ret
  exact ⟨rfl, hb3.trans (hb4.mono (by omega))⟩
end Go.Proofs.Ytoabfffmjhdijaa
