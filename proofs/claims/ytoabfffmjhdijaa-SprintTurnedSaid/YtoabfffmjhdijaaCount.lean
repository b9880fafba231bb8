import Derived.Test.YtoabfffmjhdijaaWays
import Derived.Laws.EntriesVeiled
import Derived.Recover
/- ways, count and what opens a sprint, of package sprint. -/
set_option linter.unusedSimpArgs false
set_option linter.unusedVariables false
namespace Go.Proofs.Ytoabfffmjhdijaa
open Go.RowKit Go.Shelf

/-- What ways hands back. -/
structure WaysMade (w : World) (B pairs : Nat) (w' : World) : Prop where
  env : WaysAt w' (w.heap.size + 1 + 1 + 1) (w.heap.size + 1 + 1) w.heap.size (w.heap.size + 1 + 1 + 1 + 1) B (w.heap.size + 1) (2 ^ pairs - 1)
  map : MapIs w' (w.heap.size + 1) .u64 (fun _ => none)
  below : Below w.heap.size w w'
  size : w'.heap.size = w.heap.size + 1 + 1 + 1 + 1 + 1
/-- The closure of ways, as a value. -/
abbrev waysV (N : Nat) : Value := .func (.func 87) #[] #[.pointer (some ⟨N + 1 + 1 + 1, 0, none⟩), .pointer (some ⟨N + 1 + 1, 0, none⟩), .pointer (some ⟨N, 0, none⟩), .pointer (some ⟨N + 1 + 1 + 1 + 1, 0, none⟩)]

set_option maxHeartbeats 400000 in
theorem ways_any (B pairs : Nat) (hp : pairs ≤ 6) (w : World) (h3 : w.cell? ⟨B, 3, none⟩ = some (.int .i64 pairs)) :
    Calls Try.prog 56 #[.pointer (some ⟨B, 0, none⟩)] w fun e w' => e = .returned (waysV w.heap.size) ∧ WaysMade w B pairs w' := by
  have hB := lt_of_cell h3
  have hp64 : pairs < 64 := by omega
  have hmf : ∀ (fn : Fn) (first cap : Array Value) (w : World), (Instr.makeFunc fn first cap).run Try.prog w = .ok (.func fn first cap) w := fun _ _ _ _ => rfl
  have hmm := @run_makeMap Try.prog
  have hpast : ∀ o1 o2 o3, (((w.alloc o1).alloc o2).alloc o3).cell? ⟨B, 3, none⟩ = some (.int .i64 pairs) := fun _ _ _ => cellP (cellP (cellP h3 _) _) _
  go_enter Try.func56, Try.ntmps56
  go_wp2
  go_ret
  refine ⟨rfl, ⟨⟨cellP (cellN (by simp) rfl) _, cellP (cellP (cellN (by simp) rfl) _) _, cellP (cellP (cellP (cellP (cellN rfl rfl) _) _) _) _, cellN (by simp) rfl⟩, ?_, ?_, by simp⟩⟩
  · have h := MapIs.new (w.alloc (.cells #[.pointer (some ⟨B, 0, none⟩)] 79)) .u64
    rw [World.size_alloc] at h
    refine h.kept ?_
    rw [Below.heap_alloc _ _ _ (by simp <;> omega), Below.heap_alloc _ _ _ (by simp <;> omega), Below.heap_alloc _ _ _ (by simp <;> omega)]
  · exact (((((Below.refl _ _).alloc (Nat.le_refl _) _).alloc (by simp) _).alloc (by simp; omega) _).alloc (by simp; omega) _).alloc (by simp; omega) _

/-- What counts, in a run. -/
theorem RunAt.r {w : World} {B : Nat} {va vp : Value} {d : Bool} {pairs : Nat} {worth : Nat → Int} {places before : Nat → Nat} (h : RunAt w B va vp d pairs worth places before) : RunR w B pairs places before := ⟨h.c3, h.pl, h.be⟩
theorem RunR.below {w w' : World} {B pairs : Nat} {places before : Nat → Nat} (h : RunR w B pairs places before) (hb : Below w.heap.size w w') : RunR w' B pairs places before :=
  ⟨Below.cellSome hb h.c3, fun i hi => Below.cellSome hb (h.pl i hi), fun i hi => Below.cellSome hb (h.be i hi)⟩

/-- One question to the closure of ways. -/
theorem waysCall (pairs : Nat) (hp : pairs ≤ 6) (places before : Nat → Nat) (hpl : ∀ i, U64 (places i)) (hbe : ∀ i, U64 (before i)) (wv : Nat → Nat) (hwv : Counts places before pairs wv)
    (N B : Nat) (hB : B < N) (W : World) (D : Int → Option Value) (come : Nat) (hc : come < 2 ^ pairs) (hE : WaysAt W (N + 1 + 1 + 1) (N + 1 + 1) N (N + 1 + 1 + 1 + 1) B (N + 1) (2 ^ pairs - 1)) (hR : RunR W B pairs places before)
    (hM : MapIs W (N + 1) .u64 D) (hK : Knows (fun c => .int .i64 (wv c)) D) :
    Calls Try.prog 87 #[.int .u64 come, .pointer (some ⟨N + 1 + 1 + 1, 0, none⟩), .pointer (some ⟨N + 1 + 1, 0, none⟩), .pointer (some ⟨N, 0, none⟩), .pointer (some ⟨N + 1 + 1 + 1 + 1, 0, none⟩)] W (waysPost wv (N + 1) come W) :=
  ways1_any pairs hp places before hpl hbe wv hwv _ _ _ _ B (N + 1) (by omega) (by omega) (by omega) (by omega) (by omega) (pairs - card come) come W D hc (Nat.le_refl _) hE hR hM hK

theorem below_of_grown {N : Nat} {w w' w'' : World} {m : Nat} (h : Below N w w') (hs : N ≤ w'.heap.size) (hg : w'.grownBy w'' (some m)) (hm : N ≤ m) : Below N w w'' :=
  h.grown hg hs (fun k e => by cases e; exact hm)

set_option maxHeartbeats 400000 in
theorem count_any (pairs : Nat) (hp : pairs ≤ 6) (places before : Nat → Nat) (hpl : ∀ i, U64 (places i)) (hbe : ∀ i, U64 (before i)) (wv : Nat → Nat) (hwv : Counts places before pairs wv)
    (B : Nat) (w : World) (hR : RunR w B pairs places before) :
    Calls Try.prog 52 #[.pointer (some ⟨B, 0, none⟩)] w fun e w' => e = .returned (.int .i64 (wv 0)) ∧ Below w.heap.size w w' := by
  have hB := lt_of_cell hR.c3
  go_enter Try.func52, Try.ntmps52
  go_wp2_with (go_at_call 56; refine (ways_any B pairs hp _ hR.c3).mono ?_; rintro e w' ⟨rfl, hM⟩)
  have hcall := waysCall pairs hp places before hpl hbe wv hwv w.heap.size B hB w' _ 0 (Nat.two_pow_pos _) hM.env (hR.below hM.below) hM.map (fun n v h => by cases h)
  rw [show ((0 : Nat) : Int) = 0 from rfl] at hcall
  refine hcall.mono ?_
  clear hcall
  rintro e w'' ⟨rfl, D', h1, h2, h3⟩
  go_wp2
  go_ret
  exact ⟨rfl, below_of_grown hM.below (by rw [hM.size]; omega) h3 (by omega)⟩

/-! ### told -/
theorem fail_ne_nil (n : Int) (w : World) : (binOp .eql 20 (.iface 124 (.agg #[.int .i64 n])) .nilIface).run Try.prog w = .ok (.bool false) w := by kernel_rfl
theorem fail_is (n : Int) (w : World) : (Instr.typeAssert (.iface 124 (.agg #[.int .i64 n])) 20 124 true).run Try.prog w = .ok (.tuple #[.agg #[.int .i64 n], .bool true]) w := by kernel_rfl
theorem told_panic (E : Nat) (x : Value) (n : Int) (older : List PanicEntry) (w : World) (hc : w.cell? ⟨E, 0, none⟩ = some x) (hz : w.frozen? ⟨E, 0, none⟩ = false) :
    CallsD Try.prog 50 #[.pointer (some ⟨E, 0, none⟩)] (.panicking ({ v := .iface 124 (.agg #[.int .i64 n]), recovered := false } :: older)) w fun e u' w' =>
      e = .returned (.tuple #[]) ∧ u' = .panicking ({ v := .iface 124 (.agg #[.int .i64 n]), recovered := true } :: older) ∧ (w.alloc (.cells #[.int .i64 n] 124)).setCell ⟨E, 0, none⟩ (.int .i64 n) = w' := by
  have f1 := fail_ne_nil n
  have f2 := fail_is n
  have hE := lt_of_cell hc
  have g1 : ∀ o, (w.alloc o).cell? ⟨E, 0, none⟩ = some x := fun o => cellP hc o
  have g2 : ∀ o, (w.alloc o).frozen? ⟨E, 0, none⟩ = false := fun o => (frozen_below ((Below.refl _ _).alloc (Nat.le_refl _) o) hE).trans hz
  refine callsD_of_wpS Try.func50 rfl fun c₀ cs hu => ?_
  simp only [Try.ntmps50, List.size_toArray, List.length_cons, List.length_nil, Nat.reduceAdd, Nat.reduceSub, Array.replicate_succ, Array.replicate_zero, List.push_toArray, List.append_toArray, List.nil_append, List.cons_append]
  apply wpS_seq
  apply wpS_region
  simp [wpOpsS, go_sem, recoverD, hu, Exit.thenS]
  refine wpS_of_wp (Code.wp_mono (Q := fun e a' w' => e = .normal ∧ a'.defers = [] ∧ (w.alloc (.cells #[.int .i64 n] 124)).setCell ⟨E, 0, none⟩ (.int .i64 n) = w') ?_ ?_)
  · rintro e a' w' ⟨rfl, hd, rfl⟩
    simp [bodyPostS, results, Try.results50, hd]
  · clear hu
    go_wp2
theorem nil_eq_nil (w : World) : (binOp .eql 20 .nilIface .nilIface).run Try.prog w = .ok (.bool true) w := by kernel_rfl
theorem told_ok (E : Nat) (w : World) :
    CallsD Try.prog 50 #[.pointer (some ⟨E, 0, none⟩)] .returning w fun e u' w' => e = .returned (.tuple #[]) ∧ u' = .returning ∧ w = w' := by
  have f1 := nil_eq_nil
  refine callsD_of_wpS Try.func50 rfl fun c₀ cs hu => ?_
  simp only [Try.ntmps50, List.size_toArray, List.length_cons, List.length_nil, Nat.reduceAdd, Nat.reduceSub, Array.replicate_succ, Array.replicate_zero, List.push_toArray, List.append_toArray, List.nil_append, List.cons_append]
  apply wpS_seq
  apply wpS_region
  simp [wpOpsS, go_sem, recoverD, hu, Exit.thenS]
  refine wpS_of_wp (Code.wp_mono (Q := fun e a' w' => e = .normal ∧ a'.defers = [] ∧ w = w') ?_ ?_)
  · rintro e a' w' ⟨rfl, hd, rfl⟩
    cases c₀
    simp_all [bodyPostS, results, Try.results50]
  · clear hu
    go_wp2

/-! ### whole -/
/-- All that was seen in a sprint. -/
def every (x : Spr) : Nat := 2 ^ (x.ahead.length + x.places.length) - 1
set_option maxHeartbeats 400000 in
theorem every_any (a1 a2 : Option Addr) (n1 n2 c1 c2 : Nat) (d : Bool) (w : World) (h1 : n1 ≤ 8) (h2 : n2 ≤ 6) :
    Calls Try.prog 94 #[.agg #[.slice a1 n1 c1, .slice a2 n2 c2, .bool d]] w fun e w' => e = .returned (.int .u64 ((2 ^ (n1 + n2) - 1 : Nat) : Int)) ∧ w.alloc (.cells #[.slice a1 n1 c1, .slice a2 n2 c2, .bool d] 46) = w' := by
  have h64 : n1 + n2 < 64 := by omega
  go_enter Try.func94, Try.ntmps94
  go_wp2
  go_ret
  exact ⟨rfl, rfl⟩
theorem every_u64 {x : Spr} {s : Sps} (h : GoodX s x) : U64 (every x) := by
  unfold every
  have := h.a8; have := h.p6
  have := pow_lt_u64 (p := x.ahead.length + x.places.length) (by omega)
  unfold U64 at *; omega
def wholePost (s : Sps) (n seen : Nat) (hn : n < s.list.length) (w : World) (e : Ending) (w' : World) : Prop :=
  ∃ B, e = .returned (.pointer (some ⟨B, 0, none⟩)) ∧ w.heap.size ≤ B ∧ IsRun w' B s s.list[n] seen ∧ Below w.heap.size w w'
set_option maxHeartbeats 400000 in
theorem whole_any (s : Sps) (n : Nat) (v : Value) (w : World) (hs : IsSps w v s) (hv : goodSps s = true) (hn : n < s.list.length) :
    Calls Try.prog 86 #[v, .int .i64 n] w (wholePost s n (every s.list[n]) hn w) := by
  have hsp := hs
  obtain ⟨vp, vl, rfl, hpts, hlst⟩ := hs
  obtain ⟨pa, pc, rfl, hp1, hp2⟩ := IsRows.slice hpts
  obtain ⟨la, lc, rfl, hl1, hl2⟩ := IsRows.slice hlst.choose_spec.choose_spec.1
  obtain ⟨lb, lo, a1, c1, a2, c2, rfl, d0, d1, d2, hA, hP⟩ := IsSprs.get hlst hn
  have hlb := lt_of_cell d0
  have hX := (good_of hv).x hn
  have hu := every_u64 hX
  have h8 := hX.a8
  have h6 := hX.p6
  have hev : every s.list[n] = 2 ^ (s.list[n].ahead.length + s.list[n].places.length) - 1 := rfl
  have Hev := Lib.hid hev; clear hev
  rw [Hev.out] at hu ⊢
  have hlook := fun o1 o2 => look_any s n (2 ^ (s.list[n].ahead.length + s.list[n].places.length) - 1) _ ((w.alloc o1).alloc o2).drew (((hsp.below ((Below.refl _ _).alloc (Nat.le_refl _) o1)).below ((Below.refl _ _).alloc (Nat.le_refl _) o2)).below ((Below.refl _ _).drew)) hv hn hu
  have HL := Lib.hid hlook; clear hlook
  clear hX
  go_enter Try.func86, Try.ntmps86
  go_wp2
  go_region_held3 (fun W => W.cell? ⟨w.heap.size, 0, none⟩ = some (.int .i64 s.pairs) ∧ W.cell? ⟨w.heap.size, 1, none⟩ = some (.slice pa s.points.length pc) ∧ W.cell? ⟨w.heap.size, 2, none⟩ = some (.slice (some ⟨lb, lo, none⟩) s.list.length lc) ∧ W.cell? ⟨lb, lo + n * 3, none⟩ = some (.slice a1 s.list[n].ahead.length c1) ∧
      W.cell? ⟨lb, lo + n * 3 + 1, none⟩ = some (.slice a2 s.list[n].places.length c2) ∧ W.cell? ⟨lb, lo + n * 3 + 2, none⟩ = some (.bool s.list[n].double)) (first | go_keep | (exact ⟨Below.cellSome hb1 (cellP (cellN rfl rfl) _), Below.cellSome hb1 (cellP (cellN rfl rfl) _), Below.cellSome hb1 (cellP (cellN rfl rfl) _), Below.cellSome hb1 (cellP (cellP d0 _) _), Below.cellSome hb1 (cellP (cellP d1 _) _), Below.cellSome hb1 (cellP (cellP d2 _) _)⟩))
    (first | (go_at_call 94; refine (every_any _ _ _ _ _ _ _ _ h8 h6).mono ?_; rintro e w' ⟨rfl, rfl⟩) | (go_at_call 80; refine (HL.out _ _).mono ?_; rintro e w' ⟨rfl, hrun, hb1⟩))
  go_wp2
  go_ret
  exact ⟨_, rfl, by omega, by simpa using hrun, ((((Below.refl _ _).alloc (Nat.le_refl _) _).alloc (by simp) _).drew).trans (hb1.mono (by simp; omega))⟩

/-! ### open -/
theorem open1_any (len : Nat) (sp : Int) (b : Bool) (S P I : Nat) (w : World) (h1 : w.cell? ⟨P, 0, none⟩ = some (.int .i64 sp)) (la : Option Addr) (lc : Nat) (h2 : w.cell? ⟨S, 2, none⟩ = some (.slice la len lc)) (h3 : w.cell? ⟨I, 0, none⟩ = some (.bool b)) (hl : len ≤ 9223372036854775807) :
    Calls Try.prog 85 #[.pointer (some ⟨P, 0, none⟩), .pointer (some ⟨S, 0, none⟩), .pointer (some ⟨I, 0, none⟩)] w fun e w' => e = .returned (.bool ((decide (0 ≤ sp) && decide (sp ≤ len - 1)) && b)) ∧ w = w' := by
  cases hb : (decide (0 ≤ sp) && decide (sp ≤ len - 1))
  · go_enter Try.func85, Try.ntmps85
    go_wp2_with (go_at_call 60; refine (within_any _ _ _ _).mono ?_; rintro e w' ⟨rfl, rfl⟩)
    go_ret
    exact ⟨rfl, rfl⟩
  · go_enter Try.func85, Try.ntmps85
    go_wp2_with (go_at_call 60; refine (within_any _ _ _ _).mono ?_; rintro e w' ⟨rfl, rfl⟩)
    go_ret
    simp
/-- Is a number that of a sprint? -/
def isNum (s : Sps) (n : Int) : Bool := decide (0 ≤ n) && decide (n ≤ (s.list.length : Int) - 1)
/-- What open does. -/
def openPost (s : Sps) (sp : Int) (b : Bool) (w : World) (e : Ending) (w' : World) : Prop :=
  Below w.heap.size w w' ∧
  (goodSps s = false ∧ e = .panicked (fail 1) ∨ goodSps s = true ∧ (isNum s sp && b) = false ∧ e = .panicked (fail 2) ∨
   ∃ (n : Nat) (hn : n < s.list.length) (B : Nat), goodSps s = true ∧ b = true ∧ sp = n ∧ e = .returned (.pointer (some ⟨B, 0, none⟩)) ∧ w.heap.size ≤ B ∧ IsRun w' B s s.list[n] (every s.list[n]))
set_option maxHeartbeats 400000 in
theorem open_any (s : Sps) (sp : Int) (b : Bool) (v : Value) (w : World) (hs : IsSps w v s) :
    Calls Try.prog 51 #[v, .int .i64 sp, .bool b] w (openPost s sp b w) := by
  have hsp := hs
  obtain ⟨vp, vl, rfl, hpts, hlst⟩ := hs
  obtain ⟨pa, pc, rfl, hp1, hp2⟩ := IsRows.slice hpts
  obtain ⟨la, lc, rfl, hl1, hl2⟩ := IsRows.slice hlst.choose_spec.choose_spec.1
  have hmf : ∀ (fn : Fn) (first cap : Array Value) (w : World), (Instr.makeFunc fn first cap).run Try.prog w = .ok (.func fn first cap) w := fun _ _ _ _ => rfl
  have HV := Lib.hid (fun o1 o2 o3 => valid_any s (isNum s sp && b) _ 85 #[.pointer (some ⟨w.heap.size + 1, 0, none⟩), .pointer (some ⟨w.heap.size, 0, none⟩), .pointer (some ⟨w.heap.size + 1 + 1, 0, none⟩)] (((w.alloc o1).alloc o2).alloc o3)
    (((hsp.below ((Below.refl _ _).alloc (Nat.le_refl _) o1)).below ((Below.refl _ _).alloc (Nat.le_refl _) o2)).below ((Below.refl _ _).alloc (Nat.le_refl _) o3)))
  go_enter Try.func51, Try.ntmps51
  go_wp2_with (go_at_call 84; refine (HV.out _ _ _ ?hf (enters_of Try.func85 (by kernel_rfl) rfl)).mono ?_)
  case hf =>
    intro w' hb hg
    refine (open1_any s.list.length sp b _ _ _ w' (Below.cellSome hb (cellP (cellN (by simp) rfl) _)) la lc (Below.cellSome hb (cellP (cellP (cellN rfl rfl) _) _)) (Below.cellSome hb (cellN (by simp) rfl)) ?_).mono ?_
    · have := hlst.choose_spec.choose_spec.2
      first | omega | (have := goodSps_lists hg; omega)
    rintro e w'' ⟨rfl, rfl⟩
    exact ⟨rfl, Below.refl _ _⟩
  have hb0 : ∀ o1 o2 o3, Below w.heap.size w (((w.alloc o1).alloc o2).alloc o3) := fun o1 o2 o3 => (((Below.refl _ _).alloc (Nat.le_refl _) o1).alloc (by simp) o2).alloc (by simp; omega) o3
  rintro e w' ⟨h, hb1⟩
  have hb : Below w.heap.size w w' := (hb0 _ _ _).trans (hb1.mono (by simp; omega))
  have c0 : w'.cell? ⟨w.heap.size + 1, 0, none⟩ = some (.int .i64 sp) := Below.cellSome hb1 (cellP (cellN (by simp) rfl) _)
  have k0 : w'.cell? ⟨w.heap.size, 0, none⟩ = some (.int .i64 s.pairs) := Below.cellSome hb1 (cellP (cellP (cellN rfl rfl) _) _)
  have k1 : w'.cell? ⟨w.heap.size, 1, none⟩ = some (.slice pa s.points.length pc) := Below.cellSome hb1 (cellP (cellP (cellN rfl rfl) _) _)
  have k2 : w'.cell? ⟨w.heap.size, 2, none⟩ = some (.slice la s.list.length lc) := Below.cellSome hb1 (cellP (cellP (cellN rfl rfl) _) _)
  rcases h with ⟨hg, hbb, rfl⟩ | ⟨hg, hbb, rfl⟩ | ⟨hg, rfl⟩
  case inr.inl => exact ⟨rfl, hb, .inr (.inl ⟨hg, hbb, rfl⟩)⟩
  case inr.inr => exact ⟨rfl, hb, .inl ⟨hg, rfl⟩⟩
  obtain ⟨hbn, hbt⟩ : isNum s sp = true ∧ b = true := by simpa using hbb
  obtain ⟨hn0, hn1⟩ : 0 ≤ sp ∧ sp ≤ (s.list.length : Int) - 1 := by simpa [isNum] using hbn
  obtain ⟨n, rfl⟩ : ∃ n : Nat, sp = n := ⟨sp.toNat, by omega⟩
  have hn : n < s.list.length := by omega
  have HW := Lib.hid (whole_any s n _ w' (hsp.below hb) hg hn)
  clear hsp hpts hp1 hp2 hlst hl1 hl2 hb0 hmf HV
  go_wp2_with (go_at_call 86; refine HW.out.mono ?_; rintro e w'' ⟨B, rfl, hB, hrun, hb2⟩)
  go_ret
  exact ⟨hb.trans (hb2.mono hb.size), .inr (.inr ⟨n, hn, B, hg, hbt, rfl, rfl, Nat.le_trans hb.size hB, hrun⟩)⟩
end Go.Proofs.Ytoabfffmjhdijaa
