import Derived.Test.YtjmobepipfbbnaaCosts
/- What is counted of an offence. -/
set_option linter.unusedSimpArgs false
set_option linter.unusedVariables false
namespace Go.Proofs.Ytjmobepipfbbnaa
open Go.RowKit Go.Shelf
set_option maxHeartbeats 1000000 in
theorem cFined_any (r : Int) (k : Kn) (c : Int) (w : World) : Calls Try.prog 101 #[.agg #[.int .i64 r], knV k, .int .i64 c] w fun e w' => e = .returned (.int .i64 (cFined r k c)) ∧ Below w.heap.size w w' := by
  obtain ⟨k1, k2, k3, k4⟩ := k
  unfold knV cFined
  have hbX := (((Below.refl w.heap.size w).alloc (Nat.le_refl _) (.cells #[.int .i64 r] 96)).alloc (by simp) (.cells #[.int .i64 k1, .int .i64 k2, .int .i64 k3, .int .i64 k4] 103))
  by_cases h : k3 = r
  · subst h
    rw [if_pos rfl]
    have HB := Lib.hid hbX
    clear hbX
    go_enter Try.func101, Try.ntmps101
    go_wp2
    go_ret
    exact ⟨rfl, HB.out⟩
  · rw [if_neg h]
    have HB := Lib.hid hbX
    clear hbX
    go_enter Try.func101, Try.ntmps101
    go_wp2
    go_ret
    exact ⟨rfl, HB.out⟩
set_option maxHeartbeats 1000000 in
theorem cOne_any (r : Int) (k : Kn) (c : Int) (w : World) : Calls Try.prog 100 #[.agg #[.int .i64 r], knV k, .int .i64 c] w fun e w' => e = .returned (.int .i64 (cOne r k c)) ∧ Below w.heap.size w w' := by
  obtain ⟨k1, k2, k3, k4⟩ := k
  unfold knV cOne
  have hbX := (((Below.refl w.heap.size w).alloc (Nat.le_refl _) (.cells #[.int .i64 r] 85)).alloc (by simp) (.cells #[.int .i64 k1, .int .i64 k2, .int .i64 k3, .int .i64 k4] 103))
  by_cases h : k1 = r
  · subst h
    rw [if_pos rfl]
    have HB := Lib.hid hbX
    clear hbX
    go_enter Try.func100, Try.ntmps100
    go_wp2
    go_ret
    exact ⟨rfl, HB.out⟩
  · rw [if_neg h]
    have HB := Lib.hid hbX
    clear hbX
    go_enter Try.func100, Try.ntmps100
    go_wp2
    go_ret
    exact ⟨rfl, HB.out⟩
set_option maxHeartbeats 1000000 in
theorem cEach_any (k : Kn) (c : Int) (w : World) : Calls Try.prog 103 #[.agg #[], knV k, .int .i64 c] w fun e w' => e = .returned (.int .i64 (cEach k c)) ∧ Below w.heap.size w w' := by
  obtain ⟨k1, k2, k3, k4⟩ := k
  unfold knV cEach
  have hbX := (((Below.refl w.heap.size w).alloc (Nat.le_refl _) (.cells #[] 100)).alloc (by simp) (.cells #[.int .i64 k1, .int .i64 k2, .int .i64 k3, .int .i64 k4] 103))
  have HB := Lib.hid hbX
  clear hbX
  go_enter Try.func103, Try.ntmps103
  go_wp2
  go_ret
  exact ⟨rfl, HB.out⟩
theorem xor_one {r : Int} (h : 0 ≤ r ∧ r < 6) : bits BinOp.xor IntKind.i64 r 1 = partner r := by
  have hc : r = 0 ∨ r = 1 ∨ r = 2 ∨ r = 3 ∨ r = 4 ∨ r = 5 := by omega
  rcases hc with rfl | rfl | rfl | rfl | rfl | rfl <;> decide
theorem partner_ne {r : Int} : partner r ≠ r := by unfold partner; split <;> omega
set_option maxRecDepth 100000 in
set_option maxHeartbeats 1000000 in
theorem cPaid_any (r : Int) (hr : 0 ≤ r ∧ r < 6) (k : Kn) (c : Int) (hc : 0 ≤ c ∧ c ≤ 1000) (w : World) : Calls Try.prog 102 #[.agg #[.int .i64 r], knV k, .int .i64 c] w fun e w' => e = .returned (.int .i64 (cPaid r (partner r) k c)) ∧ Below w.heap.size w w' := by
  obtain ⟨k1, k2, k3, k4⟩ := k
  unfold knV cPaid
  have hx := xor_one hr
  have hq : c.tdiv 2 = c / 2 := Int.tdiv_eq_ediv_of_nonneg hc.1
  have w1 := IntWalk.i64_in (c / 2) (by omega)
  have w2 := IntWalk.i64_in (c - c / 2) (by omega)
  obtain ⟨p, hp⟩ : ∃ p, partner r = p := ⟨_, rfl⟩
  obtain ⟨q, hqq⟩ : ∃ q, c / 2 = q := ⟨_, rfl⟩
  have hbX := (((Below.refl w.heap.size w).alloc (Nat.le_refl _) (.cells #[.int .i64 r] 98)).alloc (by simp) (.cells #[.int .i64 k1, .int .i64 k2, .int .i64 k3, .int .i64 k4] 103))
  rw [hp] at hx ⊢
  rw [hqq] at hq w1 w2 ⊢
  clear hp hqq
  by_cases h : k3 = r
  · rw [if_pos h]
    subst h
    have HB := Lib.hid hbX
    clear hbX hr hx hc
    go_enter Try.func102, Try.ntmps102
    go_wp2
    go_ret
    exact ⟨rfl, HB.out⟩
  · rw [if_neg h]
    by_cases h2 : k3 = p
    · rw [if_pos h2]
      have HB := Lib.hid hbX
      have hb1 : (k3 == r) = false := by simp [h]
      subst h2
      clear hbX hr hc
      go_enter Try.func102, Try.ntmps102
      go_wp2
      go_ret
      exact ⟨rfl, HB.out⟩
    · rw [if_neg h2]
      have HB := Lib.hid hbX
      have hb1 : (k3 == r) = false := by simp [h]
      have hb2 : (k3 == p) = false := by simp [h2]
      clear hbX hr hc
      go_enter Try.func102, Try.ntmps102
      go_wp2
      go_ret
      exact ⟨rfl, HB.out⟩
/-- Something that can be asked what is counted. -/
def Counter (va : Value) (cnt : Kn → Int → Int) : Prop :=
  ∃ t v fid recv, va = .iface t v ∧ (∀ w, (method 253 t v "lapworks/fine.count").run Try.prog w = .ok (fid, recv) w) ∧
    (∀ w, (nilAhead 253 t v "lapworks/fine.count").run Try.prog w = .ok (some false) w) ∧
    (∀ args w, (callFunc fid args).run Try.prog w = .ok (.enter fid args) w) ∧
    ∀ (k : Kn) (c : Int) w, 0 ≤ c → c ≤ 1000 → Calls Try.prog fid #[recv, knV k, .int .i64 c] w fun e w' => e = .returned (.int .i64 (cnt k c)) ∧ Below w.heap.size w w'
theorem counter_fined (r : Int) : Counter (.iface 96 (.agg #[.int .i64 r])) (cFined r) :=
  ⟨96, .agg #[.int .i64 r], 101, .agg #[.int .i64 r], rfl, fun w => by kernel_rfl, fun w => by kernel_rfl, fun args w => enters_of Try.func101 (by kernel_rfl) rfl args w, fun k c w _ _ => cFined_any r k c w⟩
theorem counter_paid (r : Int) (hr : 0 ≤ r ∧ r < 6) : Counter (.iface 98 (.agg #[.int .i64 r])) (cPaid r (partner r)) :=
  ⟨98, .agg #[.int .i64 r], 102, .agg #[.int .i64 r], rfl, fun w => by kernel_rfl, fun w => by kernel_rfl, fun args w => enters_of Try.func102 (by kernel_rfl) rfl args w, fun k c w h1 h2 => cPaid_any r hr k c ⟨h1, h2⟩ w⟩
theorem counter_one (r : Int) : Counter (.iface 85 (.agg #[.int .i64 r])) (cOne r) :=
  ⟨85, .agg #[.int .i64 r], 100, .agg #[.int .i64 r], rfl, fun w => by kernel_rfl, fun w => by kernel_rfl, fun args w => enters_of Try.func100 (by kernel_rfl) rfl args w, fun k c w _ _ => cOne_any r k c w⟩
theorem counter_each : Counter (.iface 100 (.agg #[])) cEach :=
  ⟨100, .agg #[], 103, .agg #[], rfl, fun w => by kernel_rfl, fun w => by kernel_rfl, fun args w => enters_of Try.func103 (by kernel_rfl) rfl args w, fun k c w _ _ => cEach_any k c w⟩
/-- Nothing beyond the cost is counted. -/
def InCost (cnt : Kn → Int → Int) : Prop := ∀ k c, 0 ≤ c → c ≤ 1000 → 0 ≤ cnt k c ∧ cnt k c ≤ 1000
theorem in_fined (r : Int) : InCost (cFined r) := fun k c h1 h2 => by unfold cFined; split <;> omega
theorem in_paid (r p : Int) : InCost (cPaid r p) := fun k c h1 h2 => by unfold cPaid; split; omega; split <;> omega
theorem in_one (r : Int) : InCost (cOne r) := fun k c h1 h2 => by unfold cOne; split <;> omega
theorem in_each : InCost cEach := fun k c h1 h2 => by unfold cEach; omega
/-- A way to say what comes next in a fenced walk. -/
theorem heldAsk {F : Fence} {n : Nat} {o : Oper} {a : Act} {w : World} {K : Act → World → Prop} {Q : Exit → Act → World → Prop} {fid : Nat} {args : Array Value} (hd : ∀ c, o.op ≠ .defer c)
    (h : (execOp a.eval o).run Try.prog w = .ok (.enter fid args) w) (hF : ∀ f, F.fn f) (hn : F.depth.isSome = true → 1 ≤ n) (hc : CallsIn F (n - 1) Try.prog fid args w (fun e w' => match e, w' with
      | .returned v, w' => K (a.put o.dst v) w'
      | .panicked c, w' => Q (.panic c) a w'
      | .outgrown, _ => LetsOut Q)) : o.wpIn F n Try.prog a w K Q := by
  unfold Oper.wpIn
  refine ⟨fun f _ => hF f, ?_⟩
  rw [Oper.semAt_eq _ _ _ hd, h]
  simp only [Oper.uponIn]
  exact ⟨hn, hc⟩
end Go.Proofs.Ytjmobepipfbbnaa
