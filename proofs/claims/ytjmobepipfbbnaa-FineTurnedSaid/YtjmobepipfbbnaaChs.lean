import Derived.Test.YtjmobepipfbbnaaIter
/- choices of package fine: the iterator. -/
set_option linter.unusedSimpArgs false
set_option linter.unusedVariables false
namespace Go.Proofs.Ytjmobepipfbbnaa
open Go.RowKit Go.Shelf
attribute [local go_sem] Oper.semAt_some
theorem good_riders {f : Fns} (h : goodFns f = true) : 2 ≤ f.riders ∧ f.riders ≤ 6 ∧ f.list.length ≤ 5 ∧ f.rules.length ≤ 4 := by
  unfold goodFns at h
  simp only [inB, Bool.and_eq_true, decide_eq_true_eq] at h
  omega
set_option maxRecDepth 100000 in
set_option maxHeartbeats 2000000 in
theorem chs_any (f : Fns) (hg : goodFns f = true) (lo hi Fb Kb Rb B l : Nat) (κ : Int) (R : Nat) (hR : R < 64) (ra la : Option Addr) (rc lc : Nat) (J : List (Value × List Kn) → World → Prop) (W : World) (hK : Keeps f l W.heap.size lo hi J)
    (cf : W.cell? ⟨Fb, 0, none⟩ = some (.pointer (some ⟨B, 0, none⟩))) (ck : W.cell? ⟨Kb, 0, none⟩ = some (.int .i64 κ)) (cr : W.cell? ⟨Rb, 0, none⟩ = some (.int .u64 (R : Int))) (hF : FinesAt W B f ra la rc lc)
    (o1 : hi ≤ Fb ∧ hi ≤ Kb ∧ hi ≤ Rb) (o2 : B < lo ∨ hi ≤ B) (o3 : 0 < f.rules.length → ∀ a, ra = some a → a.block < lo ∨ hi ≤ a.block) (o4 : 0 < f.list.length → ∀ a, la = some a → a.block < lo ∨ hi ≤ a.block) (hs : hi ≤ W.heap.size) (hj : J [] W) :
    Calls Try.prog 79 #[.func (.yield l) #[] #[], .pointer (some ⟨Fb, 0, none⟩), .pointer (some ⟨Kb, 0, none⟩), .pointer (some ⟨Rb, 0, none⟩)] W fun e W' => (∃ v, e = .returned v) ∧ ∃ xs : List (Value × List Kn), xs.map (·.2) = choices f κ R ∧ J xs W' := by
  have hr := good_riders hg
  obtain ⟨nr, hnr⟩ : ∃ nr : Nat, f.riders = nr := ⟨f.riders.toNat, by omega⟩
  have Hc := Lib.hid (show choices f κ R = choL nr κ R 0 (f.list.drop 0) by rw [List.drop_zero]; unfold choices; rw [hnr]; rfl)
  obtain ⟨Y, hY⟩ : ∃ Y, ((W.alloc (.cells #[.func (.yield l) #[] #[]] 133)).alloc (.cells #[.func (.func 80) #[] #[.pointer (some ⟨Fb, 0, none⟩), .pointer (some ⟨W.heap.size, 0, none⟩), .pointer (some ⟨Kb, 0, none⟩), .pointer (some ⟨W.heap.size + 1, 0, none⟩), .pointer (some ⟨Rb, 0, none⟩)]] 134)) = Y := ⟨_, rfl⟩
  have hbY : Below W.heap.size W Y := by rw [← hY]; exact ((Below.refl _ _).alloc (Nat.le_refl _) _).alloc (by simp) _
  have y0 : Y.cell? ⟨W.heap.size, 0, none⟩ = some (.func (.yield l) #[] #[]) := by rw [← hY]; exact cellP (cellN rfl rfl) _
  have y1 : Y.cell? ⟨W.heap.size + 1, 0, none⟩ = some (.func (.func 80) #[] #[.pointer (some ⟨Fb, 0, none⟩), .pointer (some ⟨W.heap.size, 0, none⟩), .pointer (some ⟨Kb, 0, none⟩), .pointer (some ⟨W.heap.size + 1, 0, none⟩), .pointer (some ⟨Rb, 0, none⟩)]) := by rw [← hY]; exact cellN (by simp) rfl
  have hE : EnvOn Y lo hi Fb W.heap.size Kb (W.heap.size + 1) Rb B l κ R f ra la rc lc :=
    ⟨Below.cellSome hbY cf, y0, Below.cellSome hbY ck, y1, Below.cellSome hbY cr, hF.below hbY, ⟨o1.1, hs, o1.2.1, by omega, o1.2.2⟩, o2, o3, o4, Nat.le_trans hs hbY.size⟩
  have H := Lib.hid (on_any f hg nr hnr lo hi Fb W.heap.size Kb (W.heap.size + 1) Rb B l W.heap.size κ R hR ra la rc lc J hK f.list.length 0 (.slice none 0 0) [] [] Y (by omega) (hK.grown hj hbY) hE (.inl ⟨rfl, rfl⟩) ⟨by simp, by simp, by simp⟩)
  clear hE hF hK y0 hbY hnr hr hg
  refine (callsIn_wide (n := 3)).1 ?_
  refine callsIn_of_wp Try.func79 rfl trivial ?_ rfl
  simp only [Try.ntmps79, List.size_toArray, List.length_cons, List.length_nil, Nat.reduceAdd, Nat.reduceSub, Array.replicate_succ, Array.replicate_zero, List.push_toArray, List.append_toArray, List.nil_append, List.cons_append]
  gi_wp2_with (refine ⟨trivial, ?_⟩; gi_at_call 80; refine (callsIn_wide.2 H.out).mono ?_; rintro e W3 ⟨rfl, xs, hx1, hx2, hx3⟩)
  go_end0
  exact ⟨⟨_, rfl⟩, xs, by rw [Hc.out, hx1]; simp, by simpa using hx2⟩
/-- The iterator of choices. -/
def chFn (Fb Kb Rb : Nat) : Value := .func (.func 79) #[] #[.pointer (some ⟨Fb, 0, none⟩), .pointer (some ⟨Kb, 0, none⟩), .pointer (some ⟨Rb, 0, none⟩)]
set_option maxHeartbeats 1000000 in
theorem choices_any (B : Nat) (κ : Int) (R : Nat) (w : World) : Calls Try.prog 71 #[.pointer (some ⟨B, 0, none⟩), .int .i64 κ, .int .u64 (R : Int)] w fun e w' =>
    e = .returned (chFn w.heap.size (w.heap.size + 1) (w.heap.size + 2)) ∧ w' = ((w.alloc (.cells #[.pointer (some ⟨B, 0, none⟩)] 76)).alloc (.cells #[.int .i64 κ] 3)).alloc (.cells #[.int .u64 (R : Int)] 83) := by
  unfold chFn
  go_enter Try.func71, Try.ntmps71
  go_wp2
  go_ret
  exact ⟨rfl, rfl⟩
theorem seqch (f : Fns) (hg : goodFns f = true) (lo hi Fb Kb Rb B n : Nat) (κ : Int) (R : Nat) (hR : R < 64) (ra la : Option Addr) (rc lc : Nat) (w : World)
    (cf : w.cell? ⟨Fb, 0, none⟩ = some (.pointer (some ⟨B, 0, none⟩))) (ck : w.cell? ⟨Kb, 0, none⟩ = some (.int .i64 κ)) (cr : w.cell? ⟨Rb, 0, none⟩ = some (.int .u64 (R : Int))) (hF : FinesAt w B f ra la rc lc)
    (o1 : hi ≤ Fb ∧ hi ≤ Kb ∧ hi ≤ Rb) (o2 : B < lo ∨ hi ≤ B) (o3 : 0 < f.rules.length → ∀ a, ra = some a → a.block < lo ∨ hi ≤ a.block) (o4 : 0 < f.list.length → ∀ a, la = some a → a.block < lo ∨ hi ≤ a.block) (hs : hi ≤ w.heap.size) :
    SeqV Fence.wide n Try.prog 79 #[.pointer (some ⟨Fb, 0, none⟩), .pointer (some ⟨Kb, 0, none⟩), .pointer (some ⟨Rb, 0, none⟩)] (fun x => x.1) (VK f) (KpI lo hi) (fun xs => xs.map (·.2) = choices f κ R) w := by
  intro l J W hb hA hy hj
  exact (callsIn_wide (n := n)).2 (chs_any f hg lo hi Fb Kb Rb B l κ R hR ra la rc lc J W ⟨hA, fun pre x W1 h1 h2 m => yield_wide (hy pre x W1 h1 h2)⟩
    (Below.cellSome hb cf) (Below.cellSome hb ck) (Below.cellSome hb cr) (hF.below hb) o1 o2 o3 o4 (Nat.le_trans hs hb.size) hj)
end Go.Proofs.Ytjmobepipfbbnaa
