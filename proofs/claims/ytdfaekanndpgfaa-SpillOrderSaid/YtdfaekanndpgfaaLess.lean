import Derived.Test.YtdfaekanndpgfaaMem
/- compared and less. -/
set_option linter.unusedSimpArgs false
set_option linter.unusedVariables false
namespace Go.Proofs.Ytdfaekanndpgfaa
open Go.RowKit
def cmpL : List (Int × Int) → Int
  | [] => 0
  | x :: t => if x.1 = x.2 then cmpL t else if x.1 < x.2 then -1 else 1
theorem cmpL_skip : ∀ {l : List (Int × Int)} (k : Nat), (∀ i, i < k → (l.getD i (0, 0)).1 = (l.getD i (0, 0)).2) → k ≤ l.length → cmpL l = cmpL (l.drop k)
  | l, 0, _, _ => by simp
  | [], k + 1, _, h => by simp at h
  | x :: t, k + 1, h, hl => by
    have h0 := h 0 (by omega)
    have h0 : x.1 = x.2 := by simpa using h0
    rw [List.drop_succ_cons, ← cmpL_skip k (fun i hi => by simpa using h (i + 1) (by omega)) (by simpa using hl)]
    show (if x.1 = x.2 then cmpL t else _) = _
    rw [if_pos h0]
def IsPrs (w : World) (v : Value) (l : List (Int × Int)) : Prop := IsRows w v l.length 2 (fun k j => .int .i64 (if j = 0 then (l.getD k (0, 0)).1 else (l.getD k (0, 0)).2))
theorem IsPrs.get {w : World} {a : Option Addr} {n cap : Nat} {l : List (Int × Int)} (h : IsPrs w (.slice a n cap) l) {k : Nat} (hk : k < l.length) :
    ∃ b off, a = some ⟨b, off, none⟩ ∧ w.cell? ⟨b, off + k * 2, none⟩ = some (.int .i64 l[k].1) ∧ w.cell? ⟨b, off + k * 2 + 1, none⟩ = some (.int .i64 l[k].2) := by
  obtain ⟨b, off, h1, h2⟩ := IsRows.get h hk
  exact ⟨b, off, h1, by simpa [hk] using h2 0 (by omega), by simpa [hk] using h2 1 (by omega)⟩
theorem compared_any (l : List (Int × Int)) (hl : l.length ≤ 100) (v : Value) (w : World) (h : IsPrs w v l) : Calls Try.prog 109 #[v] w fun e w' => e = .returned (.int .i64 (cmpL l)) ∧ Below w.heap.size w w' := by
  obtain ⟨a, cap, rfl, _⟩ := IsRows.slice h
  have H := Lib.hid h
  clear h
  go_enter Try.func109, Try.ntmps109
  go_wp2_with fail
  go_loopw [7] (fun i X => ∃ k : Nat, k ≤ l.length ∧ i = .int .i64 (k : Int) ∧ (∀ i, i < k → (l.getD i (0, 0)).1 = (l.getD i (0, 0)).2) ∧ Below w.heap.size w X) (fun i _ => l.length - (intOf i).toNat)
  case atStart => exact ⟨0, by omega, rfl, fun i hi => by omega, Below.refl _ _⟩
  case round =>
    obtain ⟨k, hk, rfl, heq, hb⟩ := hrel
    have Heq := Lib.hid heq
    have Hb := Lib.hid hb
    clear heq hb
    by_cases hlt : k < l.length
    · have hltI : (k : Int) < (l.length : Int) := by omega
      obtain ⟨b, off, rfl, c0, c1⟩ := IsPrs.get (IsRows.below H.out Hb.out) hlt
      obtain ⟨x, hx⟩ : ∃ x, l[k] = x := ⟨_, rfl⟩
      have Hx := Lib.hid hx
      rw [hx] at c0 c1
      clear hx
      by_cases he : x.1 = x.2
      · have He := Lib.hid he
        rw [he] at c0
        clear he
        go_wp2_with fail
        go_roundw
        case rel =>
          refine ⟨k + 1, by omega, by go_num, fun i hi => ?_, Hb.out.alloc Hb.out.size _⟩
          by_cases h9 : i < k
          · exact Heq.out i h9
          · have : i = k := by omega
            subst this
            simp [hlt, Hx.out, He.out]
        case measure => simp [intOf]; omega
      · have hne : (x.1 != x.2) = true := by simpa using he
        obtain ⟨c, hc⟩ : ∃ c : Int, (if x.1 < x.2 then -1 else 1) = c := ⟨_, rfl⟩
        have HC := Lib.hid (hc ▸ compare_any x.1 x.2 he)
        have Hc := Lib.hid hc
        clear hc
        have He := Lib.hid he
        clear he
        go_wp2_with (go_at_call 113; with_reducible refine (HC.out _).mono ?_; rintro e w' ⟨rfl, rfl⟩)
        go_ret
        refine ⟨?_, Hb.out.alloc Hb.out.size _⟩
        rw [cmpL_skip k Heq.out hk, List.drop_eq_getElem_cons hlt, Hx.out]
        show _ = Ending.returned (.int .i64 (if x.1 = x.2 then _ else _))
        rw [if_neg He.out, Hc.out]
        rfl
    · have hke : l.length = k := by omega
      go_wp2_with fail
      go_ret
      refine ⟨?_, Hb.out⟩
      rw [cmpL_skip k Heq.out hk, ← hke, List.drop_length]
      rfl
/-- The pairs by which two reports are compared. -/
def prs (a b : Rep) : List (Int × Int) := [(a.version, b.version), (a.kind, b.kind), (a.alo, b.alo), (a.ahi, b.ahi), (a.llo, b.llo), (a.lhi, b.lhi), (a.pair, b.pair)]
theorem cmpL_less : ∀ {l m : List Int}, l.length = m.length → decide (cmpL (l.zip m) < 0) = lessL l m
  | [], [], _ => rfl
  | a :: l, b :: m, h => by
    rw [List.zip_cons_cons]
    unfold cmpL lessL
    dsimp only
    by_cases e : a = b
    · rw [if_pos e, if_pos e]; exact cmpL_less (by simpa using h)
    · rw [if_neg e, if_neg e]
      by_cases g : a < b
      · rw [if_pos g]; simp [g]
      · rw [if_neg g]; simp [g]
  | [], _ :: _, h => by simp at h
  | _ :: _, [], h => by simp at h
theorem prs_less (a b : Rep) : decide (cmpL (prs a b) < 0) = lessR a b := cmpL_less (l := keyR a) (m := keyR b) rfl
set_option maxRecDepth 4000 in
theorem less_any (a b : Rep) (w : World) : Calls Try.prog 88 #[repV a, repV b] w fun e w' => e = .returned (.int .i64 (cmpL (prs a b))) ∧ Below w.heap.size w w' := by
  obtain ⟨W, hW⟩ : ∃ W, ((w.alloc (.cells (repC a) 44)).alloc (.cells (repC b) 44)).alloc (.cells #[.int .i64 a.version, .int .i64 b.version, .int .i64 a.kind, .int .i64 b.kind, .int .i64 a.alo, .int .i64 b.alo, .int .i64 a.ahi, .int .i64 b.ahi, .int .i64 a.llo, .int .i64 b.llo, .int .i64 a.lhi, .int .i64 b.lhi, .int .i64 a.pair, .int .i64 b.pair] 123) = W := ⟨_, rfl⟩
  have hb : Below w.heap.size w W := by rw [← hW]; exact (((Below.refl _ _).alloc (Nat.le_refl _) _).alloc (by simp) _).alloc (by simp; omega) _
  have hp : IsPrs W (.slice (some ⟨w.heap.size + 1 + 1, 0, none⟩) 7 7) (prs a b) := by
    rw [← hW]
    refine ⟨some ⟨w.heap.size + 1 + 1, 0, none⟩, 7, rfl, by simp [prs], by decide, fun _ => ⟨_, _, rfl, fun k j hk hj => ?_⟩⟩
    have hk : k < 7 := hk
    refine cellN (by simp) ?_
    obtain rfl | rfl : j = 0 ∨ j = 1 := by omega
    all_goals (obtain rfl | rfl | rfl | rfl | rfl | rfl | rfl : k = 0 ∨ k = 1 ∨ k = 2 ∨ k = 3 ∨ k = 4 ∨ k = 5 ∨ k = 6 := by omega) <;> rfl
  have HC := Lib.hid (compared_any (prs a b) (by simp [prs]) _ W hp)
  have Hb := Lib.hid hb
  obtain ⟨c, hc⟩ : ∃ c, cmpL (prs a b) = c := ⟨_, rfl⟩
  rw [hc] at HC
  rw [hc]
  clear hp hb hc
  go_enter Try.func88, Try.ntmps88
  go_wp2_with (go_at_call 109; with_reducible refine HC.out.mono ?_; rintro e w' ⟨rfl, hb2⟩)
  go_ret
  exact ⟨rfl, Hb.out.trans (hb2.mono Hb.out.size)⟩
end Go.Proofs.Ytdfaekanndpgfaa
