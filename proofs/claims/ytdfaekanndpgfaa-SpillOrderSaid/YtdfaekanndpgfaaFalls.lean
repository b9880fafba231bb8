import Derived.Test.YtdfaekanndpgfaaRowJ
/- falls, isFew. -/
set_option linter.unusedSimpArgs false
set_option linter.unusedVariables false
namespace Go.Proofs.Ytdfaekanndpgfaa
open Go.RowKit Go.Shelf
/-- A row of the call's own that grows: the journal so far, in a world that is the old one below. -/
structure JnI (w : World) (j : List Rep) (v : Value) (X : World) : Prop where
  b : Below w.heap.size w X
  o : OwnJ X w.heap.size v j
theorem JnI.start (w : World) : JnI w [] (.slice none 0 0) w := ⟨Below.refl _ _, OwnJ.nil _ _⟩
theorem JnI.below {w X Y : World} {j : List Rep} {v : Value} (h : JnI w j v X) (hb : Below X.heap.size X Y) : JnI w j v Y := ⟨h.b.trans (hb.mono h.b.size), h.o.below hb⟩
theorem JnI.rebase {w w1 X : World} {j : List Rep} {v : Value} (h : JnI w1 j v X) (hb : Below w.heap.size w w1) : JnI w j v X := ⟨hb.trans (h.b.mono hb.size), h.o.base hb.size⟩
theorem own_lo {w : World} {base e sz n : Nat} {v : Value} {xs : List Value} (h : w.ownsRow base e sz v n xs) : ∀ k, v.ownBlock = some k → base ≤ k := fun k hk => (h.lt k hk).1
theorem JnI.grown {w X Z : World} {j j' : List Rep} {v v' : Value} (h : JnI w j v X) {Y : World} (hY : Below X.heap.size X Y) (hg : Y.grownBy Z v.ownBlock) (ho : OwnJ Z w.heap.size v' j') : JnI w j' v' Z :=
  ⟨Below.grown (h.below hY).b hg (h.below hY).b.size (own_lo h.o), ho⟩
theorem falls_any (j : List Rep) (hl : j.length ≤ 100) (v : Value) (w : World) (h : IsReps w v j) : Calls Try.prog 93 #[v] w fun e w' => ∃ u, e = .returned u ∧ JnI w (fallsR j) u w' := by
  obtain ⟨a, cap, rfl, _⟩ := IsRows.slice h
  have H := Lib.hid h
  clear h
  go_enter Try.func93, Try.ntmps93
  go_wp2_with fail
  go_loopw [2, 7] (fun u i X => ∃ k : Nat, k ≤ j.length ∧ i = .int .i64 (k : Int) ∧ JnI w (fallsR (j.take k)) u X) (fun _ i _ => j.length - (intOf i).toNat)
  case atStart => exact ⟨0, by omega, rfl, JnI.start w⟩
  case round =>
    obtain ⟨k, hk, rfl, hI⟩ := hrel
    obtain ⟨ua, uc, rfl⟩ := hI.o.slice
    have HI := Lib.hid hI
    clear hI
    by_cases hlt : k < j.length
    · have hltI : (k : Int) < (j.length : Int) := by omega
      obtain ⟨b, off, rfl, c0, c1, c2, c3, c4, c5, c6, c7⟩ := IsReps.get (IsReps.below H.out HI.out.b) hlt
      obtain ⟨r, hr⟩ : ∃ r, j[k] = r := ⟨_, rfl⟩
      have Hr := Lib.hid hr
      rw [hr] at c0 c1 c2 c3 c4 c5 c6 c7
      clear hr
      by_cases he : r.kind = 0
      · have He := Lib.hid he
        have hq : (r.kind == 0) = true := by simpa using he
        clear he
        obtain ⟨v', Z, hap, ho, hg, _⟩ := append_one 22 und22 (HI.out.below ((Below.refl _ wr).alloc (Nat.le_refl _) (.cells (repC r) 44))).o (by have := List.length_filter_le (fun r : Rep => decide (r.kind = 0)) (j.take k); unfold fallsR; rw [List.length_take] at this; omega) (HI.out.below ((Below.refl _ wr).alloc (Nat.le_refl _) (.cells (repC r) 44))).b.size r (wr.heap.size + 1) (by simp)
        have Hap := Lib.hid hap
        have HJ := Lib.hid (HI.out.grown (((Below.refl _ wr).alloc (Nat.le_refl _) (.cells (repC r) 44)).alloc (by simp) (.cells (repC r) 44)) hg ho)
        clear hap ho hg
        go_wp2_with (at_builtin; refine wpList_append_run rfl (.tmp 14) (.tmp 16) 22 rfl _ _ rfl rfl Hap.out ?_)
        go_roundw
        case rel =>
          refine ⟨k + 1, by omega, by go_num, ?_⟩
          have e : fallsR (j.take (k + 1)) = fallsR (j.take k) ++ [r] := by
            rw [List.take_succ_eq_append_getElem hlt, Hr.out]
            unfold fallsR
            rw [List.filter_append]
            simp [He.out]
          rw [e]
          exact HJ.out
        case measure => simp [intOf]; omega
      · have He := Lib.hid he
        have hq : (r.kind == 0) = false := by simpa using he
        clear he
        go_wp2_with fail
        go_roundw
        case rel =>
          refine ⟨k + 1, by omega, by go_num, ?_⟩
          have e : fallsR (j.take (k + 1)) = fallsR (j.take k) := by
            rw [List.take_succ_eq_append_getElem hlt, Hr.out]
            unfold fallsR
            rw [List.filter_append]
            simp [He.out]
          rw [e]
          exact HI.out.below ((Below.refl _ wr).alloc (Nat.le_refl _) (.cells (repC r) 44))
        case measure => simp [intOf]; omega
    · have hke : k = j.length := by omega
      subst hke
      go_wp2_with fail
      go_ret
      refine ⟨_, rfl, ?_⟩
      have h := HI.out
      show JnI w (fallsR j) (.slice ua (fallsR (j.take j.length)).length uc) wr
      rw [List.take_length] at h ⊢
      exact h
theorem few_any (j : List Rep) (hl : j.length ≤ 100) (v : Value) (w : World) (h : IsReps w v j) : Calls Try.prog 54 #[v] w fun e w' => e = .returned (.bool (fewR j)) ∧ Below w.heap.size w w' := by
  obtain ⟨a, cap, rfl, _⟩ := IsRows.slice h
  have HF := Lib.hid (falls_any j hl _ w h)
  unfold fewR
  by_cases h1 : j.length ≤ 12
  · have h2 : decide ((j.length : Int) ≤ 12) = true := decide_eq_true (by omega)
    go_enter Try.func54, Try.ntmps54
    go_wp2_with (go_at_call 93; with_reducible refine HF.out.mono ?_; rintro e w' ⟨u, rfl, hJ⟩; obtain ⟨ua, uc, rfl⟩ := hJ.o.slice; have HJ := Lib.hid hJ; clear hJ)
    go_ret
    refine ⟨?_, HJ.out.b⟩
    have e1 : decide (((fallsR j).length : Int) ≤ 3) = decide ((fallsR j).length ≤ 3) := decide_eq_decide.2 (by omega)
    simp [h1, e1]
  · have h2 : decide ((j.length : Int) ≤ 12) = false := decide_eq_false (by omega)
    go_enter Try.func54, Try.ntmps54
    go_wp2_with fail
    go_ret
    exact ⟨by simp [h1], Below.refl _ _⟩
end Go.Proofs.Ytdfaekanndpgfaa
