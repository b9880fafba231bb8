import Derived.Test.YtjmobepipfbbnaaMoLawB
import Derived.Test.YtjmobepipfbbnaaAlive
/- FineMore: the fines that are known better; its closure. -/
set_option linter.unusedSimpArgs false
set_option linter.unusedVariables false
namespace Go.Proofs.Ytjmobepipfbbnaa
open Go.RowKit Go.Shelf
/-- One offence, known better. -/
def moreO (o : Off) (own : Nat) (d : Int) : Off := ⟨o.kind, if own = 0 then o.riders else (own : Int), min o.hi (o.lo + d), o.hi⟩
def moreF (f : Fns) (n own : Nat) (d : Int) : Fns := { f with list := f.list.set n (moreO (f.list.getD n ⟨0, 0, 0, 0⟩) own d) }
theorem more_get (f : Fns) (n own : Nat) (d : Int) (hn : n < f.list.length) (k : Nat) (hk : k < f.list.length) : (moreF f n own d).list.getD k ⟨0, 0, 0, 0⟩ = if k = n then moreO (f.list.getD n ⟨0, 0, 0, 0⟩) own d else f.list.getD k ⟨0, 0, 0, 0⟩ := by
  unfold moreF
  dsimp only
  by_cases h : k = n
  · subst h; rw [if_pos rfl]; simp [List.getD, hk]
  · rw [if_neg h]; simp [List.getD, List.getElem?_set_ne (Ne.symm h)]
theorem narrow_more {f : Fns} {n own : Nat} {d : Int} (hn : n < f.list.length) (hd : 0 ≤ d) (hlh : (f.list.getD n ⟨0, 0, 0, 0⟩).lo ≤ (f.list.getD n ⟨0, 0, 0, 0⟩).hi) (hown : ∀ b, own.testBit b = true → (f.list.getD n ⟨0, 0, 0, 0⟩).riders.toNat.testBit b = true) : Narrow (moreF f n own d) f := by
  refine ⟨rfl, rfl, by unfold moreF; simp, fun k hk => ?_⟩
  rw [more_get f n own d hn k hk]
  by_cases h : k = n
  · subst h
    rw [if_pos rfl]
    refine ⟨rfl, fun b hb => ?_, ?_, Int.le_refl _⟩
    · unfold moreO at hb
      dsimp only at hb
      by_cases h0 : own = 0
      · rw [if_pos h0] at hb; exact hb
      · rw [if_neg h0] at hb; exact hown b (by simpa using hb)
    · unfold moreO
      dsimp only
      omega
  · rw [if_neg h]
    exact ⟨rfl, fun _ h => h, Int.le_refl _, Int.le_refl _⟩
theorem good_more {f : Fns} (hg : goodFns f = true) {n own : Nat} {d : Int} (hn : n < f.list.length) (hd : 0 ≤ d) (hown : ∀ b, own.testBit b = true → (f.list.getD n ⟨0, 0, 0, 0⟩).riders.toNat.testBit b = true) : goodFns (moreF f n own d) = true := by
  have hgo := good_off hg hn
  have hofs := off_set hg hn
  have hgd : f.list.getD n ⟨0, 0, 0, 0⟩ = f.list[n] := by simp [List.getD, hn]
  unfold goodFns at hg ⊢
  simp only [Bool.and_eq_true, List.all_eq_true] at hg ⊢
  obtain ⟨⟨⟨⟨⟨g1, g2⟩, g3⟩, g4⟩, g5⟩, g6⟩ := hg
  refine ⟨⟨⟨⟨⟨g1, by unfold moreF; simpa using g2⟩, g3⟩, g4⟩, g5⟩, fun o ho => ?_⟩
  unfold moreF at ho
  dsimp only at ho
  rcases List.mem_or_eq_of_mem_set ho with h | h
  · have := g6 o h
    exact this
  · subst h
    rw [hgd] at hown ⊢
    obtain ⟨rd, hrd, h0, h64⟩ := hofs
    unfold goodOff inB at hgo ⊢
    simp only [Bool.and_eq_true, decide_eq_true_eq] at hgo ⊢
    obtain ⟨⟨q1, q2⟩, q3⟩ := hgo
    have hle : own ≤ rd := by
      have e : rd &&& own = own := by
        refine Nat.eq_of_testBit_eq fun b => ?_
        rw [Nat.testBit_and]
        cases hb : own.testBit b
        · simp
        · have := hown b hb
          rw [hrd] at this
          simpa using this
      have := Nat.and_le_left (n := rd) (m := own)
      omega
    unfold moreO
    dsimp only
    refine ⟨⟨q1, ?_⟩, ?_⟩
    · have e : (moreF f n own d).riders = f.riders := rfl
      rw [e]
      split <;> omega
    · omega
theorem in38_any (a b c d : Int) (w : World) : Calls Try.prog 38 #[.agg #[.int .i64 a, .int .i64 b], .agg #[.int .i64 c, .int .i64 d]] w fun e w' => e = .returned (.bool (decide (c ≤ a) && decide (b ≤ d))) ∧ Below w.heap.size w w' := by
  go_enter Try.func38, Try.ntmps38
  go_wp2
  all_goals (go_ret; exact ⟨by simp [*]; try omega, ((Below.refl _ _).alloc (Nat.le_refl _) _).alloc (by simp) _⟩)
end Go.Proofs.Ytjmobepipfbbnaa
