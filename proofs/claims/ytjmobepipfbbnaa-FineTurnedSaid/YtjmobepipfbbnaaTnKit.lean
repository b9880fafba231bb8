import Derived.Test.YtjmobepipfbbnaaTru
import Derived.Test.YtjmobepipfbbnaaFines
import Derived.Test.YtjmobepipfbbnaaHeavy
import Derived.BigQuiet
import Derived.Test.YtjmobepipfbbnaaRefB
import Derived.Test.YtjmobepipfbbnaaRWithout
import Derived.Test.YtjmobepipfbbnaaAlive
import Derived.Test.YtjmobepipfbbnaaExLaw
/- A region that draws its order: known values, but for some operations whose value depends on the order (where something is laid). FineTurned, plainly: riders numbered otherwise, partners with partners, and rules that nothing is of. FineTurned: the fines with riders numbered otherwise, and with a rule more, are valid; the number that the law gives. FineTurned: what is told of the turned fines is what is told of the fines. FineTurned: the set of riders turned, bit by bit, as the program does it. FineTurned: the state of the region that keeps copies of the offences and of the rules. FineTurned: the state of the region that lays the rules and one rule more. A drawn region that lays a span in a new cell, somewhere among its other operations. FineTurned: offences and rules compared; the loop that overwrites a row. -/
set_option linter.unusedSimpArgs false
set_option linter.unusedVariables false
namespace Go.Proofs.Ytjmobepipfbbnaa
section
variable {F : Fence} {n : Nat} {P : Program} {ops : Array Oper} {Q : Exit → Act → World → Prop} {md : Region.Mode}
theorem regionValsD {id : Nat} {a : Act} {w : World} (sl : List (Option Nat)) (vs : List Value) (dyn : List Nat) (ks : List Nat) (R : (Nat → Bool) → (Nat → Value) → World → Prop) (hm : P.follows .mixedOrders = true) (hb : backB .any ops = true) (hn : pairB sl = true) (hl : sl.length = ops.size)
    (hkl : ks = sl.filterMap fun x => x) (hsz : ∀ k, k ∈ ks → k < a.tmps.size) (h0 : R (fun _ => false) (fun k => a.tmps.getD k undef) w.drew)
    (hstep : ∀ (L : Nat → Bool) (u : Nat → Value) w i (A : Act), i < ops.size → R L u w → L i = false → (∀ m, predOp .any ops i m = true → L m = true) → (∀ k m, L k = true → predOp .any ops k m = true → L m = true) →
      (∀ m k, m ∉ dyn → sl.getD m none = some k → L m = true → A.eval (.tmp k) = vs.getD m undef) → (∀ k, k ∈ ks → A.eval (.tmp k) = u k) → (∀ k, k ∉ ks → A.eval (.tmp k) = a.eval (.tmp k)) → (∀ k, k ∈ ks → (∀ m, sl.getD m none = some k → L m = false) → A.eval (.tmp k) = a.eval (.tmp k)) →
      ∀ K : Act → World → Prop, (∀ k v w', sl.getD i none = some k → (i ∈ dyn ∨ v = vs.getD i undef) → R (updL L i) (putU u k v) w' → K (A.put (some k) v) w') → (∀ w', sl.getD i none = none → R (updL L i) u w' → K A w') → wpOpIn F n P ops Q i K A w)
    (hend : ∀ (L : Nat → Bool) u w, R L u w → (∀ i, i < ops.size → L i = true) → (∀ m k, m ∉ dyn → sl.getD m none = some k → u k = vs.getD m undef) → Q .normal (setU ks a u) w) : (Code.region id ops true).wpIn F n P Q a w := by
  have hget : ∀ i k, sl.getD i none = some k → i < sl.length ∧ k ∈ ks := fun i k h => by
    have hi : i < sl.length := by
      rcases Nat.lt_or_ge i sl.length with h' | h'
      · exact h'
      · simp [List.getD, List.getElem?_eq_none h'] at h
    refine ⟨hi, ?_⟩
    rw [hkl, List.mem_filterMap]
    refine ⟨sl[i], List.getElem_mem hi, ?_⟩
    simpa [List.getD, hi] using h
  refine regionInv (fun L a' w' => ∃ u, a' = setU ks a u ∧ R L u w' ∧ (∀ k, k ∈ ks → (∀ m, sl.getD m none = some k → L m = false) → u k = a.tmps.getD k undef) ∧ ∀ i k, i ∉ dyn → sl.getD i none = some k → L i = true → u k = vs.getD i undef) hm hb ⟨_, (setU_self ks a).symm, h0, fun k _ _ => rfl, fun i k _ _ h => by cases h⟩ ?_ ?_
  · rintro L _ w i hi ⟨u, rfl, hR, hu0, hu⟩ hLi hpr hcl
    refine hstep L u w i _ hi hR hLi hpr hcl (fun m k hd hm hL => ?_) (fun k hk => setU_eval hk (hsz k hk)) (fun k hk => setU_evalN hk) (fun k hk hno => by rw [setU_eval hk (hsz k hk)]; exact hu0 k hk hno) _ (fun k v w' hk hv hR' => ?_) (fun w' hk hR' => ?_)
    · have hmem := (hget m k hm).2
      rw [setU_eval hmem (hsz k hmem)]; exact hu m k hd hm hL
    · obtain ⟨hil, hmem⟩ := hget i k hk
      refine ⟨_, put_setU hmem, hR', fun k' hk' hno => ?_, fun m k' hd hm hL => ?_⟩
      · unfold putU
        have hne : ¬ k' = k := fun h => by
          subst h
          have := hno i hk
          simp [updL] at this
        rw [if_neg hne]
        refine hu0 k' hk' fun m hm => ?_
        have h9 := hno m hm
        unfold updL at h9
        simp only [Bool.or_eq_false_iff] at h9
        exact h9.2
      · unfold putU
        by_cases e : m = i
        · subst e
          rw [hk] at hm
          cases hm
          rw [if_pos rfl]
          rcases hv with h | h
          · exact absurd h hd
          · exact h
        · have hne : ¬ k' = k := fun h => by
            subst h
            exact pairB_spec hn hil (hget m k' hm).1 (Ne.symm e) hk hm
          rw [if_neg hne]
          refine hu m k' hd hm ?_
          unfold updL at hL
          have : (m == i) = false := by simp [e]
          rw [this, Bool.false_or] at hL
          exact hL
    · refine ⟨u, rfl, hR', fun k' hk' hno => hu0 k' hk' fun m hm => ?_, fun m k' hd hm hL => ?_⟩
      · have h9 := hno m hm
        unfold updL at h9
        simp only [Bool.or_eq_false_iff] at h9
        exact h9.2
      · by_cases e : m = i
        · subst e
          rw [hk] at hm; cases hm
        · refine hu m k' hd hm ?_
          unfold updL at hL
          have : (m == i) = false := by simp [e]
          rw [this, Bool.false_or] at hL
          exact hL
  · rintro L _ w ⟨u, rfl, hR, _, hu⟩ hall
    exact hend L u w hR hall fun m k hd hm => hu m k hd hm (hall m (by have := (hget m k hm).1; omega))
end
end Go.Proofs.Ytjmobepipfbbnaa

set_option linter.unusedSimpArgs false
set_option linter.unusedVariables false
namespace Go.Proofs.Ytjmobepipfbbnaa
/-- Riders numbered otherwise. -/
structure Turn (nr : Nat) (σ : Nat → Nat) : Prop where
  lt : ∀ r, r < nr → σ r < nr
  inj : ∀ a b, a < nr → b < nr → σ a = σ b → a = b
  par : ∀ r, r < nr → (partner (σ r : Int)) = ((σ (partner (r : Int)).toNat : Nat) : Int)
/-- The number that FineTurned gives. -/
def numT (nr turn r : Nat) : Nat := (r / 2 + turn) * 2 % nr + (r + turn / 16) % 2
theorem turn_num {nr turn : Nat} (h : nr = 2 ∨ nr = 4 ∨ nr = 6) : Turn nr (numT nr turn) := by
  refine ⟨fun r hr => ?_, fun a b ha hb he => ?_, fun r hr => ?_⟩
  · unfold numT; rcases h with rfl | rfl | rfl <;> omega
  · unfold numT at he; rcases h with rfl | rfl | rfl <;> omega
  · have hp : (partner (r : Int)).toNat = if r % 2 = 0 then r + 1 else r - 1 := by
      unfold partner; split <;> split <;> omega
    rw [hp]
    unfold partner numT
    rcases h with rfl | rfl | rfl <;> split <;> split <;> omega
def setTo (σ : Nat → Nat) (S : Nat) (q : Nat) : Nat := (List.range q).foldl (fun acc r => acc ||| (if S.testBit r then 2 ^ σ r else 0)) 0
theorem setTo_step (σ : Nat → Nat) (S q : Nat) : setTo σ S (q + 1) = setTo σ S q ||| (if S.testBit q then 2 ^ σ q else 0) := by unfold setTo; rw [List.range_succ, List.foldl_append]; rfl
theorem setTo_bit (σ : Nat → Nat) (S b : Nat) : ∀ q, (setTo σ S q).testBit b = true ↔ ∃ r, r < q ∧ S.testBit r = true ∧ σ r = b
  | 0 => by simp [setTo]
  | q + 1 => by
    rw [setTo_step, Nat.testBit_or, Bool.or_eq_true, setTo_bit σ S b q]
    constructor
    · rintro (⟨r, h1, h2, h3⟩ | h)
      · exact ⟨r, by omega, h2, h3⟩
      · by_cases hS : S.testBit q = true
        · rw [if_pos hS, Nat.testBit_two_pow] at h
          exact ⟨q, by omega, hS, by simpa using h⟩
        · rw [if_neg hS] at h; simp at h
    · rintro ⟨r, h1, h2, h3⟩
      by_cases e : r = q
      · subst e
        rw [if_pos h2, Nat.testBit_two_pow]
        exact .inr (by simp [h3])
      · exact .inl ⟨r, by omega, h2, h3⟩
theorem setTo_lt {σ : Nat → Nat} {nr : Nat} (h : ∀ r, r < nr → σ r < nr) (S : Nat) : ∀ q, q ≤ nr → setTo σ S q < 2 ^ nr
  | 0, _ => by simp [setTo]; exact Nat.two_pow_pos nr
  | q + 1, hq => by
    rw [setTo_step]
    refine Nat.or_lt_two_pow (setTo_lt h S q (by omega)) ?_
    split
    · exact Nat.pow_lt_pow_right (by omega) (h q (by omega))
    · exact Nat.two_pow_pos nr
def turnO (nr : Nat) (σ : Nat → Nat) (o : Off) : Off := { o with riders := ((setTo σ o.riders.toNat nr : Nat) : Int) }
def turnF (σ : Nat → Nat) (f : Fns) : Fns := { f with list := f.list.map (turnO f.riders.toNat σ) }
def turnK (σ : Nat → Nat) (k : Kn) : Kn := { k with rider := ((σ k.rider.toNat : Nat) : Int) }
section
variable {nr : Nat} {σ : Nat → Nat} (hσ : Turn nr σ)
include hσ
theorem truth_turn : ∀ (offs : List Off) (i : Int) (t : List Kn), IsTruth nr i offs t → IsTruth nr i (offs.map (turnO nr σ)) (t.map (turnK σ))
  | [], i, [], _ => trivial
  | [], i, _ :: _, h => h.elim
  | _ :: _, i, [], h => h.elim
  | o :: t, i, k :: l, h => by
    obtain ⟨⟨h1, h2, ⟨who, h3, h4, h5⟩, h6, h7⟩, h8⟩ := h
    refine ⟨⟨h1, h2, ⟨σ who, ?_, hσ.lt who h4, ?_⟩, h6, h7⟩, truth_turn t (i + 1) l h8⟩
    · show ((σ k.rider.toNat : Nat) : Int) = _
      rw [h3]; simp
    · show ((setTo σ o.riders.toNat nr : Nat) : Int).toNat.testBit (σ who) = true
      rw [Int.toNat_natCast]
      exact (setTo_bit σ _ _ nr).2 ⟨who, h4, h5, rfl⟩
omit hσ in
theorem truth_back : ∀ (offs : List Off) (i : Int) (t : List Kn), IsTruth nr i (offs.map (turnO nr σ)) t → ∃ t0, IsTruth nr i offs t0 ∧ t = t0.map (turnK σ)
  | [], i, [], _ => ⟨[], trivial, rfl⟩
  | [], i, _ :: _, h => h.elim
  | _ :: _, i, [], h => h.elim
  | o :: t, i, k :: l, h => by
    obtain ⟨⟨h1, h2, ⟨who, h3, h4, h5⟩, h6, h7⟩, h8⟩ := h
    obtain ⟨l0, g1, g2⟩ := truth_back t (i + 1) l h8
    have h5 : ((setTo σ o.riders.toNat nr : Nat) : Int).toNat.testBit who = true := h5
    rw [Int.toNat_natCast] at h5
    obtain ⟨r, r1, r2, r3⟩ := (setTo_bit σ _ _ nr).1 h5
    refine ⟨{ k with rider := (r : Int) } :: l0, ⟨⟨h1, h2, ⟨r, rfl, r1, r2⟩, h6, h7⟩, g1⟩, ?_⟩
    rw [List.map_cons, ← g2]
    congr 1
    cases k
    simp only [turnK] at h3 ⊢
    simp only [Kn.mk.injEq, true_and, and_true]
    simp [r3]; exact h3
theorem counts_turn (ru : Rul) {a b : Kn} (ha : ∃ who : Nat, a.rider = (who : Int) ∧ who < nr) (hb : ∃ who : Nat, b.rider = (who : Int) ∧ who < nr) : counts ru (turnK σ a) (turnK σ b) = counts ru a b := by
  obtain ⟨p, hp, hp2⟩ := ha
  obtain ⟨q, hq, hq2⟩ := hb
  have e : decide ((turnK σ b).rider = (turnK σ a).rider) = decide (b.rider = a.rider) := by
    have h1 : (turnK σ b).rider = ((σ q : Nat) : Int) := by show ((σ b.rider.toNat : Nat) : Int) = _; rw [hq]; simp
    have h2 : (turnK σ a).rider = ((σ p : Nat) : Int) := by show ((σ a.rider.toNat : Nat) : Int) = _; rw [hp]; simp
    rw [h1, h2, hp, hq, Bool.eq_iff_iff, decide_eq_true_eq, decide_eq_true_eq]
    constructor
    · intro h; have := hσ.inj q p hq2 hp2 (by omega); omega
    · intro h; have : q = p := by omega
      rw [this]
  unfold counts
  rw [e]
  rfl
theorem cost_turn (ru : Rul) {t : List Kn} (ht : Riders nr t) {k : Kn} (hk : k ∈ t) : costK ru (t.map (turnK σ)) (turnK σ k) = costK ru t k := by
  have h : ∀ l : List Kn, (∀ x, x ∈ l → x ∈ t) → ((l.map (turnK σ)).filter (counts ru (turnK σ k))).length = (l.filter (counts ru k)).length := by
    intro l
    induction l with
    | nil => intro _; rfl
    | cons x l ih =>
      intro hl
      rw [List.map_cons, List.filter_cons, List.filter_cons, counts_turn hσ ru (ht k hk) (ht x (hl x (by simp)))]
      have h2 := ih fun y hy => hl y (by simp [hy])
      split
      · rw [List.length_cons, List.length_cons, h2]
      · exact h2
  unfold costK
  rw [h t fun x hx => hx]
theorem tot_turn {f : Fns} (hnr : f.riders.toNat = nr) {t : List Kn} (ht : Riders nr t) {cnt cnt' : Kn → Int → Int} (hc : ∀ k c, k ∈ t → cnt' (turnK σ k) c = cnt k c) : totT (turnF σ f) cnt' (t.map (turnK σ)) = totT f cnt t := by
  unfold totT
  rw [List.map_map]
  congr 1
  refine List.map_congr_left fun k hk => ?_
  show cnt' (turnK σ k) (costK (rulOf (turnF σ f) (turnK σ k)) (t.map (turnK σ)) (turnK σ k)) = _
  have e : rulOf (turnF σ f) (turnK σ k) = rulOf f k := rfl
  rw [e, cost_turn hσ _ ht hk, hc k _ hk]
omit hσ in
theorem truth_riders {f : Fns} (hnr : f.riders.toNat = nr) : ∀ (offs : List Off) (i : Int) (t : List Kn), IsTruth nr i offs t → Riders nr t
  | [], i, [], _ => fun k hk => by cases hk
  | [], i, _ :: _, h => h.elim
  | _ :: _, i, [], h => h.elim
  | o :: offs, i, k :: l, h => by
    obtain ⟨⟨h1, h2, ⟨who, h3, h4, h5⟩, h6, h7⟩, h8⟩ := h
    intro x hx
    rcases List.mem_cons.1 hx with rfl | hx
    · exact ⟨who, h3, h4⟩
    · exact truth_riders hnr offs (i + 1) l h8 x hx
/-- A sum over all truths is the same. -/
theorem sum_turn {f : Fns} (hf : Sound f) (hx : Sound (turnF σ f)) (hnr : f.riders.toNat = nr) {R R' : Nat} (hR : R < 64) (hR' : R' < 64) {cnt cnt' : Kn → Int → Int} (hl : Loc nr R cnt) (hl' : Loc nr R' cnt')
    (hc : ∀ k c, (∃ who : Nat, k.rider = (who : Int) ∧ who < nr) → cnt' (turnK σ k) c = cnt k c) : sumR (turnF σ f) R' cnt' = sumR f R cnt := by
  subst hnr
  obtain ⟨⟨a1, p1, p2⟩, ⟨a2, p3, p4⟩, p5⟩ := sum_ends hf hR hl
  obtain ⟨⟨b1, q1, q2⟩, ⟨b2, q3, q4⟩, q5⟩ := sum_ends hx hR' hl'
  have fwd : ∀ t, Truth f t → Truth (turnF σ f) (t.map (turnK σ)) ∧ totT (turnF σ f) cnt' (t.map (turnK σ)) = totT f cnt t := fun t ht => by
    have hr := truth_riders rfl f.list 0 t ht
    exact ⟨truth_turn hσ f.list 0 t ht, tot_turn hσ rfl hr fun k c hk => hc k c (hr k hk)⟩
  have bwd : ∀ t, Truth (turnF σ f) t → ∃ t0, Truth f t0 ∧ totT (turnF σ f) cnt' t = totT f cnt t0 := fun t ht => by
    obtain ⟨t0, h1, rfl⟩ := truth_back f.list 0 t ht
    exact ⟨t0, h1, (fwd t0 h1).2⟩
  obtain ⟨c1, r1, r2⟩ := bwd b1 q1
  obtain ⟨c2, r3, r4⟩ := bwd b2 q3
  have u1 := p5 c1 r1
  have u2 := p5 c2 r3
  obtain ⟨v1, v2⟩ := fwd a1 p1
  obtain ⟨v3, v4⟩ := fwd a2 p3
  have w1 := q5 _ v1
  have w2 := q5 _ v3
  exact Prod.ext (by omega) (by omega)
/-- So is the span of a cost. -/
theorem costS_turn {f : Fns} (hf : Sound f) (hx : Sound (turnF σ f)) (hnr : f.riders.toNat = nr) (h6 : nr ≤ 6) {n : Nat} (hn : n < f.list.length) : costS (turnF σ f) n = costS f n := by
  subst hnr
  have hn' : n < (turnF σ f).list.length := by simpa [turnF] using hn
  obtain ⟨⟨a1, p1, p2⟩, ⟨a2, p3, p4⟩, p5⟩ := cost_ends hf h6 hn
  obtain ⟨⟨b1, q1, q2⟩, ⟨b2, q3, q4⟩, q5⟩ := cost_ends hx h6 hn'
  have len : ∀ (offs : List Off) (i : Int) (t : List Kn), IsTruth f.riders.toNat i offs t → t.length = offs.length := by
    intro offs
    induction offs with
    | nil => intro i t h; cases t with
      | nil => rfl
      | cons _ _ => exact h.elim
    | cons o l ih => intro i t h; cases t with
      | nil => exact h.elim
      | cons k t => rw [List.length_cons, List.length_cons, ih (i + 1) t h.2]
  have fwd : ∀ t, Truth f t → Truth (turnF σ f) (t.map (turnK σ)) ∧ costT (turnF σ f) (t.map (turnK σ)) n = costT f t n := fun t ht => by
    have hr := truth_riders rfl f.list 0 t ht
    refine ⟨truth_turn hσ f.list 0 t ht, ?_⟩
    have hnt : n < t.length := by rw [len f.list 0 t ht]; exact hn
    unfold costT
    have e1 : (t.map (turnK σ)).getD n ⟨0, 0, 0, 0⟩ = turnK σ t[n] := by simp [List.getD, hnt]
    have e2 : t.getD n ⟨0, 0, 0, 0⟩ = t[n] := by simp [List.getD, hnt]
    rw [e1, e2]
    have e : rulOf (turnF σ f) (turnK σ t[n]) = rulOf f t[n] := rfl
    rw [e, cost_turn hσ _ hr (List.getElem_mem hnt)]
  have bwd : ∀ t, Truth (turnF σ f) t → ∃ t0, Truth f t0 ∧ costT (turnF σ f) t n = costT f t0 n := fun t ht => by
    obtain ⟨t0, h1, rfl⟩ := truth_back f.list 0 t ht
    exact ⟨t0, h1, (fwd t0 h1).2⟩
  obtain ⟨c1, r1, r2⟩ := bwd b1 q1
  obtain ⟨c2, r3, r4⟩ := bwd b2 q3
  have u1 := p5 c1 r1
  have u2 := p5 c2 r3
  obtain ⟨v1, v2⟩ := fwd a1 p1
  obtain ⟨v3, v4⟩ := fwd a2 p3
  have w1 := q5 _ v1
  have w2 := q5 _ v3
  unfold costS
  exact Prod.ext (by omega) (by omega)
end
end Go.Proofs.Ytjmobepipfbbnaa

set_option linter.unusedSimpArgs false
set_option linter.unusedVariables false
namespace Go.Proofs.Ytjmobepipfbbnaa
open Go.RowKit Go.Shelf
attribute [local go_sem] Oper.semAt_some
theorem some_bit {S : Nat} (h : 0 < S) : ∃ r, S.testBit r = true := by
  refine Classical.byContradiction fun hn => ?_
  have : S = 0 := Nat.eq_of_testBit_eq fun i => by
    rw [Nat.zero_testBit]
    cases hb : S.testBit i
    · rfl
    · exact absurd ⟨i, hb⟩ hn
  omega
theorem good_turn {f : Fns} (hg : goodFns f = true) {σ : Nat → Nat} (hσ : Turn f.riders.toNat σ) : goodFns (turnF σ f) = true := by
  have hoff := fun k (hk : k < f.list.length) => good_off hg hk
  have hset := fun k (hk : k < f.list.length) => off_set hg hk
  have hgr := good_riders hg
  unfold goodFns at hg ⊢
  simp only [Bool.and_eq_true, List.all_eq_true] at hg ⊢
  refine ⟨?_, fun o ho => ?_⟩
  · have e : (turnF σ f).list.length = f.list.length := by simp [turnF]
    rw [e]; exact hg.1
  · obtain ⟨o0, ho0, rfl⟩ := List.mem_map.1 ho
    obtain ⟨k, hk, rfl⟩ := List.mem_iff_getElem.1 ho0
    have h1 := hoff k hk
    obtain ⟨S, hS, hS0, hS64⟩ := hset k hk
    unfold goodOff at h1 ⊢
    simp only [Bool.and_eq_true] at h1 ⊢
    refine ⟨⟨h1.1.1, ?_⟩, h1.2⟩
    have hlt := setTo_lt hσ.lt f.list[k].riders.toNat f.riders.toNat (Nat.le_refl _)
    have hri := h1.1.2
    unfold inB at hri ⊢
    simp only [Bool.and_eq_true, decide_eq_true_eq] at hri ⊢
    have hSt : f.list[k].riders.toNat = S := by rw [hS]; simp
    rw [hSt] at hlt
    have hSl : S < 2 ^ f.riders.toNat := by
      have h2 := hri.2
      rw [hS] at h2
      have h3 : ((2 : Int) ^ f.riders.toNat) = ((2 ^ f.riders.toNat : Nat) : Int) := by push_cast; rfl
      rw [h3] at h2
      omega
    obtain ⟨r, hr⟩ := some_bit hS0
    have hrn : r < f.riders.toNat := by
      rcases Nat.lt_or_ge r f.riders.toNat with h | h
      · exact h
      · have := Nat.testBit_lt_two_pow (Nat.lt_of_lt_of_le hSl (Nat.pow_le_pow_right (show 0 < 2 by omega) h))
        rw [this] at hr; cases hr
    have hpos : 0 < setTo σ S f.riders.toNat := by
      have hb := (setTo_bit σ S (σ r) f.riders.toNat).2 ⟨r, hrn, hr, rfl⟩
      rcases Nat.eq_zero_or_pos (setTo σ S f.riders.toNat) with h | h
      · rw [h, Nat.zero_testBit] at hb; cases hb
      · exact h
    show (1 : Int) ≤ ((setTo σ f.list[k].riders.toNat f.riders.toNat : Nat) : Int) ∧ ((setTo σ f.list[k].riders.toNat f.riders.toNat : Nat) : Int) ≤ 2 ^ f.riders.toNat - 1
    rw [hSt]
    have h3 : ((2 : Int) ^ f.riders.toNat) = ((2 ^ f.riders.toNat : Nat) : Int) := by push_cast; rfl
    rw [h3]
    omega
/-- A rule more. -/
def moreR (f : Fns) (r : Rul) : Fns := { f with rules := f.rules ++ [r] }
theorem good_moreR {f : Fns} (hg : goodFns f = true) {r : Rul} (hr : goodRul r = true) (hl : f.rules.length < 4) : goodFns (moreR f r) = true := by
  have hoff := fun k (hk : k < f.list.length) => good_off hg hk
  unfold goodFns at hg ⊢
  simp only [Bool.and_eq_true, List.all_eq_true, decide_eq_true_eq] at hg ⊢
  refine ⟨⟨?_, fun x hx => ?_⟩, fun o ho => ?_⟩
  · have := hg.1.1
    simp only [moreR, List.length_append, List.length_cons, List.length_nil]
    refine ⟨⟨⟨by omega, this.1.1.2⟩, this.1.2⟩, this.2⟩
  · rcases List.mem_append.1 hx with h | h
    · exact hg.1.2 x h
    · have : x = r := by simpa using h
      rw [this]; exact hr
  · obtain ⟨k, hk, rfl⟩ := List.mem_iff_getElem.1 ho
    have h1 := hoff k hk
    show goodOff (moreR f r) (f.list[k]'hk) = true
    unfold goodOff at h1 ⊢
    simp only [Bool.and_eq_true] at h1 ⊢
    refine ⟨⟨?_, h1.1.2⟩, h1.2⟩
    have h2 := h1.1.1
    unfold inB at h2 ⊢
    simp only [Bool.and_eq_true, decide_eq_true_eq] at h2 ⊢
    have e : (moreR f r).rules.length = f.rules.length + 1 := by simp [moreR]
    rw [e]
    exact ⟨h2.1, by have := h2.2; push_cast; omega⟩
theorem sum_moreR {f : Fns} (hg : goodFns f = true) {r : Rul} (hg2 : goodFns (moreR f r) = true) {R : Nat} (hR : R < 64) {cnt : Kn → Int → Int} (hl : Loc f.riders.toNat R cnt) : sumR (moreR f r) R cnt = sumR f R cnt := by
  have hf := (sound_of hg).1
  have hx := (sound_of hg2).1
  obtain ⟨⟨a1, p1, p2⟩, ⟨a2, p3, p4⟩, p5⟩ := sum_ends hf hR hl
  obtain ⟨⟨b1, q1, q2⟩, ⟨b2, q3, q4⟩, q5⟩ := sum_ends (f := moreR f r) hx hR hl
  have kinds : ∀ (offs : List Off) (i : Int) (t : List Kn), (∀ o, o ∈ offs → 0 ≤ o.kind ∧ o.kind < f.rules.length) → IsTruth f.riders.toNat i offs t → ∀ k, k ∈ t → 0 ≤ k.kind ∧ k.kind < f.rules.length := by
    intro offs
    induction offs with
    | nil => intro i t _ h; cases t with
      | nil => intro k hk; cases hk
      | cons _ _ => exact h.elim
    | cons o l ih => intro i t ho h; cases t with
      | nil => exact h.elim
      | cons x t =>
        intro k hk
        rcases List.mem_cons.1 hk with rfl | hk
        · rw [h.1.2.1]; exact ho o (by simp)
        · exact ih (i + 1) t (fun o' h' => ho o' (by simp [h'])) h.2 k hk
  have tot : ∀ t, Truth f t → totT (moreR f r) cnt t = totT f cnt t := fun t ht => by
    have hk := kinds f.list 0 t (fun o ho => by
      obtain ⟨k, hk, rfl⟩ := List.mem_iff_getElem.1 ho
      have h1 := good_off hg hk
      unfold goodOff at h1
      simp only [Bool.and_eq_true, inB, decide_eq_true_eq] at h1
      omega) ht
    unfold totT
    congr 1
    refine List.map_congr_left fun k hkm => ?_
    have e : rulOf (moreR f r) k = rulOf f k := by
      unfold rulOf moreR
      have := hk k hkm
      have h2 : k.kind.toNat < f.rules.length := by omega
      simp [List.getD, List.getElem?_append, h2]
    rw [e]
  have u1 := p5 b1 q1
  have u2 := p5 b2 q3
  have w1 := q5 a1 p1
  have w2 := q5 a2 p3
  rw [tot a1 p1] at w1
  rw [tot a2 p3] at w2
  rw [tot b1 q1] at q2
  rw [tot b2 q3] at q4
  exact Prod.ext (by omega) (by omega)
set_option maxRecDepth 100000 in
set_option maxHeartbeats 1000000 in
/-- The number. -/
theorem number_any (nr turn r : Nat) (hn : 2 ≤ nr ∧ nr ≤ 6) (ht : turn < 256) (hr : r < 6) (A B : Nat) (w : World) (hA : w.cell? ⟨A, 0, none⟩ = some (.int .u8 (turn : Int))) (hB : w.cell? ⟨B, 1, none⟩ = some (.int .i64 (nr : Int))) :
    Calls Try.prog 39 #[.int .i64 (r : Int), .pointer (some ⟨A, 0, none⟩), .pointer (some ⟨B, 0, none⟩)] w fun e w' => e = .returned (.int .i64 ((numT nr turn r : Nat) : Int)) ∧ Below w.heap.size w w' := by
  have e1 : (r : Int).tdiv 2 = ((r / 2 : Nat) : Int) := by rw [Int.tdiv_eq_ediv_of_nonneg (by omega)]; omega
  have e2 : (((r / 2 + turn) * 2 : Nat) : Int).tmod (nr : Int) = (((r / 2 + turn) * 2 % nr : Nat) : Int) := by rw [Int.tmod_eq_emod_of_nonneg (by omega)]; push_cast; rfl
  have e3 : (turn : Int).tdiv 16 = ((turn / 16 : Nat) : Int) := by rw [Int.tdiv_eq_ediv_of_nonneg (by omega)]; omega
  have e4 : ((r + turn / 16 : Nat) : Int).tmod 2 = (((r + turn / 16) % 2 : Nat) : Int) := by rw [Int.tmod_eq_emod_of_nonneg (by omega)]; omega
  have hnum : numT nr turn r = (r / 2 + turn) * 2 % nr + (r + turn / 16) % 2 := rfl
  obtain ⟨a, ha⟩ : ∃ x, r / 2 = x := ⟨_, rfl⟩
  obtain ⟨c, hc⟩ : ∃ x, turn / 16 = x := ⟨_, rfl⟩
  rw [ha] at e1 e2 hnum
  rw [hc] at e3 e4 hnum
  obtain ⟨m, hm⟩ : ∃ x, (a + turn) * 2 % nr = x := ⟨_, rfl⟩
  have hml : m < 6 := by rw [← hm]; have := Nat.mod_lt ((a + turn) * 2) (show 0 < nr by omega); omega
  obtain ⟨d, hd⟩ : ∃ x, (r + c) % 2 = x := ⟨_, rfl⟩
  have hdl : d < 2 := by omega
  rw [hm] at e2 hnum
  rw [hd] at e4 hnum
  rw [hnum]
  push_cast at e2 e4 ⊢
  have v1 : IntKind.i64.wrap (turn : Int) = (turn : Int) := IntWalk.i64_in _ (by omega)
  have v2 : IntKind.i64.wrap ((a : Int) + (turn : Int)) = (a : Int) + (turn : Int) := IntWalk.i64_in _ (by omega)
  have v3 : IntKind.i64.wrap (((a : Int) + (turn : Int)) * 2) = ((a : Int) + (turn : Int)) * 2 := IntWalk.i64_in _ (by omega)
  have v4 : IntKind.i64.wrap ((r : Int) + (c : Int)) = (r : Int) + (c : Int) := IntWalk.i64_in _ (by omega)
  have v5 : IntKind.i64.wrap ((m : Int) + (d : Int)) = (m : Int) + (d : Int) := IntWalk.i64_in _ (by omega)
  have v6 : IntKind.i64.wrap (a : Int) = (a : Int) := IntWalk.i64_in _ (by omega)
  have v7 : IntKind.i64.wrap (m : Int) = (m : Int) := IntWalk.i64_in _ (by omega)
  have v8 : IntKind.i64.wrap (c : Int) = (c : Int) := IntWalk.i64_in _ (by omega)
  have v9 : IntKind.i64.wrap (d : Int) = (d : Int) := IntWalk.i64_in _ (by omega)
  have hz : ¬ ((nr : Int) = 0) := by omega
  have hz2 : ¬ (nr = 0) := by omega
  clear hnum ha hc hm hd
  go_enter Try.func39, Try.ntmps39
  go_wp2_with fail
  go_quiet (fail)
  go_wp2
  go_ret
  exact ⟨rfl, ⟨rfl, rfl, rfl, Nat.le_refl _, fun _ _ => rfl⟩⟩
end Go.Proofs.Ytjmobepipfbbnaa

set_option linter.unusedSimpArgs false
set_option linter.unusedVariables false
namespace Go.Proofs.Ytjmobepipfbbnaa
section
variable {f : Fns} {σ : Nat → Nat}
theorem pow_lt64 {n m : Nat} (h : n < m) (hm : m ≤ 6) : 2 ^ n < 64 := by
  have := Nat.pow_le_pow_right (show 0 < 2 by omega) (show n ≤ 5 by omega)
  omega
theorem par_lt {f : Fns} (hg : goodFns f = true) {r : Nat} (hr : r < f.riders.toNat) : (partner (r : Int)).toNat < f.riders.toNat ∧ (((partner (r : Int)).toNat : Nat) : Int) = partner r := by
  have h := (sound_of hg).2.2.2.2
  unfold partner
  split <;> omega
theorem fine_turn (hg : goodFns f = true) (hσ : Turn f.riders.toNat σ) {r : Nat} (hr : r < f.riders.toNat) : ∃ a b : Int, fineR f (r : Int) = ((a, b), 0) ∧ fineR (turnF σ f) (σ r : Int) = ((a, b), 0) := by
  have hg2 := good_turn hg hσ
  have h6 := (sound_of hg).2.1
  have hs := hσ.lt r hr
  have e1 : fineR f (r : Int) = (sumR f (2 ^ r) (cFined r), 0) := by
    have h1 : isRid f (r : Int) = true := by unfold isRid inB; simp; omega
    unfold fineR
    rw [if_neg (by simp [hg]), if_neg (by simp [h1])]; rfl
  have e2 : fineR (turnF σ f) (σ r : Int) = (sumR (turnF σ f) (2 ^ σ r) (cFined (σ r : Nat)), 0) := by
    have h1 : isRid (turnF σ f) (σ r : Int) = true := by unfold isRid inB turnF; simp; omega
    unfold fineR
    rw [if_neg (by simp [hg2]), if_neg (by simp [h1])]; rfl
  have h := sum_turn hσ (sound_of hg).1 (sound_of hg2).1 rfl (pow_lt64 hr h6) (pow_lt64 hs h6) (loc_fined f.riders.toNat r) (loc_fined f.riders.toNat (σ r)) (fun k c hk => by
    obtain ⟨who, h1, h2⟩ := hk
    have h3 : (turnK σ k).rider = ((σ who : Nat) : Int) := by simp [turnK, h1]
    unfold cFined
    rw [h3, h1]
    by_cases he : who = r
    · subst he; rw [if_pos rfl, if_pos rfl]
    · rw [if_neg (fun h => he (hσ.inj _ _ h2 hr (by omega))), if_neg (by omega)])
  rw [e1, e2, h]
  exact ⟨_, _, rfl, rfl⟩
theorem pays_turn (hg : goodFns f = true) (hσ : Turn f.riders.toNat σ) {r : Nat} (hr : r < f.riders.toNat) : ∃ a b : Int, paysR f (r : Int) = ((a, b), 0) ∧ paysR (turnF σ f) (σ r : Int) = ((a, b), 0) := by
  have hg2 := good_turn hg hσ
  have h6 := (sound_of hg).2.1
  have hs := hσ.lt r hr
  have hp := hσ.par r hr
  obtain ⟨p, hp1⟩ : ∃ p, (partner (r : Int)).toNat = p := ⟨_, rfl⟩
  have hpl := par_lt hg hr
  rw [hp1] at hp hpl
  have hps := hσ.lt p hpl.1
  have e1 : paysR f (r : Int) = (sumR f (2 ^ r ||| 2 ^ p) (cPaid r p), 0) := by
    have h1 : isRid f (r : Int) = true := by unfold isRid inB; simp; omega
    unfold paysR
    rw [if_neg (by simp [hg]), if_neg (by simp [h1]), ← hpl.2]; rfl
  have e2 : paysR (turnF σ f) (σ r : Int) = (sumR (turnF σ f) (2 ^ σ r ||| 2 ^ σ p) (cPaid (σ r : Nat) (σ p : Nat)), 0) := by
    have h1 : isRid (turnF σ f) (σ r : Int) = true := by unfold isRid inB turnF; simp; omega
    unfold paysR
    rw [if_neg (by simp [hg2]), if_neg (by simp [h1]), hp]; rfl
  have h := sum_turn hσ (sound_of hg).1 (sound_of hg2).1 rfl (Nat.or_lt_two_pow (n := 6) (pow_lt64 hr h6) (pow_lt64 hpl.1 h6)) (Nat.or_lt_two_pow (n := 6) (pow_lt64 hs h6) (pow_lt64 hps h6)) (loc_paid f.riders.toNat r p) (loc_paid f.riders.toNat (σ r) (σ p)) (fun k c hk => by
    obtain ⟨who, h1, h2⟩ := hk
    have h3 : (turnK σ k).rider = ((σ who : Nat) : Int) := by simp [turnK, h1]
    unfold cPaid
    rw [h3, h1]
    have n1 : ((σ who : Nat) : Int) = ((σ r : Nat) : Int) ↔ (who : Int) = (r : Int) := ⟨fun h => by have := hσ.inj _ _ h2 hr (by omega); omega, fun h => by rw [show who = r by omega]⟩
    have n2 : ((σ who : Nat) : Int) = ((σ p : Nat) : Int) ↔ (who : Int) = (p : Int) := ⟨fun h => by have := hσ.inj _ _ h2 hpl.1 (by omega); omega, fun h => by rw [show who = p by omega]⟩
    simp only [n1, n2])
  rw [e1, e2, h]
  exact ⟨_, _, rfl, rfl⟩
theorem cost_turnR (hg : goodFns f = true) (hσ : Turn f.riders.toNat σ) {n : Nat} (hn : n < f.list.length) : ∃ a b : Int, costR f (n : Int) = ((a, b), 0) ∧ costR (turnF σ f) (n : Int) = ((a, b), 0) := by
  have hg2 := good_turn hg hσ
  have h6 := (sound_of hg).2.1
  have hl : (turnF σ f).list.length = f.list.length := by simp [turnF]
  have ok : ∀ g : Fns, goodFns g = true → n < g.list.length → costR g (n : Int) = (costS g n, 0) := fun g hg hj => by
    have h1 : inB (n : Int) 0 (g.list.length - 1) = true := by unfold inB; simp; omega
    unfold costR
    rw [if_neg (by simp [hg]), if_neg (by simp [h1])]
    rfl
  rw [ok f hg hn, ok _ hg2 (by rw [hl]; exact hn), costS_turn hσ (sound_of hg).1 (sound_of hg2).1 rfl h6 hn]
  exact ⟨_, _, rfl, rfl⟩
theorem good_rulT {t : Nat} (ht : t ≤ 255) : goodRul ⟨(t : Int), 0, 1000, 0⟩ = true := by
  unfold goodRul inB; simp; omega
theorem total_moreR (hg : goodFns f = true) {t : Nat} (ht : t ≤ 255) (hl : f.rules.length < 4) : totalR (moreR f ⟨(t : Int), 0, 1000, 0⟩) = totalR f := by
  have hg2 := good_moreR hg (good_rulT ht) hl
  have h6 := (sound_of hg).2.1
  have hlt : 2 ^ f.riders.toNat - 1 < 64 := by
    have := Nat.pow_le_pow_right (show 0 < 2 by omega) h6
    omega
  unfold totalR
  rw [if_neg (by rw [hg2]; decide), if_neg (by rw [hg]; decide)]
  exact congrArg (fun s => (s, (0 : Int))) (sum_moreR hg hg2 hlt (loc_each f.riders.toNat))
end
end Go.Proofs.Ytjmobepipfbbnaa

set_option linter.unusedSimpArgs false
set_option linter.unusedVariables false
namespace Go.Proofs.Ytjmobepipfbbnaa
open Go.RowKit Go.Shelf
attribute [local go_sem] Oper.semAt_some
theorem or_i64 {a b : Nat} (ha : a < 64) (hb : b < 64) : bits .or .i64 (a : Int) (b : Int) = ((a ||| b : Nat) : Int) := by
  have hx : a ||| b < 2 ^ 6 := Nat.or_lt_two_pow (by omega) (by omega)
  show IntKind.i64.wrap ((BitVec.ofInt 64 (a : Int) ||| BitVec.ofInt 64 (b : Int)).toNat : Int) = _
  rw [BitVec.toNat_or, ofInt_u64 a (by omega), ofInt_u64 b (by omega)]
  exact IntWalk.i64_in _ (by omega)
theorem and1_i64 {a : Nat} (ha : a < 64) : bits .and .i64 (a : Int) 1 = ((a % 2 : Nat) : Int) := by
  show IntKind.i64.wrap ((BitVec.ofInt 64 (a : Int) &&& BitVec.ofInt 64 ((1 : Nat) : Int)).toNat : Int) = _
  rw [BitVec.toNat_and, ofInt_u64 a (by omega), ofInt_u64 1 (by omega), Nat.and_one_is_mod]
  exact IntWalk.i64_in _ (by omega)
theorem run_shr (S r : Nat) (hr : r < 6) (w : World) : (binOp .shr 3 (.int .i64 (S : Int)) (.int .i64 (r : Int))).run Try.prog w = .ok (.int .i64 ((S / 2 ^ r : Nat) : Int)) w := by
  have h0 : ¬ ((r : Int) < 0) := by omega
  go_simp
theorem run_and1 (x : Nat) (hx : x < 64) (w : World) : (binOp .and 3 (.int .i64 (x : Int)) (.int .i64 1)).run Try.prog w = .ok (.int .i64 ((x % 2 : Nat) : Int)) w := by
  have h := and1_i64 hx
  go_simp
theorem run_shl (b p : Nat) (hb : b ≤ 1) (hp : p < 6) (w : World) : (binOp .shl 3 (.int .i64 (b : Int)) (.int .i64 (p : Int))).run Try.prog w = .ok (.int .i64 ((b * 2 ^ p : Nat) : Int)) w := by
  have h0 : ¬ ((p : Int) < 0) := by omega
  go_simp
  have hbc : b = 0 ∨ b = 1 := by omega
  have hpc : p = 0 ∨ p = 1 ∨ p = 2 ∨ p = 3 ∨ p = 4 ∨ p = 5 := by omega
  rcases hbc with rfl | rfl <;> rcases hpc with rfl | rfl | rfl | rfl | rfl | rfl <;> decide
theorem run_or (a b : Nat) (ha : a < 64) (hb : b < 64) (w : World) : (binOp .or 3 (.int .i64 (a : Int)) (.int .i64 (b : Int))).run Try.prog w = .ok (.int .i64 ((a ||| b : Nat) : Int)) w := by
  have h := or_i64 ha hb
  go_simp
/-- The bit of a rider, turned. -/
theorem bit_turn (S r : Nat) (σ : Nat → Nat) : S / 2 ^ r % 2 * 2 ^ σ r = if S.testBit r then 2 ^ σ r else 0 := by
  have h : S / 2 ^ r % 2 = if S.testBit r then 1 else 0 := by
    rw [← Nat.shiftRight_eq_div_pow, Nat.testBit]
    have := Nat.mod_two_eq_zero_or_one (S >>> r)
    rcases this with h | h
    · rw [h]
      have : (1 &&& S >>> r) = 0 := by rw [Nat.and_comm, Nat.and_one_is_mod, h]
      simp [this]
    · rw [h]
      have : (1 &&& S >>> r) = 1 := by rw [Nat.and_comm, Nat.and_one_is_mod, h]
      simp [this]
  rw [h]; split <;> simp
end Go.Proofs.Ytjmobepipfbbnaa

set_option linter.unusedSimpArgs false
set_option linter.unusedVariables false
namespace Go.Proofs.Ytjmobepipfbbnaa
open Go.RowKit Go.Shelf
def rowR (l : List Rul) (k j : Nat) : Value := .int .i64 (cRul (l.getD k ⟨0, 0, 0, 0⟩) j)
theorem rulInfo : (Try.prog.info? 57).map (fun i => (i.zero, i.size, i.bytes)) = some (some (.agg #[.int .i64 0, .int .i64 0, .int .i64 0, .int .i64 0]), 4, 32) := by kernel_rfl
theorem und22 : Try.prog.underlying 22 = some (.slice 57) := by kernel_rfl
theorem copy_offs2 {W : World} {base : Nat} {lv src : Value} {l : List Off} (h : W.ownsRow base 55 4 lv 0 []) (hs : IsOffs W src l) (h5 : l.length ≤ 1000) (hbase : base ≤ W.heap.size) :
    ∃ v' W', (Builtin.append_ #[23, 23] 23 #[lv, src]).run Try.prog W = .ok v' W' ∧ W'.ownsRow base 55 4 v' l.length (flatR l.length 4 (rowO l)) ∧ W.grownBy W' lv.ownBlock := by
  obtain ⟨i0, hi0, hz0, hz1, hz2⟩ := info_parts offInfo
  obtain ⟨v', W', h1, h2, h3⟩ := run_append_src (P := Try.prog) W base 23 23 55 i0 _ 4 32 und23 hi0 hz0 hz1 hz2 rfl (by omega) lv 0 _ h src l.length (rowO l) hs (fun _ _ _ _ => rfl) (by unfold maxLen; omega) (by omega) hbase
  exact ⟨v', W', h1, by simpa using h2, h3⟩
theorem copy_ruls2 {W : World} {base : Nat} {lv src : Value} {l : List Rul} (h : W.ownsRow base 57 4 lv 0 []) (hs : IsRuls W src l) (h5 : l.length ≤ 1000) (hbase : base ≤ W.heap.size) :
    ∃ v' W', (Builtin.append_ #[22, 22] 22 #[lv, src]).run Try.prog W = .ok v' W' ∧ W'.ownsRow base 57 4 v' l.length (flatR l.length 4 (rowR l)) ∧ W.grownBy W' lv.ownBlock := by
  obtain ⟨i0, hi0, hz0, hz1, hz2⟩ := info_parts rulInfo
  obtain ⟨v', W', h1, h2, h3⟩ := run_append_src (P := Try.prog) W base 22 22 57 i0 _ 4 32 und22 hi0 hz0 hz1 hz2 rfl (by omega) lv 0 _ h src l.length (rowR l) hs (fun _ _ _ _ => rfl) (by unfold maxLen; omega) (by omega) hbase
  exact ⟨v', W', h1, by simpa using h2, h3⟩
structure KpG (Y : World) (f : Fns) (L : Nat → Bool) (u : Nat → Value) (X : World) : Prop where
  b : Below Y.heap.size Y X
  o0 : L 0 = true → L 3 = false → X.ownsRow Y.heap.size 55 4 (u 90) 0 []
  o3 : L 3 = true → X.ownsRow Y.heap.size 55 4 (u 93) f.list.length (flatR f.list.length 4 (rowO f.list))
  r4 : L 4 = true → L 7 = false → X.ownsRow Y.heap.size 57 4 (u 94) 0 []
  r7 : L 7 = true → X.ownsRow Y.heap.size 57 4 (u 97) f.rules.length (flatR f.rules.length 4 (rowR f.rules))
  s8 : L 8 = true → u 13 = u 93
  s9 : L 9 = true → u 14 = u 97
section
variable {Y X : World} {f : Fns} {L : Nat → Bool} {u : Nat → Value}
theorem KpG.start (Y : World) (f : Fns) (u : Nat → Value) : KpG Y f (fun _ => false) u Y := ⟨Below.refl _ _, (fun e => by cases e), (fun e => by cases e), (fun e => by cases e), (fun e => by cases e), (fun e => by cases e), (fun e => by cases e)⟩
theorem KpG.st1 (H : KpG Y f L u X) (v : Value) : KpG Y f (updL L 1) (putU u 91 v) X :=
  ⟨H.b,
    fun e e2 => by simpa [updL, putU] using H.o0 (by simpa [updL] using e) (by simpa [updL] using e2),
    fun e => by simpa [updL, putU] using H.o3 (by simpa [updL] using e),
    fun e e2 => by simpa [updL, putU] using H.r4 (by simpa [updL] using e) (by simpa [updL] using e2),
    fun e => by simpa [updL, putU] using H.r7 (by simpa [updL] using e),
    fun e => by simpa [updL, putU] using H.s8 (by simpa [updL] using e),
    fun e => by simpa [updL, putU] using H.s9 (by simpa [updL] using e)⟩
theorem KpG.st2 (H : KpG Y f L u X) (v : Value) : KpG Y f (updL L 2) (putU u 92 v) X :=
  ⟨H.b,
    fun e e2 => by simpa [updL, putU] using H.o0 (by simpa [updL] using e) (by simpa [updL] using e2),
    fun e => by simpa [updL, putU] using H.o3 (by simpa [updL] using e),
    fun e e2 => by simpa [updL, putU] using H.r4 (by simpa [updL] using e) (by simpa [updL] using e2),
    fun e => by simpa [updL, putU] using H.r7 (by simpa [updL] using e),
    fun e => by simpa [updL, putU] using H.s8 (by simpa [updL] using e),
    fun e => by simpa [updL, putU] using H.s9 (by simpa [updL] using e)⟩
theorem KpG.st5 (H : KpG Y f L u X) (v : Value) : KpG Y f (updL L 5) (putU u 95 v) X :=
  ⟨H.b,
    fun e e2 => by simpa [updL, putU] using H.o0 (by simpa [updL] using e) (by simpa [updL] using e2),
    fun e => by simpa [updL, putU] using H.o3 (by simpa [updL] using e),
    fun e e2 => by simpa [updL, putU] using H.r4 (by simpa [updL] using e) (by simpa [updL] using e2),
    fun e => by simpa [updL, putU] using H.r7 (by simpa [updL] using e),
    fun e => by simpa [updL, putU] using H.s8 (by simpa [updL] using e),
    fun e => by simpa [updL, putU] using H.s9 (by simpa [updL] using e)⟩
theorem KpG.st6 (H : KpG Y f L u X) (v : Value) : KpG Y f (updL L 6) (putU u 96 v) X :=
  ⟨H.b,
    fun e e2 => by simpa [updL, putU] using H.o0 (by simpa [updL] using e) (by simpa [updL] using e2),
    fun e => by simpa [updL, putU] using H.o3 (by simpa [updL] using e),
    fun e e2 => by simpa [updL, putU] using H.r4 (by simpa [updL] using e) (by simpa [updL] using e2),
    fun e => by simpa [updL, putU] using H.r7 (by simpa [updL] using e),
    fun e => by simpa [updL, putU] using H.s8 (by simpa [updL] using e),
    fun e => by simpa [updL, putU] using H.s9 (by simpa [updL] using e)⟩
theorem KpG.st0 (H : KpG Y f L u X) (h3 : L 3 = false) : KpG Y f (updL L 0) (putU u 90 (.slice (some ⟨X.heap.size, 0, none⟩) 0 0)) (X.alloc (.cells #[] 55)) :=
  ⟨H.b.alloc H.b.size _,
    fun _ _ => by simpa [putU] using World.ownsRow_made X #[] 0 H.b.size (by unfold maxLen; omega) rfl,
    fun e => by simpa [updL, putU] using (H.o3 (by simpa [updL] using e)).alloc _,
    fun e e2 => by simpa [updL, putU] using (H.r4 (by simpa [updL] using e) (by simpa [updL] using e2)).alloc _,
    fun e => by simpa [updL, putU] using (H.r7 (by simpa [updL] using e)).alloc _,
    fun e => by simpa [updL, putU] using H.s8 (by simpa [updL] using e),
    fun e => by simpa [updL, putU] using H.s9 (by simpa [updL] using e)⟩
theorem KpG.st4 (H : KpG Y f L u X) (h7 : L 7 = false) : KpG Y f (updL L 4) (putU u 94 (.slice (some ⟨X.heap.size, 0, none⟩) 0 0)) (X.alloc (.cells #[] 57)) :=
  ⟨H.b.alloc H.b.size _,
    fun e e2 => by simpa [updL, putU] using (H.o0 (by simpa [updL] using e) (by simpa [updL] using e2)).alloc _,
    fun e => by simpa [updL, putU] using (H.o3 (by simpa [updL] using e)).alloc _,
    fun _ _ => by simpa [putU] using World.ownsRow_made X #[] 0 H.b.size (by unfold maxLen; omega) rfl,
    fun e => by simpa [updL, putU] using (H.r7 (by simpa [updL] using e)).alloc _,
    fun e => by simpa [updL, putU] using H.s8 (by simpa [updL] using e),
    fun e => by simpa [updL, putU] using H.s9 (by simpa [updL] using e)⟩
theorem KpG.st3 (H : KpG Y f L u X) {v : Value} {Z : World} (h0 : L 0 = true) (h3 : L 3 = false) (h8 : L 8 = false) (hg : X.grownBy Z (u 90).ownBlock) (ho : Z.ownsRow Y.heap.size 55 4 v f.list.length (flatR f.list.length 4 (rowO f.list))) : KpG Y f (updL L 3) (putU u 93 v) Z :=
  ⟨H.b.grown hg H.b.size (fun k hk => ((H.o0 h0 h3).lt k hk).1),
    fun _ e => by simp [updL] at e,
    fun _ => by simpa [putU] using ho,
    fun e e2 => by simpa [updL, putU] using own_grown (H.r4 (by simpa [updL] using e) (by simpa [updL] using e2)) (H.o0 h0 h3) (by decide) hg,
    fun e => by simpa [updL, putU] using own_grown (H.r7 (by simpa [updL] using e)) (H.o0 h0 h3) (by decide) hg,
    fun e => by simp [updL, h8] at e,
    fun e => by simpa [updL, putU] using H.s9 (by simpa [updL] using e)⟩
theorem KpG.st7 (H : KpG Y f L u X) {v : Value} {Z : World} (h4 : L 4 = true) (h7 : L 7 = false) (h9 : L 9 = false) (hg : X.grownBy Z (u 94).ownBlock) (ho : Z.ownsRow Y.heap.size 57 4 v f.rules.length (flatR f.rules.length 4 (rowR f.rules))) : KpG Y f (updL L 7) (putU u 97 v) Z :=
  ⟨H.b.grown hg H.b.size (fun k hk => ((H.r4 h4 h7).lt k hk).1),
    fun e e2 => by simpa [updL, putU] using own_grown (H.o0 (by simpa [updL] using e) (by simpa [updL] using e2)) (H.r4 h4 h7) (by decide) hg,
    fun e => by simpa [updL, putU] using own_grown (H.o3 (by simpa [updL] using e)) (H.r4 h4 h7) (by decide) hg,
    fun _ e => by simp [updL] at e,
    fun _ => by simpa [putU] using ho,
    fun e => by simpa [updL, putU] using H.s8 (by simpa [updL] using e),
    fun e => by simp [updL, h9] at e⟩
theorem KpG.st8 (H : KpG Y f L u X) : KpG Y f (updL L 8) (putU u 13 (u 93)) X :=
  ⟨H.b,
    fun e e2 => by simpa [updL, putU] using H.o0 (by simpa [updL] using e) (by simpa [updL] using e2),
    fun e => by simpa [updL, putU] using H.o3 (by simpa [updL] using e),
    fun e e2 => by simpa [updL, putU] using H.r4 (by simpa [updL] using e) (by simpa [updL] using e2),
    fun e => by simpa [updL, putU] using H.r7 (by simpa [updL] using e),
    fun _ => by simp [putU],
    fun e => by simpa [updL, putU] using H.s9 (by simpa [updL] using e)⟩
theorem KpG.st9 (H : KpG Y f L u X) : KpG Y f (updL L 9) (putU u 14 (u 97)) X :=
  ⟨H.b,
    fun e e2 => by simpa [updL, putU] using H.o0 (by simpa [updL] using e) (by simpa [updL] using e2),
    fun e => by simpa [updL, putU] using H.o3 (by simpa [updL] using e),
    fun e e2 => by simpa [updL, putU] using H.r4 (by simpa [updL] using e) (by simpa [updL] using e2),
    fun e => by simpa [updL, putU] using H.r7 (by simpa [updL] using e),
    fun e => by simpa [updL, putU] using H.s8 (by simpa [updL] using e),
    fun _ => by simp [putU]⟩
end
end Go.Proofs.Ytjmobepipfbbnaa

set_option linter.unusedSimpArgs false
set_option linter.unusedVariables false
namespace Go.Proofs.Ytjmobepipfbbnaa
open Go.RowKit Go.Shelf
theorem flatRu_snoc (acc : List Rul) (o : Rul) : flatR (acc.length + 1) 4 (rowR (acc ++ [o])) = flatR acc.length 4 (rowR acc) ++ [.int .i64 o.base, .int .i64 o.step, .int .i64 o.most, .int .i64 o.window] := by
  have h1 : flatR (acc.length + 1) 4 (rowR (acc ++ [o])) = flatR acc.length 4 (rowR (acc ++ [o])) ++ [rowR (acc ++ [o]) acc.length 0, rowR (acc ++ [o]) acc.length 1, rowR (acc ++ [o]) acc.length 2, rowR (acc ++ [o]) acc.length 3] := by
    have e : (acc.length + 1) * 4 = acc.length * 4 + 1 + 1 + 1 + 1 := by omega
    unfold flatR
    rw [e, List.range_succ, List.range_succ, List.range_succ, List.range_succ]
    have d0 : acc.length * 4 / 4 = acc.length := by omega
    have d1 : acc.length * 4 % 4 = 0 := by omega
    have d2 : (acc.length * 4 + 1) / 4 = acc.length := by omega
    have d3 : (acc.length * 4 + 1) % 4 = 1 := by omega
    have d4 : (acc.length * 4 + 1 + 1) / 4 = acc.length := by omega
    have d5 : (acc.length * 4 + 1 + 1) % 4 = 2 := by omega
    have d6 : (acc.length * 4 + 1 + 1 + 1) / 4 = acc.length := by omega
    have d7 : (acc.length * 4 + 1 + 1 + 1) % 4 = 3 := by omega
    simp [d0, d1, d2, d3, d4, d5, d6, d7]
  rw [h1]
  congr 1
  · exact flatR_congr (by omega) fun k j hk hj => by unfold rowR; simp [List.getD, List.getElem?_append, hk]
  · simp [rowR, cRul, c4]
theorem own_ruls {W : World} {base : Nat} {lv : Value} {acc : List Rul} (h : W.ownsRow base 57 4 lv acc.length (flatR acc.length 4 (rowR acc))) : IsRuls W lv acc := by
  obtain ⟨a, c, e1, e2, e3, e4⟩ := rows_of_own (by omega) h
  refine ⟨a, c, e1, e2, e3, fun hp => ?_⟩
  obtain ⟨b, off, e5, e6⟩ := e4 hp
  refine ⟨b, off, e5, fun k j hk hj => ?_⟩
  rw [e6 k j hk hj]
  dsimp only
  have := getD_flat (row := rowR acc) hk hj []
  rw [List.append_nil] at this
  rw [this]; rfl
theorem append_rul {W : World} {base : Nat} {lv : Value} {acc : List Rul} (h : W.ownsRow base 57 4 lv acc.length (flatR acc.length 4 (rowR acc))) (h5 : acc.length < 1000) (hbase : base ≤ W.heap.size) (o : Rul) (A : Nat)
    (hA : ∀ j, j < 4 → W.cell? ⟨A, j, none⟩ = some (.int .i64 (cRul o j))) :
    ∃ v' W', (Builtin.append_ #[22, 22] 22 #[lv, .slice (some ⟨A, 0, none⟩) 1 1]).run Try.prog W = .ok v' W' ∧ W'.ownsRow base 57 4 v' (acc ++ [o]).length (flatR (acc ++ [o]).length 4 (rowR (acc ++ [o]))) ∧ W.grownBy W' lv.ownBlock := by
  obtain ⟨i0, hi0, hz0, hz1, hz2⟩ := info_parts rulInfo
  obtain ⟨v', W', h1, h2, h3⟩ := run_append_src (P := Try.prog) W base 22 22 57 i0 _ 4 32 und22 hi0 hz0 hz1 hz2 rfl (by omega) lv acc.length _ h (.slice (some ⟨A, 0, none⟩) 1 1) 1 (fun _ j => .int .i64 (cRul o j))
    ⟨some ⟨A, 0, none⟩, 1, rfl, by omega, by omega, fun _ => ⟨A, 0, rfl, fun q j hq hj => by
      have : q = 0 := by omega
      subst this
      have := hA j hj
      simpa using this⟩⟩ (fun _ _ _ _ => rfl) (by unfold maxLen; omega) (by omega) hbase
  refine ⟨v', W', h1, ?_, h3⟩
  have e := flatRu_snoc acc o
  have e2 : flatR 1 4 (fun _ j => Value.int .i64 (cRul o j)) = [.int .i64 o.base, .int .i64 o.step, .int .i64 o.most, .int .i64 o.window] := by simp [flatR, List.range_succ, cRul, c4]
  rw [e2] at h2
  rw [List.length_append]
  rw [show acc.length + [o].length = acc.length + 1 from rfl, e]
  exact h2
structure MrG (Y : World) (N : Nat) (rs : List Rul) (r : Rul) (L : Nat → Bool) (u : Nat → Value) (X : World) : Prop where
  o0 : L 0 = true → L 3 = false → X.ownsRow Y.heap.size 57 4 (u 212) 0 []
  o3 : L 3 = true → L 8 = false → X.ownsRow Y.heap.size 57 4 (u 215) rs.length (flatR rs.length 4 (rowR rs))
  o7 : L 7 = true → ∃ b, b < X.heap.size ∧ u 219 = .slice (some ⟨b, 0, none⟩) 1 1 ∧ (L 8 = false → ∀ j, j < 4 → X.cell? ⟨b, j, none⟩ = some (.int .i64 (cRul r j))) ∧ (L 0 = true → L 3 = false → (u 212).ownBlock ≠ some b)
  b : L 10 = false → Below Y.heap.size Y X
  o8 : L 8 = true → L 10 = false → X.ownsRow Y.heap.size 57 4 (u 220) (rs ++ [r]).length (flatR (rs ++ [r]).length 4 (rowR (rs ++ [r])))
  o10 : L 10 = true → ∃ Z, Below Y.heap.size Y Z ∧ Z.ownsRow Y.heap.size 57 4 (u 220) (rs ++ [r]).length (flatR (rs ++ [r]).length 4 (rowR (rs ++ [r]))) ∧ X = Z.setCell ⟨N, 0, none⟩ (u 220)
section
variable {Y X : World} {N : Nat} {rs : List Rul} {r : Rul} {L : Nat → Bool} {u : Nat → Value}
theorem MrG.start (Y : World) (N : Nat) (rs : List Rul) (r : Rul) (u : Nat → Value) : MrG Y N rs r (fun _ => false) u Y := ⟨(fun e => by cases e), (fun e => by cases e), (fun e => by cases e), fun _ => Below.refl _ _, (fun e => by cases e), (fun e => by cases e)⟩
theorem MrG.skip (H : MrG Y N rs r L u X) {i j : Nat} (h0 : 0 ≠ i) (h3 : 3 ≠ i) (h7 : 7 ≠ i) (h8 : 8 ≠ i) (h10 : 10 ≠ i) (j0 : 212 ≠ j) (j3 : 215 ≠ j) (j7 : 219 ≠ j) (j8 : 220 ≠ j) (v : Value) : MrG Y N rs r (updL L i) (putU u j v) X := by
  have e0 : updL L i 0 = L 0 := by simp [updL, h0]
  have e3 : updL L i 3 = L 3 := by simp [updL, h3]
  have e7 : updL L i 7 = L 7 := by simp [updL, h7]
  have e8 : updL L i 8 = L 8 := by simp [updL, h8]
  have e10 : updL L i 10 = L 10 := by simp [updL, h10]
  have u0 : putU u j v 212 = u 212 := by simp [putU, j0]
  have u3 : putU u j v 215 = u 215 := by simp [putU, j3]
  have u7 : putU u j v 219 = u 219 := by simp [putU, j7]
  have u8 : putU u j v 220 = u 220 := by simp [putU, j8]
  constructor <;> simp only [e0, e3, e7, e8, e10, u0, u3, u7, u8]
  · exact H.o0
  · exact H.o3
  · exact H.o7
  · exact H.b
  · exact H.o8
  · exact H.o10
theorem MrG.st0 (H : MrG Y N rs r L u X) (h3 : L 3 = false) (h8 : L 8 = false) (h10 : L 10 = false) : MrG Y N rs r (updL L 0) (putU u 212 (.slice (some ⟨X.heap.size, 0, none⟩) 0 0)) (X.alloc (.cells #[] 57)) := by
  have hb := H.b h10
  refine ⟨fun _ _ => by simpa [putU] using World.ownsRow_made X #[] 0 hb.size (by unfold maxLen; omega) rfl, fun e => ?_, fun e => ?_, fun _ => hb.alloc hb.size _, fun e => ?_, fun e => ?_⟩
  · simp [updL, h3] at e
  · obtain ⟨b, q1, q2, q3, q4⟩ := H.o7 (by simpa [updL] using e)
    refine ⟨b, by simp; omega, by simpa [putU] using q2, fun e8 j hj => cellP (q3 h8 j hj) _, fun _ _ => ?_⟩
    simp [putU, Value.ownBlock]; omega
  · simp [updL, h8] at e
  · simp [updL, h10] at e
theorem MrG.st3 (H : MrG Y N rs r L u X) {v : Value} {Z : World} (h0 : L 0 = true) (h3 : L 3 = false) (h8 : L 8 = false) (h10 : L 10 = false) (hg : X.grownBy Z (u 212).ownBlock) (ho : Z.ownsRow Y.heap.size 57 4 v rs.length (flatR rs.length 4 (rowR rs))) : MrG Y N rs r (updL L 3) (putU u 215 v) Z := by
  have hb := H.b h10
  refine ⟨fun _ e => by simp [updL] at e, fun _ _ => by simpa [putU] using ho, fun e => ?_, fun _ => hb.grown hg hb.size (fun k hk => ((H.o0 h0 h3).lt k hk).1), fun e => ?_, fun e => ?_⟩
  · obtain ⟨b, q1, q2, q3, q4⟩ := H.o7 (by simpa [updL] using e)
    exact ⟨b, Nat.lt_of_lt_of_le q1 hg.size, by simpa [putU] using q2, fun e8 j hj => hg.cell (q3 h8 j hj) (fun e => q4 h0 h3 e.symm), fun _ e => by simp [updL] at e⟩
  · simp [updL, h8] at e
  · simp [updL, h10] at e
theorem MrG.st7 (H : MrG Y N rs r L u X) (h8 : L 8 = false) (h10 : L 10 = false) : MrG Y N rs r (updL L 7) (putU u 219 (.slice (some ⟨X.heap.size, 0, none⟩) 1 1)) (X.alloc (.cells #[.int .i64 r.base, .int .i64 r.step, .int .i64 r.most, .int .i64 r.window] 57)) := by
  have hb := H.b h10
  refine ⟨fun e e2 => by simpa [updL, putU] using (H.o0 (by simpa [updL] using e) (by simpa [updL] using e2)).alloc _, fun e _ => by simpa [updL, putU] using (H.o3 (by simpa [updL] using e) h8).alloc _, fun _ => ?_, fun _ => hb.alloc hb.size _, fun e => ?_, fun e => ?_⟩
  · refine ⟨X.heap.size, by simp, by simp [putU], fun _ j hj => ?_, fun e e2 => ?_⟩
    · have hc : j = 0 ∨ j = 1 ∨ j = 2 ∨ j = 3 := by omega
      rcases hc with rfl | rfl | rfl | rfl <;> exact cellN rfl (by simp [cRul, c4])
    · have := H.o0 (by simpa [updL] using e) (by simpa [updL] using e2)
      intro h
      have h' : (u 212).ownBlock = some X.heap.size := by simpa [putU] using h
      have := (this.lt _ h').2
      omega
  · simp [updL, h8] at e
  · simp [updL, h10] at e
theorem MrG.st8 (H : MrG Y N rs r L u X) {v : Value} {Z : World} (h3 : L 3 = true) (h8 : L 8 = false) (h10 : L 10 = false) (hg : X.grownBy Z (u 215).ownBlock) (ho : Z.ownsRow Y.heap.size 57 4 v (rs ++ [r]).length (flatR (rs ++ [r]).length 4 (rowR (rs ++ [r])))) : MrG Y N rs r (updL L 8) (putU u 220 v) Z := by
  have hb := H.b h10
  refine ⟨fun _ e => by simp [updL, h3] at e, fun _ e => by simp [updL] at e, fun e => ?_, fun _ => hb.grown hg hb.size (fun k hk => ((H.o3 h3 h8).lt k hk).1), fun _ _ => by simpa [putU] using ho, fun e => ?_⟩
  · obtain ⟨b, q1, q2, q3, q4⟩ := H.o7 (by simpa [updL] using e)
    exact ⟨b, Nat.lt_of_lt_of_le q1 hg.size, by simpa [putU] using q2, fun e8 => by simp [updL] at e8, fun _ e => by simp [updL, h3] at e⟩
  · simp [updL, h10] at e
theorem MrG.st10 (H : MrG Y N rs r L u X) (h3 : L 3 = true) (h8 : L 8 = true) (h10 : L 10 = false) : MrG Y N rs r (updL L 10) u (X.setCell ⟨N, 0, none⟩ (u 220)) := by
  refine ⟨fun _ e => by simp [updL, h3] at e, fun _ e => by simp [updL, h8] at e, fun e => ?_, fun e => by simp [updL] at e, fun _ e => by simp [updL] at e, fun _ => ⟨X, H.b h10, H.o8 h8 h10, rfl⟩⟩
  obtain ⟨b, q1, q2, q3, q4⟩ := H.o7 (by simpa [updL] using e)
  exact ⟨b, by simpa using q1, q2, fun e => by simp [updL, h8] at e, fun _ e => by simp [updL, h3] at e⟩
end
end Go.Proofs.Ytjmobepipfbbnaa

set_option linter.unusedSimpArgs false
set_option linter.unusedVariables false
namespace Go.Proofs.Ytjmobepipfbbnaa
open Go.RowKit Go.Shelf
attribute [local go_sem] Oper.semAt_some
def AlZ (X : World) (N : Nat) : Prop := X.cell? ⟨N, 0, none⟩ = some (.int .i64 0) ∧ X.cell? ⟨N, 1, none⟩ = some (.int .i64 0) ∧ ∀ j, X.frozen? ⟨N, j, none⟩ = false
structure AlS (Y : World) (a s k : Nat) (x y : Int) (L : Nat → Bool) (u : Nat → Value) (X : World) : Prop where
  b : Below Y.heap.size Y X
  p : L a = true → ∃ N, u k = .pointer (some ⟨N, 0, none⟩) ∧ Y.heap.size ≤ N ∧ N < X.heap.size ∧ (L s = false → AlZ X N) ∧ (L s = true → TwoAt X N x y)
theorem AlZ.below {X Z : World} {N : Nat} (h : AlZ X N) (hb : Below X.heap.size X Z) (hN : N < X.heap.size) : AlZ Z N :=
  ⟨Below.cellSome hb h.1, Below.cellSome hb h.2.1, fun j => by rw [frozen_below hb hN]; exact h.2.2 j⟩
section
variable {Y X Z : World} {a s k : Nat} {x y : Int} {L : Nat → Bool} {u : Nat → Value}
theorem AlS.start (Y : World) (a s k : Nat) (x y : Int) (u : Nat → Value) : AlS Y a s k x y (fun _ => false) u Y := ⟨Below.refl _ _, fun e => by cases e⟩
theorem AlS.skip (H : AlS Y a s k x y L u X) {i j : Nat} (hia : a ≠ i) (his : s ≠ i) (hj : k ≠ j) (v : Value) (hb : Below X.heap.size X Z) : AlS Y a s k x y (updL L i) (putU u j v) Z := by
  refine ⟨H.b.trans (hb.mono H.b.size), fun e => ?_⟩
  have e' : L a = true := by simpa [updL, hia] using e
  obtain ⟨N, h1, h2, h3, h4, h5⟩ := H.p e'
  have es : updL L i s = L s := by simp [updL, his]
  rw [es]
  exact ⟨N, by simp [putU, hj, h1], h2, Nat.lt_of_lt_of_le h3 hb.size, fun h => (h4 h).below hb h3, fun h => (h5 h).below hb⟩
theorem AlS.al (H : AlS Y a s k x y L u X) (hs : L s = false) (has : a ≠ s) (t : TypeId) : AlS Y a s k x y (updL L a) (putU u k (.pointer (some ⟨X.heap.size, 0, none⟩))) (X.alloc (.cells #[.int .i64 0, .int .i64 0] t)) := by
  refine ⟨H.b.alloc H.b.size _, fun _ => ⟨X.heap.size, by simp [putU], H.b.size, by simp, fun _ => ⟨cellN rfl rfl, cellN rfl rfl, fun j => World.frozen?_alloc_at _ _ _ _ rfl⟩, fun e => ?_⟩⟩
  have : L s = true := by simpa [updL, has.symm] using e
  rw [hs] at this; cases this
theorem AlS.st (H : AlS Y a s k x y L u X) (ha : L a = true) (hs : L s = false) (has : a ≠ s) : ∃ N, u k = .pointer (some ⟨N, 0, none⟩) ∧ AlZ X N ∧ AlS Y a s k x y (updL L s) u ((X.setCell ⟨N, 0, none⟩ (.int .i64 x)).setCell ⟨N, 1, none⟩ (.int .i64 y)) := by
  obtain ⟨N, h1, h2, h3, h4, h5⟩ := H.p ha
  have z := h4 hs
  refine ⟨N, h1, z, (H.b.setCell h2 _).setCell h2 _, fun _ => ⟨N, h1, h2, by simpa using h3, fun e => by simp [updL] at e, fun _ => ⟨cellOther (cellSame z.1) (by omega), cellSame (cellOther z.2.1 (by omega))⟩⟩⟩
theorem AlS.fin (H : AlS Y a s k x y L u X) (ha : L a = true) (hs : L s = true) : ∃ N, u k = .pointer (some ⟨N, 0, none⟩) ∧ TwoAt X N x y := by
  obtain ⟨N, h1, _, _, _, h5⟩ := H.p ha
  exact ⟨N, h1, h5 hs⟩
end
theorem run_alloc30 {ρ : Operand → Value} {o : Oper} (ho : o.op = .alloc 30) (X : World) : (execOp ρ o).run Try.prog X = .ok (.value (.pointer (some ⟨X.heap.size, 0, none⟩))) (X.alloc (.cells #[.int .i64 0, .int .i64 0] 30)) := by
  obtain ⟨d, op, ty, ps, af, g⟩ := o
  simp only at ho
  subst ho
  first | (go_simp; done) | (simp [execOp, go_sem]; done)
theorem run_store30 {ρ : Operand → Value} {o : Oper} {p q : Operand} (ho : o.op = .store 30 p q) {X : World} {N : Nat} {x y : Int} (hp : ρ p = .pointer (some ⟨N, 0, none⟩)) (hq : ρ q = .agg #[.int .i64 x, .int .i64 y]) (hz : AlZ X N) :
    (execOp ρ o).run Try.prog X = .ok .skip ((X.setCell ⟨N, 0, none⟩ (.int .i64 x)).setCell ⟨N, 1, none⟩ (.int .i64 y)) := by
  obtain ⟨d, op, ty, ps, af, g⟩ := o
  simp only at ho
  subst ho
  obtain ⟨n0, n1, nf⟩ := hz
  have nf0 := nf 0
  have nf1 := nf 1
  first | (go_simp; done) | (simp [execOp, go_sem, *]; done)
end Go.Proofs.Ytjmobepipfbbnaa

set_option linter.unusedSimpArgs false
set_option linter.unusedVariables false
namespace Go.Proofs.Ytjmobepipfbbnaa
open Go.RowKit Go.Shelf
theorem struct55 (a b c d : Int) (w : World) : (Op.equalIn 10000 55 (.agg #[.int .i64 a, .int .i64 b, .int .i64 c, .int .i64 d]) (.agg #[.int .i64 a, .int .i64 b, .int .i64 c, .int .i64 d])).run Try.prog w = .ok true w := by
  have u3 := Try.underlying3
  have a3 := Try.isAgg3
  have z3 := Try.sizeOf3
  have hS : Try.prog.underlying 55 = some (.struct (Try.prog.fieldsOf 55)) := by kernel_rfl
  have hp : Try.prog.stoodInHeld 55 = false := by kernel_rfl
  rw [show (10000 : Nat) = 9999 + 1 from rfl, run_equalIn_agg w 9999 55 _ _ hS hp]
  simp only [Program.fieldsOf, Try.underlying55]
  go_simp
theorem struct57 (a b c d : Int) (w : World) : (Op.equalIn 10000 57 (.agg #[.int .i64 a, .int .i64 b, .int .i64 c, .int .i64 d]) (.agg #[.int .i64 a, .int .i64 b, .int .i64 c, .int .i64 d])).run Try.prog w = .ok true w := by
  have u3 := Try.underlying3
  have a3 := Try.isAgg3
  have z3 := Try.sizeOf3
  have hS : Try.prog.underlying 57 = some (.struct (Try.prog.fieldsOf 57)) := by kernel_rfl
  have hp : Try.prog.stoodInHeld 57 = false := by kernel_rfl
  rw [show (10000 : Nat) = 9999 + 1 from rfl, run_equalIn_agg w 9999 57 _ _ hS hp]
  simp only [Program.fieldsOf, Try.underlying57]
  go_simp
theorem neq55 (a b c d : Int) (w : World) : (binOp .neq 55 (.agg #[.int .i64 a, .int .i64 b, .int .i64 c, .int .i64 d]) (.agg #[.int .i64 a, .int .i64 b, .int .i64 c, .int .i64 d])).run Try.prog w = .ok (.bool false) w := by
  have hS : Try.prog.underlying 55 = some (.struct (Try.prog.fieldsOf 55)) := by kernel_rfl
  have hp : Try.prog.stoodInHeld 55 = false := by kernel_rfl
  rw [run_neq_struct, struct55]; rfl
theorem neq57 (a b c d : Int) (w : World) : (binOp .neq 57 (.agg #[.int .i64 a, .int .i64 b, .int .i64 c, .int .i64 d]) (.agg #[.int .i64 a, .int .i64 b, .int .i64 c, .int .i64 d])).run Try.prog w = .ok (.bool false) w := by
  have hS : Try.prog.underlying 57 = some (.struct (Try.prog.fieldsOf 57)) := by kernel_rfl
  have hp : Try.prog.stoodInHeld 57 = false := by kernel_rfl
  rw [run_neq_struct, struct57]; rfl
/-- The loop that overwrites the row handed back: the row's own cells are there, its copy stays. -/
structure L5 (x Y : World) (cb : Nat) (v : Value) (L : List Int) (ca : Option Addr) : Prop where
  b : Below x.heap.size x Y
  o : Y.ownsRow cb 3 1 v L.length (intV L)
  c : ∀ G, 0 < L.length → ca = some ⟨G, 0, none⟩ → (∀ k, k < L.length → ∃ y : Int, Y.cell? ⟨G, k, none⟩ = some (.int .i64 y)) ∧ ∀ o, Y.frozen? ⟨G, o, none⟩ = false
theorem L5.set {x Y : World} {cb G k : Nat} {v : Value} {L : List Int} {ca : Option Addr} (h : L5 x Y cb v L ca) (hl : 0 < L.length) (hG : ca = some ⟨G, 0, none⟩) (h1 : x.heap.size ≤ G) (h2 : G < cb) (y : Int) : L5 x (Y.setCell ⟨G, k, none⟩ (.int .i64 y)) cb v L ca := by
  refine ⟨h.b.setCell h1 _, own_set h.o (fun e => by have := (h.o.lt G e).1; omega), fun G2 hl2 e2 => ?_⟩
  obtain ⟨c1, c2⟩ := h.c G2 hl2 e2
  have e : G2 = G := by rw [hG] at e2; injection e2 with e3; injection e3 with e4; exact e4.symm
  subst e
  refine ⟨fun j hj => ?_, fun o => by rw [World.frozen?_setCell]; exact c2 o⟩
  obtain ⟨z, hz⟩ := c1 j hj
  by_cases e : j = k
  · subst e; exact ⟨y, cellSame hz⟩
  · exact ⟨z, cellOther hz (by omega)⟩
end Go.Proofs.Ytjmobepipfbbnaa
