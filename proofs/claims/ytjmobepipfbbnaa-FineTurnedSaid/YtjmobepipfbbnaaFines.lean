import Derived.Test.YtjmobepipfbbnaaBits
/- Fines, plainly: what the program computes, and what that is by all truths. -/
set_option linter.unusedSimpArgs false
set_option linter.unusedVariables false
namespace Go.Proofs.Ytjmobepipfbbnaa
def spanL : List Int → Int × Int
  | [] => (0, 0)
  | x :: l => (l.foldl min x, l.foldl max x)
structure Rul where
  base : Int
  step : Int
  most : Int
  window : Int
structure Off where
  kind : Int
  riders : Int
  lo : Int
  hi : Int
structure Fns where
  rules : List Rul
  riders : Int
  list : List Off
structure Kn where
  number : Int
  kind : Int
  rider : Int
  hour : Int
deriving DecidableEq
def inB (n lo hi : Int) : Bool := decide (lo ≤ n) && decide (n ≤ hi)
def goodRul (r : Rul) : Bool := inB r.base 0 1000 && inB r.step 0 1000 && inB r.most 0 1000 && inB r.window 0 144
def goodOff (f : Fns) (o : Off) : Bool := inB o.kind 0 (f.rules.length - 1) && inB o.riders 1 (2 ^ f.riders.toNat - 1) && (decide (0 ≤ o.lo) && decide (o.lo ≤ o.hi) && decide (o.hi ≤ 144) && decide (o.hi - o.lo ≤ 2))
def goodFns (f : Fns) : Bool :=
  decide ((f.rules.length : Int) ≤ 4) && decide ((f.list.length : Int) ≤ 5) && inB f.riders 2 6 && decide (f.riders % 2 = 0) && f.rules.all goodRul && f.list.all (goodOff f)
/-- An offence comes before another one. -/
def bef (k o : Kn) : Bool := decide (k.hour < o.hour) || (decide (k.hour = o.hour) && decide (k.number < o.number))
def counts (r : Rul) (k o : Kn) : Bool := decide (o.kind = k.kind) && decide (o.rider = k.rider) && bef o k && decide (k.hour - r.window ≤ o.hour)
/-- What an offence costs, of some. -/
def costK (r : Rul) (l : List Kn) (k : Kn) : Int := min (r.base + r.step * ((l.filter (counts r k)).length : Nat)) r.most
def rulOf (f : Fns) (k : Kn) : Rul := f.rules.getD k.kind.toNat ⟨0, 0, 0, 0⟩
/-- What one offence can have been, as far as some riders did it. -/
def hoursK (i : Int) (o : Off) (who : Nat) : List Kn := (List.range (o.hi - o.lo + 1).toNat).map fun h => ⟨i, o.kind, (who : Int), o.lo + ((h : Nat) : Int)⟩
def whoK (nr R : Nat) (i : Int) (o : Off) : List Kn := (List.range nr).flatMap fun who => if o.riders.toNat.testBit who && R.testBit who then hoursK i o who else []
def optsK (nr R : Nat) (i : Int) (o : Off) : List Kn := (if diff o.riders.toNat R = 0 then [] else [⟨i, o.kind, -1, 0⟩]) ++ whoK nr R i o
/-- What the offences of a kind can have been, from some number on. -/
def choL (nr : Nat) (kind : Int) (R : Nat) : Int → List Off → List (List Kn)
  | _, [] => [[]]
  | i, o :: t => if o.kind = kind then (optsK nr R i o).flatMap fun k => (choL nr kind R (i + 1) t).map (k :: ·) else choL nr kind R (i + 1) t
def choices (f : Fns) (kind : Int) (R : Nat) : List (List Kn) := choL f.riders.toNat kind R 0 f.list
/-- What is counted of some offences. -/
def tot (f : Fns) (cnt : Kn → Int → Int) (l : List Kn) : Int := ((l.filter fun k => decide (k.rider ≠ -1)).map fun k => cnt k (costK (rulOf f k) l k)).sum
def spanR (f : Fns) (kind : Int) (R : Nat) (cnt : Kn → Int → Int) : Int × Int := spanL ((choices f kind R).map (tot f cnt))
def addS (a b : Int × Int) : Int × Int := (a.1 + b.1, a.2 + b.2)
/-- The sum over all kinds, each at its first offence. -/
def sumGo (f : Fns) (R : Nat) (cnt : Kn → Int → Int) : List Int → Int × Int → List Off → Int × Int
  | _, s, [] => s
  | seen, s, o :: t => if seen.contains o.kind then sumGo f R cnt seen s t else sumGo f R cnt (o.kind :: seen) (addS s (spanR f o.kind R cnt)) t
def sumR (f : Fns) (R : Nat) (cnt : Kn → Int → Int) : Int × Int := sumGo f R cnt [] (0, 0) f.list
def cFined (r : Int) (k : Kn) (c : Int) : Int := if k.rider = r then c else 0
def cPaid (r p : Int) (k : Kn) (c : Int) : Int := if k.rider = r then c - c / 2 else if k.rider = p then c / 2 else 0
def cOne (n : Int) (k : Kn) (c : Int) : Int := if k.number = n then c else 0
def cEach (k : Kn) (c : Int) : Int := c
def partner (r : Int) : Int := if r % 2 = 0 then r + 1 else r - 1
def isRid (f : Fns) (r : Int) : Bool := inB r 0 (f.riders - 1)
def fineR (f : Fns) (r : Int) : (Int × Int) × Int := if goodFns f = false then ((0, 0), 1) else if isRid f r = false then ((0, 0), 2) else (sumR f (2 ^ r.toNat) (cFined r), 0)
def paysR (f : Fns) (r : Int) : (Int × Int) × Int := if goodFns f = false then ((0, 0), 1) else if isRid f r = false then ((0, 0), 2) else (sumR f (2 ^ r.toNat ||| 2 ^ (partner r).toNat) (cPaid r (partner r)), 0)
def totalR (f : Fns) : (Int × Int) × Int := if goodFns f = false then ((0, 0), 1) else (sumR f (2 ^ f.riders.toNat - 1) cEach, 0)
def setRid (f : Fns) (n : Nat) (who : Nat) : Fns := { f with list := f.list.modify n fun o => { o with riders := ((2 ^ who : Nat) : Int) } }
def hullS (a b : Int × Int) : Int × Int := (min a.1 b.1, max a.2 b.2)
def joinS : List (Int × Int) → Int × Int
  | [] => (0, 0)
  | a :: t => t.foldl hullS a
def costR (f : Fns) (n : Int) : (Int × Int) × Int := if goodFns f = false then ((0, 0), 1) else if inB n 0 (f.list.length - 1) = false then ((0, 0), 2) else
  (joinS (((List.range f.riders.toNat).filter fun who => (f.list.getD n.toNat ⟨0, 0, 0, 0⟩).riders.toNat.testBit who).map fun who => spanR (setRid f n.toNat who) (f.list.getD n.toNat ⟨0, 0, 0, 0⟩).kind (2 ^ who) (cOne n)), 0)
/-- All offences, if all is known. -/
def knownL : Int → List Off → List Int → List Int → List Kn
  | i, o :: t, r :: rs, h :: hs => ⟨i, o.kind, r, h⟩ :: knownL (i + 1) t rs hs
  | _, _, _, _ => []
def exactOk (f : Fns) (rs hs : List Int) : Bool := decide (rs.length = f.list.length) && decide (hs.length = f.list.length) && (rs.all fun r => isRid f r) && hs.all fun h => inB h 0 144
def exactR (f : Fns) (rs hs : List Int) : List Int × Int := if goodFns f = false then ([], 1) else if exactOk f rs hs = false then ([], 2) else
  ((knownL 0 f.list rs hs).map fun k => costK (rulOf f k) (knownL 0 f.list rs hs) k, 0)
/-- Without the offences of a set. -/
def dropB (set : Nat) : Nat → List Off → List Off
  | _, [] => []
  | i, o :: t => if set.testBit i then dropB set (i + 1) t else o :: dropB set (i + 1) t
def withoutF (f : Fns) (set : Nat) : Fns := { f with list := dropB set 0 f.list }
def card (n : Nat) : Nat := ((List.range 64).filter n.testBit).length
def dropGo (f : Fns) (r most : Int) (k : Nat) : Nat := (List.range k).foldl (fun best set => if card set < card best && decide ((sumR (withoutF f set) (2 ^ r.toNat) (cFined r)).2 ≤ most) then set else best) (2 ^ f.list.length - 1)
def withdrawR (f : Fns) (r most : Int) : Int × Int := if goodFns f = false then (0, 1) else if (isRid f r && decide (0 ≤ most)) = false then (0, 2) else (((dropGo f r most (2 ^ f.list.length) : Nat) : Int), 0)
def sampleF : Fns := ⟨[⟨10, 5, 18, 10⟩, ⟨4, 0, 4, 0⟩], 4, [⟨0, 1, 5, 5⟩, ⟨0, 3, 12, 14⟩, ⟨0, 1, 20, 20⟩, ⟨1, 12, 1, 1⟩]⟩
/-- A truth: who did each offence, and when. -/
def IsTruth (nr : Nat) : Int → List Off → List Kn → Prop
  | _, [], [] => True
  | i, o :: t, k :: l => (k.number = i ∧ k.kind = o.kind ∧ (∃ who : Nat, k.rider = (who : Int) ∧ who < nr ∧ o.riders.toNat.testBit who = true) ∧ o.lo ≤ k.hour ∧ k.hour ≤ o.hi) ∧ IsTruth nr (i + 1) t l
  | _, _, _ => False
/-- One known, as far as some riders did it. -/
def dim (R : Nat) (k : Kn) : Kn := if R.testBit k.rider.toNat then k else ⟨k.number, k.kind, -1, 0⟩
def restr (κ : Int) (R : Nat) (t : List Kn) : List Kn := (t.filter fun k => decide (k.kind = κ)).map (dim R)
theorem dim_kind (R : Nat) (k : Kn) : (dim R k).kind = k.kind := by unfold dim; split <;> rfl
theorem restr_cons (κ : Int) (R : Nat) (k : Kn) (t : List Kn) : restr κ R (k :: t) = if k.kind = κ then dim R k :: restr κ R t else restr κ R t := by
  unfold restr
  by_cases h : k.kind = κ
  · rw [if_pos h, List.filter_cons_of_pos (by simpa using h), List.map_cons]
  · rw [if_neg h, List.filter_cons_of_neg (by simpa using h)]
def U64o (o : Off) : Prop := 0 < o.riders.toNat ∧ o.riders.toNat < 64 ∧ o.lo ≤ o.hi
theorem testBit_lt {a i n : Nat} (h : a < 2 ^ n) (hi : a.testBit i = true) : i < n := by
  rcases Nat.lt_or_ge i n with h' | h'
  · exact h'
  · have := Nat.testBit_lt_two_pow (Nat.lt_of_lt_of_le h (Nat.pow_le_pow_right (by omega) h'))
    rw [this] at hi; cases hi
theorem diff_bit' {a b : Nat} (ha : a < 64) (hb : b < 64) (i : Nat) : (diff a b).testBit i = (a.testBit i && !b.testBit i) := by
  unfold diff
  rw [Nat.testBit_and]
  have h1 : (18446744073709551615 - b).testBit i = (decide (i < 64) && !b.testBit i) := by
    have h := @Nat.testBit_two_pow_sub_succ b 64 (by omega) i
    have e : (2 : Nat) ^ 64 - (b + 1) = 18446744073709551615 - b := by omega
    rw [e] at h; exact h
  rw [h1]
  cases hi : a.testBit i
  · rfl
  · have := testBit_lt (n := 6) ha hi
    simp; intro _; omega
theorem diff_zero' {a b : Nat} (ha : a < 64) (hb : b < 64) : diff a b = 0 ↔ ∀ i, a.testBit i = true → b.testBit i = true := by
  constructor
  · intro h i hi
    have := diff_bit' ha hb i
    rw [h, hi] at this; simpa using this
  · intro h
    refine Nat.eq_of_testBit_eq fun i => ?_
    rw [diff_bit' ha hb, Nat.zero_testBit]
    cases hi : a.testBit i
    · rfl
    · simp [h i hi]
theorem mem_hours {i : Int} {o : Off} {who : Nat} {k : Kn} : k ∈ hoursK i o who ↔ k.number = i ∧ k.kind = o.kind ∧ k.rider = (who : Int) ∧ o.lo ≤ k.hour ∧ k.hour ≤ o.hi := by
  unfold hoursK
  rw [List.mem_map]
  constructor
  · rintro ⟨h, hh, rfl⟩
    rw [List.mem_range] at hh
    exact ⟨rfl, rfl, rfl, by show o.lo ≤ o.lo + (h : Int); omega, by show o.lo + (h : Int) ≤ o.hi; omega⟩
  · rintro ⟨h1, h2, h3, h4, h5⟩
    refine ⟨(k.hour - o.lo).toNat, List.mem_range.2 (by omega), ?_⟩
    cases k
    simp only at h1 h2 h3 h4 h5
    subst h1; subst h2; subst h3
    simp only [Kn.mk.injEq, true_and]
    omega
theorem mem_who {nr R : Nat} {i : Int} {o : Off} {k : Kn} : k ∈ whoK nr R i o ↔ ∃ who, who < nr ∧ o.riders.toNat.testBit who = true ∧ R.testBit who = true ∧ k ∈ hoursK i o who := by
  unfold whoK
  rw [List.mem_flatMap]
  constructor
  · rintro ⟨who, h1, h2⟩
    rw [List.mem_range] at h1
    split at h2
    · rename_i h; rw [Bool.and_eq_true] at h; exact ⟨who, h1, h.1, h.2, h2⟩
    · cases h2
  · rintro ⟨who, h1, h2, h3, h4⟩
    exact ⟨who, List.mem_range.2 h1, by rw [h2, h3]; exact h4⟩
/-- What one truly was is one of what it can have been. -/
theorem dim_opt {nr R : Nat} {i : Int} {o : Off} {k : Kn} (ho : U64o o) (hR : R < 64) (h1 : k.number = i) (h2 : k.kind = o.kind) {who : Nat} (h3 : k.rider = (who : Int)) (h4 : who < nr) (h5 : o.riders.toNat.testBit who = true) (h6 : o.lo ≤ k.hour) (h7 : k.hour ≤ o.hi) : dim R k ∈ optsK nr R i o := by
  unfold dim optsK
  rw [h3, Int.toNat_natCast]
  cases hb : R.testBit who
  · have hd : diff o.riders.toNat R ≠ 0 := fun e => by
      have := (diff_zero' ho.2.1 hR).1 e who h5
      rw [hb] at this; cases this
    rw [if_neg hd, if_neg (by simp)]
    rw [h1, h2]; simp
  · rw [if_pos rfl, List.mem_append]
    exact .inr (mem_who.2 ⟨who, h4, h5, hb, mem_hours.2 ⟨h1, h2, h3, h6, h7⟩⟩)
/-- What one can have been, it was in some truth. -/
theorem opt_dim {nr R : Nat} {i : Int} {o : Off} {k : Kn} (ho : U64o o) (hn : o.riders.toNat < 2 ^ nr) (hR : R < 64) (h : k ∈ optsK nr R i o) :
    ∃ k' : Kn, (k'.number = i ∧ k'.kind = o.kind ∧ (∃ who : Nat, k'.rider = (who : Int) ∧ who < nr ∧ o.riders.toNat.testBit who = true) ∧ o.lo ≤ k'.hour ∧ k'.hour ≤ o.hi) ∧ dim R k' = k := by
  unfold optsK at h
  rw [List.mem_append] at h
  rcases h with h | h
  · split at h
    · cases h
    · rename_i hd
      rw [List.mem_singleton] at h
      subst h
      have : ∃ who, o.riders.toNat.testBit who = true ∧ R.testBit who = false := by
        apply Classical.byContradiction
        intro hno
        apply hd
        rw [diff_zero' ho.2.1 hR]
        intro j hj
        cases hb : R.testBit j
        · exact absurd ⟨j, hj, hb⟩ hno
        · rfl
      obtain ⟨who, hw1, hw2⟩ := this
      refine ⟨⟨i, o.kind, (who : Int), o.lo⟩, ⟨rfl, rfl, ⟨who, rfl, testBit_lt hn hw1, hw1⟩, Int.le_refl _, ho.2.2⟩, ?_⟩
      unfold dim
      rw [Int.toNat_natCast, hw2]; rfl
  · obtain ⟨who, h1, h2, h3, h4⟩ := mem_who.1 h
    obtain ⟨g1, g2, g3, g4, g5⟩ := mem_hours.1 h4
    refine ⟨k, ⟨g1, g2, ⟨who, g3, h1, h2⟩, g4, g5⟩, ?_⟩
    unfold dim
    rw [g3, Int.toNat_natCast, h3, if_pos rfl]
theorem opt_some {nr R : Nat} {i : Int} {o : Off} (ho : U64o o) (hn : o.riders.toNat < 2 ^ nr) (hR : R < 64) : ∃ k, k ∈ optsK nr R i o := by
  have : ∃ who, o.riders.toNat.testBit who = true := by
    apply Classical.byContradiction
    intro hno
    have : o.riders.toNat = 0 := Nat.eq_of_testBit_eq fun j => by
      rw [Nat.zero_testBit]
      cases hb : o.riders.toNat.testBit j
      · rfl
      · exact absurd ⟨j, hb⟩ hno
    have := ho.1; omega
  obtain ⟨who, hw⟩ := this
  exact ⟨_, dim_opt (k := ⟨i, o.kind, (who : Int), o.lo⟩) ho hR rfl rfl rfl (testBit_lt hn hw) hw (Int.le_refl _) ho.2.2⟩
theorem restr_mem {nr R : Nat} (hR : R < 64) (κ : Int) : ∀ (offs : List Off) (i : Int) (t : List Kn), (∀ o, o ∈ offs → U64o o) → IsTruth nr i offs t → restr κ R t ∈ choL nr κ R i offs
  | [], _, [], _, _ => by simp [restr, choL]
  | [], _, _ :: _, _, h => h.elim
  | _ :: _, _, [], _, h => h.elim
  | o :: offs, i, k :: t, ho, ⟨⟨h1, h2, ⟨who, h3, h4, h5⟩, h6, h7⟩, ht⟩ => by
    have ih := restr_mem hR κ offs (i + 1) t (fun o h => ho o (List.mem_cons_of_mem _ h)) ht
    rw [restr_cons, choL]
    by_cases hk : o.kind = κ
    · rw [if_pos (h2.trans hk), if_pos hk]
      exact List.mem_flatMap.2 ⟨_, dim_opt (ho o (List.mem_cons_self ..)) hR h1 h2 h3 h4 h5 h6 h7, List.mem_map.2 ⟨_, ih, rfl⟩⟩
    · rw [if_neg (fun e => hk (h2 ▸ e)), if_neg hk]
      exact ih
/-- Whatever the kinds were, each for itself, was so together. -/
theorem truth_of {nr R : Nat} (hR : R < 64) : ∀ (offs : List Off) (i : Int) (c : Int → List Kn), (∀ o, o ∈ offs → U64o o ∧ o.riders.toNat < 2 ^ nr) → (∀ κ, c κ ∈ choL nr κ R i offs) → ∃ t, IsTruth nr i offs t ∧ ∀ κ, restr κ R t = c κ
  | [], i, c, _, h => ⟨[], trivial, fun κ => by have := h κ; simp [choL] at this; simp [restr, this]⟩
  | o :: offs, i, c, ho, h => by
    have h0 := h o.kind
    rw [choL, if_pos rfl] at h0
    obtain ⟨k, hk, hk2⟩ := List.mem_flatMap.1 h0
    obtain ⟨l, hl, hl2⟩ := List.mem_map.1 hk2
    obtain ⟨t, ht, hr⟩ := truth_of hR offs (i + 1) (fun κ => if κ = o.kind then l else c κ) (fun o h => ho o (List.mem_cons_of_mem _ h)) (fun κ => by
      by_cases e : κ = o.kind
      · rw [if_pos e, e]; exact hl
      · rw [if_neg e]
        have := h κ
        rw [choL, if_neg (fun e2 => e e2.symm)] at this
        exact this)
    have hoo := ho o (List.mem_cons_self ..)
    obtain ⟨k', hk', hd⟩ := opt_dim hoo.1 hoo.2 hR hk
    refine ⟨k' :: t, ⟨hk', ht⟩, fun κ => ?_⟩
    rw [restr_cons, hr κ]
    by_cases e : k'.kind = κ
    · have e2 : κ = o.kind := by rw [← e]; exact hk'.2.1
      rw [if_pos e, if_pos e2, hd, e2]; exact hl2
    · rw [if_neg e, if_neg (fun e2 => e (by rw [e2]; exact hk'.2.1))]
theorem choL_some {nr R : Nat} (hR : R < 64) (κ : Int) : ∀ (offs : List Off) (i : Int), (∀ o, o ∈ offs → U64o o ∧ o.riders.toNat < 2 ^ nr) → ∃ l, l ∈ choL nr κ R i offs
  | [], _, _ => ⟨[], by simp [choL]⟩
  | o :: offs, i, ho => by
    obtain ⟨l, hl⟩ := choL_some hR κ offs (i + 1) (fun o h => ho o (List.mem_cons_of_mem _ h))
    rw [choL]
    by_cases hk : o.kind = κ
    · rw [if_pos hk]
      have hoo := ho o (List.mem_cons_self ..)
      obtain ⟨k, hk⟩ := opt_some (nr := nr) (i := i) hoo.1 hoo.2 hR
      exact ⟨k :: l, List.mem_flatMap.2 ⟨k, hk, List.mem_map.2 ⟨l, hl, rfl⟩⟩⟩
    · rw [if_neg hk]; exact ⟨l, hl⟩
/-- All that is counted in a truth. -/
def totT (f : Fns) (cnt : Kn → Int → Int) (t : List Kn) : Int := (t.map fun k => cnt k (costK (rulOf f k) t k)).sum
/-- What is counted of a kind in a truth. -/
def totK (f : Fns) (cnt : Kn → Int → Int) (t : List Kn) (κ : Int) : Int := ((t.filter fun k => decide (k.kind = κ)).map fun k => cnt k (costK (rulOf f k) t k)).sum
/-- Nothing is counted but of some riders. -/
def Loc (nr R : Nat) (cnt : Kn → Int → Int) : Prop := ∀ (k : Kn) (who : Nat) (c : Int), k.rider = (who : Int) → who < nr → R.testBit who = false → cnt k c = 0
def Riders (nr : Nat) (t : List Kn) : Prop := ∀ k, k ∈ t → ∃ who : Nat, k.rider = (who : Int) ∧ who < nr
theorem IsTruth.riders {nr : Nat} : ∀ (offs : List Off) (i : Int) (t : List Kn), IsTruth nr i offs t → Riders nr t
  | [], _, [], _ => fun k h => by cases h
  | [], _, _ :: _, h => h.elim
  | _ :: _, _, [], h => h.elim
  | o :: offs, i, k :: t, ⟨⟨h1, h2, ⟨who, h3, h4, _⟩, _⟩, ht⟩ => fun k' h => by
    rcases List.mem_cons.1 h with rfl | h
    · exact ⟨who, h3, h4⟩
    · exact IsTruth.riders offs (i + 1) t ht k' h
/-- Among some of a kind, or of some riders, as many count. -/
theorem counts_restr {nr R : Nat} {r : Rul} {k : Kn} {who : Nat} (hk : k.rider = (who : Int)) (hw : R.testBit who = true) : ∀ (t : List Kn), Riders nr t → ((restr k.kind R t).filter (counts r k)).length = (t.filter (counts r k)).length
  | [], _ => rfl
  | o :: t, hr => by
    have ih := counts_restr (r := r) hk hw t (fun k h => hr k (List.mem_cons_of_mem _ h))
    obtain ⟨wo, hwo, hwn⟩ := hr o (List.mem_cons_self ..)
    rw [restr_cons]
    by_cases h1 : o.kind = k.kind
    · rw [if_pos h1]
      cases hb : R.testBit wo
      · have e1 : dim R o = ⟨o.number, o.kind, -1, 0⟩ := by unfold dim; rw [hwo, Int.toNat_natCast, hb]; rfl
        have e2 : counts r k (dim R o) = false := by
          rw [e1]; unfold counts; rw [hk]
          simp
          try omega
        have e3 : counts r k o = false := by
          have : ¬ o.rider = k.rider := by
            rw [hwo, hk]; intro e
            have : wo = who := by omega
            rw [this, hw] at hb; cases hb
          unfold counts; simp [this]
        rw [List.filter_cons_of_neg (by simp [e2]), List.filter_cons_of_neg (by simp [e3])]
        exact ih
      · have e1 : dim R o = o := by unfold dim; rw [hwo, Int.toNat_natCast, hb]; rfl
        rw [e1]
        cases hc : counts r k o
        · rw [List.filter_cons_of_neg (by simp [hc]), List.filter_cons_of_neg (by simp [hc])]; exact ih
        · rw [List.filter_cons_of_pos hc, List.filter_cons_of_pos hc, List.length_cons, List.length_cons, ih]
    · rw [if_neg h1]
      have e3 : counts r k o = false := by unfold counts; simp [h1]
      rw [List.filter_cons_of_neg (by simp [e3])]
      exact ih
theorem cost_restr {nr R : Nat} (r : Rul) {k : Kn} {who : Nat} (hk : k.rider = (who : Int)) (hw : R.testBit who = true) {t : List Kn} (ht : Riders nr t) : costK r (restr k.kind R t) k = costK r t k := by
  unfold costK; rw [counts_restr hk hw t ht]
theorem totK_restr (f : Fns) {nr R : Nat} {cnt : Kn → Int → Int} (hl : Loc nr R cnt) {t : List Kn} (ht : Riders nr t) (κ : Int) : tot f cnt (restr κ R t) = totK f cnt t κ := by
  unfold tot totK
  have key : ∀ (u : List Kn), Riders nr u → (((restr κ R u).filter fun k => decide (k.rider ≠ -1)).map fun k => cnt k (costK (rulOf f k) (restr κ R t) k)).sum = ((u.filter fun k => decide (k.kind = κ)).map fun k => cnt k (costK (rulOf f k) t k)).sum := by
    intro u hu
    induction u with
    | nil => rfl
    | cons o u ih =>
      have ih := ih (fun k h => hu k (List.mem_cons_of_mem _ h))
      obtain ⟨wo, hwo, hwn⟩ := hu o (List.mem_cons_self ..)
      rw [restr_cons]
      by_cases h1 : o.kind = κ
      · have eR : (o :: u).filter (fun k => decide (k.kind = κ)) = o :: u.filter (fun k => decide (k.kind = κ)) := List.filter_cons_of_pos (by simpa using h1)
        rw [if_pos h1, eR, List.map_cons, List.sum_cons, ← ih]
        cases hb : R.testBit wo
        · have e1 : dim R o = ⟨o.number, o.kind, -1, 0⟩ := by unfold dim; rw [hwo, Int.toNat_natCast, hb]; rfl
          rw [e1, List.filter_cons_of_neg (by simp), hl o wo _ hwo hwn hb]
          omega
        · have e1 : dim R o = o := by unfold dim; rw [hwo, Int.toNat_natCast, hb]; rfl
          rw [e1, List.filter_cons_of_pos (by rw [hwo]; simp <;> omega), List.map_cons, List.sum_cons]
          have e2 := cost_restr (rulOf f o) hwo hb ht
          rw [h1] at e2
          rw [e2]
      · rw [if_neg h1, List.filter_cons_of_neg (by simpa using h1)]; exact ih
  exact key t ht
/-! The sum over all kinds. -/
/-- Sum over the kinds of offences, each at its first one. -/
def kindsGo (g : Int → Int) : List Int → List Off → Int
  | _, [] => 0
  | seen, o :: t => if seen.contains o.kind then kindsGo g seen t else g o.kind + kindsGo g (o.kind :: seen) t
theorem sumGo_kinds (f : Fns) (R : Nat) (cnt : Kn → Int → Int) : ∀ (offs : List Off) (seen : List Int) (s : Int × Int), sumGo f R cnt seen s offs = (s.1 + kindsGo (fun κ => (spanR f κ R cnt).1) seen offs, s.2 + kindsGo (fun κ => (spanR f κ R cnt).2) seen offs)
  | [], seen, s => by simp [sumGo, kindsGo]
  | o :: t, seen, s => by
    unfold sumGo kindsGo
    by_cases h : seen.contains o.kind = true
    · rw [if_pos h, if_pos h, if_pos h]; exact sumGo_kinds f R cnt t seen s
    · rw [if_neg h, if_neg h, if_neg h, sumGo_kinds f R cnt t]
      unfold addS
      exact Prod.ext (by simp only []; omega) (by simp only []; omega)
theorem kinds_le {g h : Int → Int} (hg : ∀ κ, g κ ≤ h κ) : ∀ (offs : List Off) (seen : List Int), kindsGo g seen offs ≤ kindsGo h seen offs
  | [], _ => by simp [kindsGo]
  | o :: t, seen => by
    unfold kindsGo
    by_cases hs : seen.contains o.kind = true
    · rw [if_pos hs, if_pos hs]; exact kinds_le hg t seen
    · rw [if_neg hs, if_neg hs]
      have := kinds_le hg t (o.kind :: seen)
      have := hg o.kind
      omega
/-- Of what is of no kind that was seen. -/
def rest (seen : List Int) (t : List Kn) : List Kn := t.filter fun k => !seen.contains k.kind
theorem kinds_sum (v : Kn → Int) : ∀ (offs : List Off) (seen : List Int) (u : List Kn), (∀ k, k ∈ u → seen.contains k.kind = true ∨ ∃ o, o ∈ offs ∧ o.kind = k.kind) →
    kindsGo (fun κ => ((u.filter fun k => decide (k.kind = κ)).map v).sum) seen offs = ((rest seen u).map v).sum
  | [], seen, u, h => by
    have : rest seen u = [] := by
      unfold rest
      rw [List.filter_eq_nil_iff]
      intro k hk
      rcases h k hk with h | ⟨o, ho, _⟩
      · simpa using h
      · cases ho
    rw [this]; rfl
  | o :: t, seen, u, h => by
    unfold kindsGo
    by_cases hs : seen.contains o.kind = true
    · rw [if_pos hs]
      refine kinds_sum v t seen u fun k hk => ?_
      rcases h k hk with h | ⟨o', ho', he⟩
      · exact .inl h
      · rcases List.mem_cons.1 ho' with rfl | ho'
        · exact .inl (he ▸ hs)
        · exact .inr ⟨o', ho', he⟩
    · rw [if_neg hs]
      rw [kinds_sum v t (o.kind :: seen) u fun k hk => ?_]
      · have split : ∀ (w : List Kn), ((w.filter fun k => decide (k.kind = o.kind)).map v).sum + ((rest (o.kind :: seen) w).map v).sum = ((rest seen w).map v).sum := by
          intro w
          induction w with
          | nil => rfl
          | cons k w ih =>
            unfold rest at ih ⊢
            by_cases hk : k.kind = o.kind
            · have e1 : seen.contains k.kind = false := by rw [hk]; simpa using hs
              rw [List.filter_cons_of_pos (by simpa using hk), List.filter_cons_of_neg (by simp [hk]), List.filter_cons_of_pos (by rw [e1]; rfl), List.map_cons, List.sum_cons, List.map_cons, List.sum_cons]
              omega
            · rw [List.filter_cons_of_neg (by simpa using hk)]
              cases hc : seen.contains k.kind
              · rw [List.filter_cons_of_pos (by simp [hk] at hc ⊢; exact hc), List.filter_cons_of_pos (by simp at hc ⊢; exact hc), List.map_cons, List.sum_cons, List.map_cons, List.sum_cons]
                omega
              · rw [List.filter_cons_of_neg (by simp at hc ⊢; exact fun _ => hc), List.filter_cons_of_neg (by simp at hc ⊢; exact hc)]
                exact ih
        exact split u
      · rcases h k hk with h | ⟨o', ho', he⟩
        · exact .inl (by simp at h ⊢; exact .inr h)
        · rcases List.mem_cons.1 ho' with rfl | ho'
          · exact .inl (by simp [he])
          · exact .inr ⟨o', ho', he⟩
theorem IsTruth.kinds {nr : Nat} : ∀ (offs : List Off) (i : Int) (t : List Kn), IsTruth nr i offs t → ∀ k, k ∈ t → ∃ o, o ∈ offs ∧ o.kind = k.kind
  | [], _, [], _ => fun k h => by cases h
  | [], _, _ :: _, h => h.elim
  | _ :: _, _, [], h => h.elim
  | o :: offs, i, k :: t, ⟨⟨h1, h2, _⟩, ht⟩ => fun k' h => by
    rcases List.mem_cons.1 h with rfl | h
    · exact ⟨o, List.mem_cons_self .., h2.symm⟩
    · obtain ⟨o', ho', he⟩ := IsTruth.kinds offs (i + 1) t ht k' h
      exact ⟨o', List.mem_cons_of_mem _ ho', he⟩
theorem totT_kinds (f : Fns) {cnt : Kn → Int → Int} {nr : Nat} {offs : List Off} {i : Int} {t : List Kn} (ht : IsTruth nr i offs t) : totT f cnt t = kindsGo (totK f cnt t) [] offs := by
  have h := kinds_sum (fun k => cnt k (costK (rulOf f k) t k)) offs [] t (fun k hk => .inr (ht.kinds offs i t k hk))
  have e : rest [] t = t := by unfold rest; simp
  rw [e] at h
  exact h.symm
theorem foldl_minmax (l : List Int) : ∀ a b : Int, (l.foldl min a ≤ a ∧ (l.foldl min a = a ∨ l.foldl min a ∈ l) ∧ ∀ x, x ∈ l → l.foldl min a ≤ x) ∧ (b ≤ l.foldl max b ∧ (l.foldl max b = b ∨ l.foldl max b ∈ l) ∧ ∀ x, x ∈ l → x ≤ l.foldl max b) := by
  induction l with
  | nil => intro a b; simp
  | cons c l ih =>
    intro a b
    obtain ⟨⟨h1, h2, h3⟩, h4, h5, h6⟩ := ih (min a c) (max b c)
    simp only [List.foldl_cons, List.mem_cons]
    refine ⟨⟨by omega, ?_, ?_⟩, by omega, ?_, ?_⟩
    · rcases h2 with h | h
      · rw [h]; rcases Int.le_total a c with hh | hh
        · left; omega
        · right; left; omega
      · exact .inr (.inr h)
    · rintro x (rfl | hx)
      · omega
      · exact h3 x hx
    · rcases h5 with h | h
      · rw [h]; rcases Int.le_total b c with hh | hh
        · right; left; omega
        · left; omega
      · exact .inr (.inr h)
    · rintro x (rfl | hx)
      · omega
      · exact h6 x hx
theorem spanL_both {α : Type} {L : List α} (h : L ≠ []) (f : α → Int) : ∃ l1, l1 ∈ L ∧ ∃ l2, l2 ∈ L ∧ (spanL (L.map f)).1 = f l1 ∧ (spanL (L.map f)).2 = f l2 ∧ ∀ l, l ∈ L → (spanL (L.map f)).1 ≤ f l ∧ f l ≤ (spanL (L.map f)).2 := by
  cases L with
  | nil => exact absurd rfl h
  | cons a L =>
    simp only [List.map_cons, spanL]
    obtain ⟨⟨h1, h2, h3⟩, h4, h5, h6⟩ := foldl_minmax (L.map f) (f a) (f a)
    have e1 : ∃ l1, l1 ∈ a :: L ∧ List.foldl min (f a) (L.map f) = f l1 := by
      rcases h2 with h | h
      · exact ⟨a, List.mem_cons_self .., h⟩
      · obtain ⟨x, hx, he⟩ := List.mem_map.1 h
        exact ⟨x, List.mem_cons_of_mem _ hx, he.symm⟩
    have e2 : ∃ l1, l1 ∈ a :: L ∧ List.foldl max (f a) (L.map f) = f l1 := by
      rcases h5 with h | h
      · exact ⟨a, List.mem_cons_self .., h⟩
      · obtain ⟨x, hx, he⟩ := List.mem_map.1 h
        exact ⟨x, List.mem_cons_of_mem _ hx, he.symm⟩
    obtain ⟨l1, g1, g2⟩ := e1
    obtain ⟨l2, g3, g4⟩ := e2
    refine ⟨l1, g1, l2, g3, g2, g4, fun l hl => ?_⟩
    rcases List.mem_cons.1 hl with rfl | hl
    · exact ⟨h1, h4⟩
    · exact ⟨h3 _ (List.mem_map_of_mem hl), h6 _ (List.mem_map_of_mem hl)⟩
def Sound (f : Fns) : Prop := (∀ o, o ∈ f.list → U64o o ∧ o.riders.toNat < 2 ^ f.riders.toNat)
def Truth (f : Fns) (t : List Kn) : Prop := IsTruth f.riders.toNat 0 f.list t
/-- Both ends of a sum are those of a truth, and no truth is beyond them. -/
theorem sum_ends {f : Fns} (hf : Sound f) {R : Nat} (hR : R < 64) {cnt : Kn → Int → Int} (hl : Loc f.riders.toNat R cnt) :
    (∃ t, Truth f t ∧ (sumR f R cnt).1 = totT f cnt t) ∧ (∃ t, Truth f t ∧ (sumR f R cnt).2 = totT f cnt t) ∧ ∀ t, Truth f t → (sumR f R cnt).1 ≤ totT f cnt t ∧ totT f cnt t ≤ (sumR f R cnt).2 := by
  have hne : ∀ κ, choices f κ R ≠ [] := fun κ e => by
    obtain ⟨l, hl⟩ := choL_some hR κ f.list 0 hf
    have : l ∈ choices f κ R := hl
    rw [e] at this; cases this
  have hs := sumGo_kinds f R cnt f.list [] (0, 0)
  have h1 : (sumR f R cnt).1 = kindsGo (fun κ => (spanR f κ R cnt).1) [] f.list := by unfold sumR; rw [hs]; simp
  have h2 : (sumR f R cnt).2 = kindsGo (fun κ => (spanR f κ R cnt).2) [] f.list := by unfold sumR; rw [hs]; simp
  have hb := fun κ => spanL_both (hne κ) (tot f cnt)
  have hlo : ∀ κ, ∃ l, l ∈ choices f κ R ∧ (spanR f κ R cnt).1 = tot f cnt l := fun κ => by
    obtain ⟨l1, a1, l2, a2, a3, a4, a5⟩ := hb κ; exact ⟨l1, a1, a3⟩
  have hhi : ∀ κ, ∃ l, l ∈ choices f κ R ∧ (spanR f κ R cnt).2 = tot f cnt l := fun κ => by
    obtain ⟨l1, a1, l2, a2, a3, a4, a5⟩ := hb κ; exact ⟨l2, a2, a4⟩
  have hex : ∀ (g : Int → Int), (∀ κ, ∃ l, l ∈ choices f κ R ∧ g κ = tot f cnt l) → ∃ t, Truth f t ∧ kindsGo g [] f.list = totT f cnt t := fun g hg => by
    obtain ⟨c, hc⟩ := Classical.axiomOfChoice hg
    obtain ⟨t, ht, hr⟩ := truth_of hR f.list 0 c hf (fun κ => (hc κ).1)
    refine ⟨t, ht, ?_⟩
    rw [totT_kinds f ht]
    congr 1
    funext κ
    rw [(hc κ).2, ← hr κ, totK_restr f hl (ht.riders f.list 0 t)]
  rw [h1, h2]
  refine ⟨hex _ hlo, hex _ hhi, fun t ht => ?_⟩
  rw [totT_kinds f ht]
  have hk : ∀ κ, (spanR f κ R cnt).1 ≤ totK f cnt t κ ∧ totK f cnt t κ ≤ (spanR f κ R cnt).2 := fun κ => by
    obtain ⟨l1, a1, l2, a2, a3, a4, a5⟩ := hb κ
    have := a5 _ (restr_mem hR κ f.list 0 t (fun o h => (hf o h).1) ht)
    rw [totK_restr f hl (IsTruth.riders f.list 0 t ht)] at this
    exact this
  exact ⟨kinds_le (fun κ => (hk κ).1) _ _, kinds_le (fun κ => (hk κ).2) _ _⟩
theorem IsTruth.length {nr : Nat} : ∀ (offs : List Off) (i : Int) (t : List Kn), IsTruth nr i offs t → t.length = offs.length
  | [], _, [], _ => rfl
  | [], _, _ :: _, h => h.elim
  | _ :: _, _, [], h => h.elim
  | o :: offs, i, k :: t, ⟨_, ht⟩ => by rw [List.length_cons, List.length_cons, IsTruth.length offs (i + 1) t ht]
theorem IsTruth.at {nr : Nat} : ∀ (offs : List Off) (i : Int) (t : List Kn), IsTruth nr i offs t → ∀ (n : Nat) (k : Kn) (o : Off), t[n]? = some k → offs[n]? = some o → k.number = i + n ∧ k.kind = o.kind ∧ (∃ who : Nat, k.rider = (who : Int) ∧ who < nr ∧ o.riders.toNat.testBit who = true) ∧ o.lo ≤ k.hour ∧ k.hour ≤ o.hi
  | [], _, _, _, n, k, o, _, h => by simp at h
  | _ :: _, _, [], h, _, _, _, _, _ => h.elim
  | o :: offs, i, k :: t, ⟨h, ht⟩, 0, k', o', hk, ho => by
    simp at hk ho; subst hk; subst ho
    exact ⟨by rw [h.1]; simp, h.2⟩
  | o :: offs, i, k :: t, ⟨_, ht⟩, n + 1, k', o', hk, ho => by
    have := IsTruth.at offs (i + 1) t ht n k' o' (by simpa using hk) (by simpa using ho)
    exact ⟨by rw [this.1]; push_cast; omega, this.2⟩
theorem IsTruth.of {nr : Nat} : ∀ (offs : List Off) (i : Int) (t : List Kn), t.length = offs.length → (∀ (n : Nat) (k : Kn) (o : Off), t[n]? = some k → offs[n]? = some o → k.number = i + n ∧ k.kind = o.kind ∧ (∃ who : Nat, k.rider = (who : Int) ∧ who < nr ∧ o.riders.toNat.testBit who = true) ∧ o.lo ≤ k.hour ∧ k.hour ≤ o.hi) → IsTruth nr i offs t
  | [], _, [], _, _ => trivial
  | [], _, _ :: _, h, _ => by simp at h
  | _ :: _, _, [], h, _ => by simp at h
  | o :: offs, i, k :: t, h, hall => by
    have h0 := hall 0 k o rfl rfl
    refine ⟨⟨by simpa using h0.1, h0.2⟩, IsTruth.of offs (i + 1) t (by simpa using h) fun n k' o' hk ho => ?_⟩
    have := hall (n + 1) k' o' (by simpa using hk) (by simpa using ho)
    exact ⟨by rw [this.1]; push_cast; omega, this.2⟩
/-- Just one offence has a number. -/
theorem IsTruth.one {nr : Nat} {offs : List Off} {i : Int} {t : List Kn} (ht : IsTruth nr i offs t) (v : Kn → Int) : ∀ (n : Nat) (k : Kn), t[n]? = some k → ((t.map fun x => if x.number = i + n then v x else 0).sum) = v k := by
  intro n k hk
  have key : ∀ (u : List Kn) (m : Nat), (∀ (j : Nat) (x : Kn), u[j]? = some x → x.number = i + m + j) → ∀ (n : Nat) (k : Kn), u[n]? = some k → (u.map fun x => if x.number = i + m + n then v x else 0).sum = v k := by
    intro u
    induction u with
    | nil => intro m _ n k h; simp at h
    | cons a u ih =>
      intro m hm n k hk
      have h0 := hm 0 a rfl
      have hz : ∀ (w : List Kn) (q : Int), (∀ (j : Nat) (x : Kn), w[j]? = some x → x.number ≠ q) → (w.map fun x => if x.number = q then v x else 0).sum = 0 := by
        intro w q
        induction w with
        | nil => intro _; rfl
        | cons b w ihw =>
          intro hw
          rw [List.map_cons, List.sum_cons, ihw (fun j x hx => hw (j + 1) x (by simpa using hx)), if_neg (hw 0 b rfl)]; rfl
      cases n with
      | zero =>
        simp at hk; subst hk
        rw [List.map_cons, List.sum_cons, if_pos (by rw [h0]), hz]
        · omega
        · intro j x hx
          have := hm (j + 1) x (by simpa using hx)
          rw [this]; push_cast; omega
      | succ n =>
        rw [List.map_cons, List.sum_cons, if_neg (by rw [h0]; push_cast; omega)]
        have := ih (m + 1) (fun j x hx => by
          have := hm (j + 1) x (by simpa using hx)
          rw [this]; push_cast; omega) n k (by simpa using hk)
        have e : i + ((m + 1 : Nat) : Int) + (n : Int) = i + (m : Int) + ((n + 1 : Nat) : Int) := by push_cast; omega
        rw [e] at this
        rw [this]; omega
  have := key t 0 (fun j x hx => by
    have hl := (List.getElem?_eq_some_iff.1 hx).1
    have hlen := ht.length
    have := ht.at _ _ _ j x offs[j] hx (List.getElem?_eq_getElem (by omega))
    rw [this.1]; simp) n k hk
  simpa using this
/-- What offence n costs in a truth. -/
def costT (f : Fns) (t : List Kn) (n : Nat) : Int := costK (rulOf f (t.getD n ⟨0, 0, 0, 0⟩)) t (t.getD n ⟨0, 0, 0, 0⟩)
theorem totK_one (f : Fns) {t : List Kn} (ht : Truth f t) {n : Nat} {k : Kn} (hk : t[n]? = some k) : totK f (cOne (n : Int)) t k.kind = costT f t n := by
  have h1 := IsTruth.one ht (fun x => if x.kind = k.kind then costK (rulOf f x) t x else 0) n k hk
  have e : t.getD n ⟨0, 0, 0, 0⟩ = k := by simp [List.getD, hk]
  unfold costT
  rw [e]
  simp only [if_true] at h1
  rw [← h1]
  unfold totK
  have key : ∀ (u : List Kn) (g : Kn → Int), ((u.filter fun x => decide (x.kind = k.kind)).map fun x => cOne (n : Int) x (g x)).sum = (u.map fun x => if x.number = 0 + (n : Int) then (if x.kind = k.kind then g x else 0) else 0).sum := by
    intro u g
    induction u with
    | nil => rfl
    | cons a u ih =>
      rw [List.map_cons, List.sum_cons]
      by_cases ha : a.kind = k.kind
      · rw [List.filter_cons_of_pos (by simpa using ha), List.map_cons, List.sum_cons, ih, if_pos ha]
        unfold cOne; simp
      · rw [List.filter_cons_of_neg (by simpa using ha), ih, if_neg ha]
        simp
  exact key t _
/-- The least of spans, and the greatest. -/
theorem join_ends : ∀ (l : List (Int × Int)), l ≠ [] → (∃ a, a ∈ l ∧ (joinS l).1 = a.1) ∧ (∃ a, a ∈ l ∧ (joinS l).2 = a.2) ∧ ∀ a, a ∈ l → (joinS l).1 ≤ a.1 ∧ a.2 ≤ (joinS l).2
  | [], h => absurd rfl h
  | a :: t, _ => by
    have key : ∀ (t : List (Int × Int)) (a : Int × Int), (t.foldl hullS a).1 = (t.map (·.1)).foldl min a.1 ∧ (t.foldl hullS a).2 = (t.map (·.2)).foldl max a.2 := by
      intro t
      induction t with
      | nil => intro a; exact ⟨rfl, rfl⟩
      | cons b t ih => intro a; exact ih (hullS a b)
    obtain ⟨k1, k2⟩ := key t a
    obtain ⟨⟨h1, h2, h3⟩, h4, h5, h6⟩ := foldl_minmax (t.map (·.1)) a.1 a.1
    obtain ⟨⟨g1, g2, g3⟩, g4, g5, g6⟩ := foldl_minmax (t.map (·.2)) a.2 a.2
    unfold joinS
    rw [k1, k2]
    refine ⟨?_, ?_, fun b hb => ?_⟩
    · rcases h2 with h | h
      · exact ⟨a, List.mem_cons_self .., h⟩
      · obtain ⟨x, hx, he⟩ := List.mem_map.1 h; exact ⟨x, List.mem_cons_of_mem _ hx, he.symm⟩
    · rcases g5 with h | h
      · exact ⟨a, List.mem_cons_self .., h⟩
      · obtain ⟨x, hx, he⟩ := List.mem_map.1 h; exact ⟨x, List.mem_cons_of_mem _ hx, he.symm⟩
    · rcases List.mem_cons.1 hb with rfl | hb
      · exact ⟨h1, g4⟩
      · exact ⟨h3 _ (List.mem_map_of_mem hb), g6 _ (List.mem_map_of_mem hb)⟩
theorem setRid_get (f : Fns) (n who m : Nat) : (setRid f n who).list[m]? = if m = n then (f.list[m]?).map (fun o => { o with riders := ((2 ^ who : Nat) : Int) }) else f.list[m]? := by
  unfold setRid
  simp only [List.getElem?_modify]
  by_cases h : n = m
  · subst h; simp
  · simp [h, show ¬ m = n from fun e => h e.symm]
theorem truth_set {f : Fns} {n who : Nat} {t : List Kn} {k : Kn} (hk : t[n]? = some k) (ho : ∀ o, f.list[n]? = some o → o.riders.toNat.testBit who = true) (hw : who < f.riders.toNat) :
    Truth (setRid f n who) t ↔ Truth f t ∧ k.rider = (who : Int) := by
  have hll : (setRid f n who).list.length = f.list.length := by simp [setRid]
  constructor
  · intro h
    have hlen := IsTruth.length _ _ _ h
    refine ⟨IsTruth.of _ _ _ (by rw [← hll]; exact hlen) fun m x o hx hxo => ?_, ?_⟩
    · by_cases hm : m = n
      · subst hm
        have := IsTruth.at _ _ _ h m x { o with riders := ((2 ^ who : Nat) : Int) } hx (by rw [setRid_get, if_pos rfl, hxo]; rfl)
        obtain ⟨a1, a2, ⟨w, a3, a4, a5⟩, a6, a7⟩ := this
        refine ⟨a1, a2, ⟨w, a3, a4, ?_⟩, a6, a7⟩
        have a5 : (2 ^ who).testBit w = true := by rw [← Int.toNat_natCast (2 ^ who)]; exact a5
        rw [Nat.testBit_two_pow] at a5
        have : who = w := by simpa using a5
        rw [← this]; exact ho o hxo
      · exact IsTruth.at _ _ _ h m x o hx (by rw [setRid_get, if_neg hm]; exact hxo)
    · have hl := (List.getElem?_eq_some_iff.1 hk).1
      obtain ⟨o, hxo⟩ : ∃ o, f.list[n]? = some o := ⟨f.list[n]'(by omega), List.getElem?_eq_getElem (by omega)⟩
      have := IsTruth.at _ _ _ h n k { o with riders := ((2 ^ who : Nat) : Int) } hk (by rw [setRid_get, if_pos rfl, hxo]; rfl)
      obtain ⟨a1, a2, ⟨w, a3, a4, a5⟩, a6, a7⟩ := this
      have a5 : (2 ^ who).testBit w = true := by rw [← Int.toNat_natCast (2 ^ who)]; exact a5
      rw [Nat.testBit_two_pow] at a5
      have : who = w := by simpa using a5
      rw [a3, this]
  · rintro ⟨h, hr⟩
    have hlen := IsTruth.length _ _ _ h
    refine IsTruth.of _ _ _ (by rw [hll]; exact hlen) fun m x o hx hxo => ?_
    rw [setRid_get] at hxo
    by_cases hm : m = n
    · subst hm
      rw [if_pos rfl] at hxo
      cases ho' : f.list[m]? with
      | none => rw [ho'] at hxo; cases hxo
      | some o' =>
        rw [ho'] at hxo
        simp only [Option.map_some, Option.some.injEq] at hxo
        subst hxo
        obtain ⟨a1, a2, ⟨w, a3, a4, a5⟩, a6, a7⟩ := IsTruth.at _ _ _ h m x o' hx ho'
        rw [hx] at hk; cases hk
        refine ⟨a1, a2, ⟨who, hr, hw, ?_⟩, a6, a7⟩
        show (((2 ^ who : Nat) : Int)).toNat.testBit who = true
        rw [Int.toNat_natCast, Nat.testBit_two_pow]; simp
    · rw [if_neg hm] at hxo
      exact IsTruth.at _ _ _ h m x o hx hxo
theorem sound_set {f : Fns} (hf : Sound f) {n who : Nat} (hw : who < f.riders.toNat) (h6 : f.riders.toNat ≤ 6) : Sound (setRid f n who) := by
  intro o ho
  obtain ⟨m, hm⟩ := List.mem_iff_getElem?.1 ho
  rw [setRid_get] at hm
  by_cases h : m = n
  · rw [if_pos h] at hm
    cases ho' : f.list[m]? with
    | none => rw [ho'] at hm; cases hm
    | some o' =>
      rw [ho'] at hm
      simp only [Option.map_some, Option.some.injEq] at hm
      subst hm
      have := hf o' (List.mem_of_getElem? ho')
      have h2 : 2 ^ who < 2 ^ f.riders.toNat := Nat.pow_lt_pow_right (by omega) hw
      have h3 : 2 ^ f.riders.toNat ≤ 2 ^ 6 := Nat.pow_le_pow_right (by omega) h6
      refine ⟨⟨?_, ?_, this.1.2.2⟩, ?_⟩
      · show 0 < (((2 ^ who : Nat) : Int)).toNat
        rw [Int.toNat_natCast]; exact Nat.two_pow_pos _
      · show (((2 ^ who : Nat) : Int)).toNat < 64
        rw [Int.toNat_natCast]; omega
      · show (((2 ^ who : Nat) : Int)).toNat < 2 ^ f.riders.toNat
        rw [Int.toNat_natCast]; exact h2
  · rw [if_neg h] at hm
    exact hf o (List.mem_of_getElem? hm)
/-- Both ends of a cost are those of a truth, and no truth is beyond them. -/
theorem cost_ends {f : Fns} (hf : Sound f) (h6 : f.riders.toNat ≤ 6) {n : Nat} (hn : n < f.list.length) :
    (∃ t, Truth f t ∧ (joinS (((List.range f.riders.toNat).filter fun who => (f.list.getD n ⟨0, 0, 0, 0⟩).riders.toNat.testBit who).map fun who => spanR (setRid f n who) (f.list.getD n ⟨0, 0, 0, 0⟩).kind (2 ^ who) (cOne n))).1 = costT f t n) ∧
    (∃ t, Truth f t ∧ (joinS (((List.range f.riders.toNat).filter fun who => (f.list.getD n ⟨0, 0, 0, 0⟩).riders.toNat.testBit who).map fun who => spanR (setRid f n who) (f.list.getD n ⟨0, 0, 0, 0⟩).kind (2 ^ who) (cOne n))).2 = costT f t n) ∧
    ∀ t, Truth f t → (joinS (((List.range f.riders.toNat).filter fun who => (f.list.getD n ⟨0, 0, 0, 0⟩).riders.toNat.testBit who).map fun who => spanR (setRid f n who) (f.list.getD n ⟨0, 0, 0, 0⟩).kind (2 ^ who) (cOne n))).1 ≤ costT f t n ∧
      costT f t n ≤ (joinS (((List.range f.riders.toNat).filter fun who => (f.list.getD n ⟨0, 0, 0, 0⟩).riders.toNat.testBit who).map fun who => spanR (setRid f n who) (f.list.getD n ⟨0, 0, 0, 0⟩).kind (2 ^ who) (cOne n))).2 := by
  have hon : f.list[n]? = some f.list[n] := List.getElem?_eq_getElem hn
  have hgd : f.list.getD n ⟨0, 0, 0, 0⟩ = f.list[n] := by simp [List.getD, hn]
  rw [hgd]
  obtain ⟨o, ho⟩ : ∃ o, f.list[n] = o := ⟨_, rfl⟩
  rw [ho] at hon ⊢
  have hso := hf o (List.mem_of_getElem? hon)
  -- one rider
  have one : ∀ who, who < f.riders.toNat → o.riders.toNat.testBit who = true →
      (∃ t, Truth f t ∧ (spanR (setRid f n who) o.kind (2 ^ who) (cOne n)).1 = costT f t n) ∧ (∃ t, Truth f t ∧ (spanR (setRid f n who) o.kind (2 ^ who) (cOne n)).2 = costT f t n) ∧
      ∀ t k, Truth f t → t[n]? = some k → k.rider = (who : Int) → (spanR (setRid f n who) o.kind (2 ^ who) (cOne n)).1 ≤ costT f t n ∧ costT f t n ≤ (spanR (setRid f n who) o.kind (2 ^ who) (cOne n)).2 := by
    intro who hw hb
    have hs := sound_set (n := n) hf hw h6
    have h2 : 2 ^ who < 64 := by
      have h2 : 2 ^ who < 2 ^ f.riders.toNat := Nat.pow_lt_pow_right (by omega) hw
      have h3 : 2 ^ f.riders.toNat ≤ 2 ^ 6 := Nat.pow_le_pow_right (by omega) h6
      omega
    have hbo : ∀ o', f.list[n]? = some o' → o'.riders.toNat.testBit who = true := fun o' e => by rw [hon] at e; cases e; exact hb
    have val : ∀ t, Truth (setRid f n who) t → tot (setRid f n who) (cOne n) (restr o.kind (2 ^ who) t) = costT f t n := by
      intro t ht
      have hl := IsTruth.length _ _ _ ht
      have hll : (setRid f n who).list.length = f.list.length := by simp [setRid]
      obtain ⟨k, hk⟩ : ∃ k, t[n]? = some k := ⟨t[n]'(by omega), List.getElem?_eq_getElem (by omega)⟩
      have htf := (truth_set hk hbo hw).1 ht
      have hkk := (IsTruth.at _ _ _ htf.1 n k o hk hon).2.1
      have hr := IsTruth.riders _ _ _ ht
      -- only offence n is counted, and its rider is who
      have e1 : tot (setRid f n who) (cOne n) (restr o.kind (2 ^ who) t) = totK (setRid f n who) (fun x c => if x.rider = (who : Int) then cOne n x c else 0) t o.kind := by
        rw [← totK_restr (setRid f n who) (R := 2 ^ who) (fun x w c hx hwn hb => ?_) hr o.kind]
        · unfold tot
          refine congrArg List.sum (List.map_congr_left fun x hx => ?_)
          obtain ⟨hx1, hx2⟩ := List.mem_filter.1 hx
          have hx3 : x.rider ≠ -1 := by simpa using hx2
          unfold restr at hx1
          obtain ⟨y, hy, rfl⟩ := List.mem_map.1 hx1
          obtain ⟨wy, hwy, _⟩ := hr y (List.mem_filter.1 hy).1
          have : (dim (2 ^ who) y).rider = (who : Int) := by
            unfold dim at hx3 ⊢
            rw [hwy, Int.toNat_natCast] at hx3 ⊢
            cases hb : (2 ^ who).testBit wy
            · rw [hb] at hx3; simp at hx3
            · rw [Nat.testBit_two_pow] at hb
              have : who = wy := by simpa using hb
              simp [hwy, this]
          show _ = if _ then _ else _
          rw [if_pos this]
        · rw [Nat.testBit_two_pow] at hb
          have : ¬ who = w := by simpa using hb
          show (if _ then _ else _) = _
          rw [if_neg (by rw [hx]; omega)]
      rw [e1]
      have e2 : totK (setRid f n who) (fun x c => if x.rider = (who : Int) then cOne n x c else 0) t o.kind = totK f (cOne n) t o.kind := by
        unfold totK
        refine congrArg List.sum (List.map_congr_left fun x hx => ?_)
        obtain ⟨hx1, hx2⟩ := List.mem_filter.1 hx
        have er : rulOf (setRid f n who) x = rulOf f x := rfl
        rw [er]
        by_cases hnum : x.number = (n : Int)
        · have : x.rider = (who : Int) := by
            obtain ⟨m, hm⟩ := List.mem_iff_getElem?.1 hx1
            have hml := (List.getElem?_eq_some_iff.1 hm).1
            have := (IsTruth.at _ _ _ htf.1 m x f.list[m] hm (List.getElem?_eq_getElem (by omega))).1
            have hmn : m = n := by omega
            subst hmn
            rw [hk] at hm; cases hm
            exact htf.2
          show (if _ then _ else _) = _
          rw [if_pos this]
        · show (if _ then cOne _ _ _ else _) = _
          unfold cOne; rw [if_neg hnum]; split <;> rfl
      rw [e2, ← hkk]
      exact totK_one f htf.1 hk
    have hne : choices (setRid f n who) o.kind (2 ^ who) ≠ [] := fun e => by
      obtain ⟨l, hl⟩ := choL_some h2 o.kind (setRid f n who).list 0 hs
      have : l ∈ choices (setRid f n who) o.kind (2 ^ who) := hl
      rw [e] at this; cases this
    obtain ⟨l1, a1, l2, a2, a3, a4, a5⟩ := spanL_both hne (tot (setRid f n who) (cOne n))
    have back : ∀ l, l ∈ choices (setRid f n who) o.kind (2 ^ who) → ∃ t, Truth f t ∧ tot (setRid f n who) (cOne n) l = costT f t n := by
      intro l hl
      have hc := fun κ => choL_some h2 κ (setRid f n who).list 0 hs
      obtain ⟨c, hc⟩ := Classical.axiomOfChoice hc
      obtain ⟨t, ht, hr⟩ := truth_of h2 (setRid f n who).list 0 (fun κ => if κ = o.kind then l else c κ) hs (fun κ => by
        by_cases e : κ = o.kind
        · rw [if_pos e, e]; exact hl
        · rw [if_neg e]; exact hc κ)
      have hl' := IsTruth.length _ _ _ ht
      have hll : (setRid f n who).list.length = f.list.length := by simp [setRid]
      obtain ⟨k, hk⟩ : ∃ k, t[n]? = some k := ⟨t[n]'(by omega), List.getElem?_eq_getElem (by omega)⟩
      refine ⟨t, ((truth_set hk hbo hw).1 ht).1, ?_⟩
      have h := hr o.kind
      rw [if_pos rfl] at h
      rw [← h]; exact val t ht
    obtain ⟨t1, b1, b2⟩ := back l1 a1
    obtain ⟨t2, b3, b4⟩ := back l2 a2
    refine ⟨⟨t1, b1, by rw [← b2]; exact a3⟩, ⟨t2, b3, by rw [← b4]; exact a4⟩, fun t k ht hk hr => ?_⟩
    have ht' : Truth (setRid f n who) t := (truth_set hk hbo hw).2 ⟨ht, hr⟩
    have := a5 _ (restr_mem h2 o.kind (setRid f n who).list 0 t (fun o h => (hs o h).1) ht')
    rw [val t ht'] at this
    exact this
  have hwho : ∀ who, who ∈ (List.range f.riders.toNat).filter (fun who => o.riders.toNat.testBit who) ↔ who < f.riders.toNat ∧ o.riders.toNat.testBit who = true := fun who => by rw [List.mem_filter, List.mem_range]
  have hne : (((List.range f.riders.toNat).filter fun who => o.riders.toNat.testBit who).map fun who => spanR (setRid f n who) o.kind (2 ^ who) (cOne n)) ≠ [] := by
    intro e
    rw [List.map_eq_nil_iff] at e
    obtain ⟨k, hk⟩ := opt_some (nr := f.riders.toNat) (R := 63) (i := 0) hso.1 hso.2 (by omega)
    obtain ⟨k', ⟨_, _, ⟨who, _, h1, h2⟩, _⟩, _⟩ := opt_dim hso.1 hso.2 (by omega) hk
    have := (hwho who).2 ⟨h1, h2⟩
    rw [e] at this; cases this
  obtain ⟨⟨a, ha, ha2⟩, ⟨b, hb, hb2⟩, hall⟩ := join_ends _ hne
  refine ⟨?_, ?_, fun t ht => ?_⟩
  · obtain ⟨who, hw, rfl⟩ := List.mem_map.1 ha
    have hw := (hwho who).1 hw
    rw [ha2]; exact (one who hw.1 hw.2).1
  · obtain ⟨who, hw, rfl⟩ := List.mem_map.1 hb
    have hw := (hwho who).1 hw
    rw [hb2]; exact (one who hw.1 hw.2).2.1
  · have hl := IsTruth.length _ _ _ ht
    obtain ⟨k, hk⟩ : ∃ k, t[n]? = some k := ⟨t[n]'(by omega), List.getElem?_eq_getElem (by omega)⟩
    obtain ⟨_, _, ⟨who, h1, h2, h3⟩, _⟩ := IsTruth.at _ _ _ ht n k o hk hon
    have g1 := (one who h2 h3).2.2 t k ht hk h1
    have g2 := hall _ (List.mem_map.2 ⟨who, (hwho who).2 ⟨h2, h3⟩, rfl⟩)
    omega
/-- All truths, in the document's order. -/
def truthL (nr : Nat) : Int → List Off → List (List Kn)
  | _, [] => [[]]
  | i, o :: t => (whoK nr 63 i o).flatMap fun k => (truthL nr (i + 1) t).map (k :: ·)
theorem bit63 {who : Nat} (h : who < 6) : (63 : Nat).testBit who = true := by
  have : who = 0 ∨ who = 1 ∨ who = 2 ∨ who = 3 ∨ who = 4 ∨ who = 5 := by omega
  rcases this with rfl | rfl | rfl | rfl | rfl | rfl <;> decide
theorem mem_truthL {nr : Nat} (h6 : nr ≤ 6) : ∀ (offs : List Off) (i : Int) (t : List Kn), t ∈ truthL nr i offs ↔ IsTruth nr i offs t
  | [], i, t => by cases t <;> simp [truthL, IsTruth]
  | o :: offs, i, [] => by simp [truthL, IsTruth]
  | o :: offs, i, k :: t => by
    rw [truthL, List.mem_flatMap]
    constructor
    · rintro ⟨k', hk', h⟩
      obtain ⟨l, hl, he⟩ := List.mem_map.1 h
      cases he
      obtain ⟨who, h1, h2, h3, h4⟩ := mem_who.1 hk'
      obtain ⟨g1, g2, g3, g4, g5⟩ := mem_hours.1 h4
      exact ⟨⟨g1, g2, ⟨who, g3, h1, h2⟩, g4, g5⟩, (mem_truthL h6 offs (i + 1) _).1 hl⟩
    · rintro ⟨⟨g1, g2, ⟨who, g3, h1, h2⟩, g4, g5⟩, ht⟩
      exact ⟨k, mem_who.2 ⟨who, h1, h2, bit63 (by omega), mem_hours.2 ⟨g1, g2, g3, g4, g5⟩⟩, List.mem_map.2 ⟨t, (mem_truthL h6 offs (i + 1) t).2 ht, rfl⟩⟩
theorem spanL_is {l : List Int} {lo hi : Int} (h1 : lo ∈ l) (h2 : hi ∈ l) (h3 : ∀ x, x ∈ l → lo ≤ x ∧ x ≤ hi) : spanL l = (lo, hi) := by
  have hne : l ≠ [] := fun e => by rw [e] at h1; cases h1
  obtain ⟨l1, a1, l2, a2, a3, a4, a5⟩ := spanL_both hne id
  rw [List.map_id] at a3 a4 a5
  have b1 := h3 l1 a1
  have b2 := h3 l2 a2
  have b3 := a5 lo h1
  have b4 := a5 hi h2
  simp only [id] at a3 a4 b3 b4
  exact Prod.ext (by simp only []; omega) (by simp only []; omega)
theorem sum_doc {f : Fns} (hf : Sound f) (h6 : f.riders.toNat ≤ 6) {R : Nat} (hR : R < 64) {cnt : Kn → Int → Int} (hl : Loc f.riders.toNat R cnt) : spanL ((truthL f.riders.toNat 0 f.list).map (totT f cnt)) = sumR f R cnt := by
  obtain ⟨⟨t1, a1, a2⟩, ⟨t2, a3, a4⟩, a5⟩ := sum_ends hf hR hl
  have e : sumR f R cnt = ((sumR f R cnt).1, (sumR f R cnt).2) := rfl
  rw [e]
  refine spanL_is ?_ ?_ fun x hx => ?_
  · rw [a2]; exact List.mem_map_of_mem ((mem_truthL h6 _ _ _).2 a1)
  · rw [a4]; exact List.mem_map_of_mem ((mem_truthL h6 _ _ _).2 a3)
  · obtain ⟨t, ht, rfl⟩ := List.mem_map.1 hx
    exact a5 t ((mem_truthL h6 _ _ _).1 ht)
def costS (f : Fns) (n : Nat) : Int × Int := joinS (((List.range f.riders.toNat).filter fun who => (f.list.getD n ⟨0, 0, 0, 0⟩).riders.toNat.testBit who).map fun who => spanR (setRid f n who) (f.list.getD n ⟨0, 0, 0, 0⟩).kind (2 ^ who) (cOne n))
theorem cost_doc {f : Fns} (hf : Sound f) (h6 : f.riders.toNat ≤ 6) {n : Nat} (hn : n < f.list.length) : spanL ((truthL f.riders.toNat 0 f.list).map (costT f · n)) = costS f n := by
  obtain ⟨⟨t1, a1, a2⟩, ⟨t2, a3, a4⟩, a5⟩ := cost_ends hf h6 hn
  have e : costS f n = ((costS f n).1, (costS f n).2) := rfl
  rw [e]
  refine spanL_is ?_ ?_ fun x hx => ?_
  · unfold costS; rw [a2]; exact List.mem_map.2 ⟨t1, (mem_truthL h6 _ _ _).2 a1, rfl⟩
  · unfold costS; rw [a4]; exact List.mem_map.2 ⟨t2, (mem_truthL h6 _ _ _).2 a3, rfl⟩
  · obtain ⟨t, ht, rfl⟩ := List.mem_map.1 hx
    exact a5 t ((mem_truthL h6 _ _ _).1 ht)
theorem loc_fined (nr r : Nat) : Loc nr (2 ^ r) (cFined r) := fun k who c hk _ hb => by
  rw [Nat.testBit_two_pow] at hb
  have : ¬ r = who := by simpa using hb
  unfold cFined; rw [if_neg (by rw [hk]; omega)]
theorem loc_paid (nr r p : Nat) : Loc nr (2 ^ r ||| 2 ^ p) (cPaid r p) := fun k who c hk _ hb => by
  rw [Nat.testBit_or, Nat.testBit_two_pow, Nat.testBit_two_pow] at hb
  simp at hb
  unfold cPaid; rw [if_neg (by rw [hk]; omega), if_neg (by rw [hk]; omega)]
theorem loc_each (nr : Nat) : Loc nr (2 ^ nr - 1) cEach := fun k who c hk hw hb => by
  rw [Nat.testBit_two_pow_sub_one] at hb
  simp at hb; omega
theorem sound_of {f : Fns} (h : goodFns f = true) : Sound f ∧ f.riders.toNat ≤ 6 ∧ f.list.length ≤ 5 ∧ f.rules.length ≤ 4 ∧ 2 ≤ f.riders ∧ f.riders ≤ 6 ∧ f.riders % 2 = 0 := by
  unfold goodFns inB at h
  simp only [Bool.and_eq_true, decide_eq_true_eq, List.all_eq_true] at h
  obtain ⟨⟨⟨⟨⟨h1, h2⟩, h3, h4⟩, h5⟩, h6⟩, h7⟩ := h
  refine ⟨fun o ho => ?_, by omega, by omega, by omega, h3, h4, h5⟩
  have := h7 o ho
  unfold goodOff inB at this
  simp only [Bool.and_eq_true, decide_eq_true_eq] at this
  obtain ⟨⟨_, g3, g4⟩, ⟨⟨g5, g6⟩, g7⟩, g8⟩ := this
  have hp : (2 : Int) ^ f.riders.toNat = ((2 ^ f.riders.toNat : Nat) : Int) := by simp
  have hp2 : 2 ^ f.riders.toNat ≤ 2 ^ 6 := Nat.pow_le_pow_right (by omega) (by omega)
  rw [hp] at g4
  exact ⟨⟨by omega, by omega, g6⟩, by omega⟩
end Go.Proofs.Ytjmobepipfbbnaa
