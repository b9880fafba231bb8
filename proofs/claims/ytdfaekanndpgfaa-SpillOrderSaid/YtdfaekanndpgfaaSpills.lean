import Derived.Test.YtdfaekanndpgfaaProg
/- Spill, plainly: what the program computes, and plain law of Merge and Send. -/
set_option linter.unusedSimpArgs false
set_option linter.unusedVariables false
namespace Go.Proofs.Ytdfaekanndpgfaa
/-- A report. -/
structure Rep where
  id : Int
  version : Int
  kind : Int
  alo : Int
  ahi : Int
  llo : Int
  lhi : Int
  pair : Int
deriving DecidableEq
def inB (n lo hi : Int) : Bool := decide (lo ≤ n) && decide (n ≤ hi)
/-- A span within limits, and narrow enough. -/
def goodSpan (a b lo hi : Int) : Bool := decide (lo ≤ a) && decide (a ≤ b) && decide (b ≤ hi) && decide (b - a ≤ 3)
def goodRep (r : Rep) : Bool :=
  inB r.id 0 31 && inB r.version 0 9 && inB r.kind 0 2 && goodSpan r.alo r.ahi 0 50 && (if r.kind = 0 then goodSpan r.llo r.lhi 1 10 else inB r.pair 0 3)
/-- A report without what its kind does not have. -/
def plainR (r : Rep) : Rep := if r.kind = 0 then { r with pair := 0 } else { r with llo := 0, lhi := 0 }
/-- The numbers by which two reports of one Id are compared. -/
def keyR (r : Rep) : List Int := [r.version, r.kind, r.alo, r.ahi, r.llo, r.lhi, r.pair]
def lessL : List Int → List Int → Bool
  | a :: l, b :: m => if a = b then lessL l m else decide (a < b)
  | _, _ => false
def lessR (a b : Rep) : Bool := lessL (keyR a) (keyR b)
/-- One report more, for what stands of its Id. -/
def better (b : Option Rep) (r : Rep) : Option Rep :=
  match b with
  | none => some r
  | some o => if lessR o r then some r else some o
/-- What stands of an Id. -/
def bestR (l : List Rep) (id : Int) : Option Rep := l.foldl (fun b r => if r.id = id then better b r else b) none
/-- What stands of a journal, by Ids. -/
def standR (l : List Rep) : List Rep := (List.range 32).filterMap fun (k : Nat) => bestR (l.map plainR) (k : Int)
def fallsR (j : List Rep) : List Rep := j.filter fun r => r.kind = 0
def fewR (j : List Rep) : Bool := decide (j.length ≤ 12) && decide ((fallsR j).length ≤ 3)
/-- Is a journal valid? -/
def goodJ (l : List Rep) : Bool := decide (l.length ≤ 12) && l.all goodRep && fewR (standR l)
/-- Merge, and Send. -/
def mergeR (a b : List Rep) : List Rep × Int :=
  if goodJ a = false then ([], 1) else if goodJ b = false then ([], 1) else
    if fewR (standR (standR a ++ standR b)) = false then ([], 9) else (standR (standR a ++ standR b), 0)
def sendR (a b : List Rep) : List Rep × Int :=
  if goodJ a = false then ([], 1) else if goodJ b = false then ([], 1) else ((standR (standR a ++ standR b)).filter fun r => !(standR b).contains r, 0)
/-! ### Laps -/
/-- So many laps from one on, as bits. -/
def fromB (lap many : Nat) : Nat := (2 ^ many - 1) * 2 ^ lap
/-- All that a fall can make void. -/
def voidsR (r : Rep) : List Nat :=
  (List.range ((r.ahi - r.alo).toNat + 1)).flatMap fun i => (List.range ((r.lhi - r.llo).toNat + 1)).map fun k => fromB (r.alo.toNat + i) (r.llo.toNat + k)
/-- All laps that can be void together. -/
def eachR : List Rep → Nat → List Nat
  | [], b => [b]
  | f :: t, b => (voidsR f).flatMap fun v => eachR t (b ||| v)
def eachJ (j : List Rep) : List Nat := eachR (fallsR j) 0
def allR (j : List Rep) : Nat := (eachJ j).foldl (· &&& ·) (2 ^ 64 - 1)
def someR (j : List Rep) : Nat := (eachJ j).foldl (· ||| ·) 0
/-- Laps as spans, up to a lap. -/
def spansTo (b : Nat) : Nat → List (Int × Int)
  | 0 => []
  | k + 1 =>
    if b.testBit k = false then spansTo b k
    else match (spansTo b k).getLast? with
      | some x => if x.2 = (k : Int) - 1 then (spansTo b k).dropLast ++ [(x.1, (k : Int))] else spansTo b k ++ [((k : Int), (k : Int))]
      | none => [((k : Int), (k : Int))]
/-! ### What counts -/
/-- How little, and how much, a lap counts if some laps are void. -/
def gainE (r : Rep) (b : Nat) : Int × Int :=
  let laps := (List.range ((r.ahi - r.alo).toNat + 1)).map fun i => b.testBit (r.alo.toNat + i)
  (if laps.any id then 0 else 1, if laps.any (!·) then 1 else 0)
def cntE (r : Rep) (b : Nat) : Int × Int := if r.kind = 2 then (-(gainE r b).2, -(gainE r b).1) else gainE r b
def addP (a b : Int × Int) : Int × Int := (a.1 + b.1, a.2 + b.2)
def sumE (l : List (Nat → Int × Int)) (b : Nat) : Int × Int := l.foldl (fun s c => addP s (c b)) (0, 0)
/-- The least and the greatest of some spans. -/
def hullP : List (Int × Int) → Int × Int
  | [] => (0, 0)
  | x :: l => l.foldl (fun a y => (min a.1 y.1, max a.2 y.2)) x
def spanJ (j : List Rep) (l : List (Nat → Int × Int)) : Int × Int := hullP ((eachJ j).map (sumE l))
def countsR (l : List Rep) (id : Int) : Int × Int :=
  if goodJ l = false then (0, 1) else
    match (standR l).find? fun r => r.id = id && r.kind ≠ 0 with
    | none => (0, 4)
    | some r => ((spanJ (standR l) [gainE r]).1 + (spanJ (standR l) [gainE r]).2, 0)
def balJ (j : List Rep) (pair : Int) : Int × Int := spanJ j ((j.filter fun r => r.kind ≠ 0 && r.pair = pair).map cntE)
def balanceR (l : List Rep) (pair : Int) : (Int × Int) × Int :=
  if goodJ l = false then ((0, 0), 1) else if inB pair 0 3 = false then ((0, 0), 2) else (balJ (standR l) pair, 0)
/-- One report known exactly. -/
def knownJ (j : List Rep) (i : Nat) (a n : Int) : List Rep := j.modify i fun r => { r with alo := a, ahi := a, llo := n, lhi := n }
def settles (j : List Rep) (i : Nat) (pair : Int) : Bool :=
  match j[i]? with
  | none => true
  | some r => (List.range ((r.ahi - r.alo).toNat + 1)).all fun x => (List.range ((r.lhi - r.llo).toNat + 1)).all fun y =>
      decide ((balJ (knownJ j i (r.alo + x) (r.llo + y)) pair).1 = (balJ (knownJ j i (r.alo + x) (r.llo + y)) pair).2)
def askR (l : List Rep) (pair : Int) : Int × Int :=
  if goodJ l = false then (0, 1) else if inB pair 0 3 = false then (0, 2) else
    if (balJ (standR l) pair).1 = (balJ (standR l) pair).2 then (0, 11) else
      match (List.range (standR l).length).find? fun i => settles (standR l) i pair with
      | none => (0, 4)
      | some i => (((standR l).getD i ⟨0, 0, 0, 0, 0, 0, 0, 0⟩).id, 0)
/-! ### The document's examples, computed -/
def fall (id v a b c d : Int) : Rep := ⟨id, v, 0, a, b, c, d, 0⟩
def gain (id p a b : Int) : Rep := ⟨id, 0, 1, a, b, 0, 0, p⟩
def loss (id p a b : Int) : Rep := ⟨id, 0, 2, a, b, 0, 0, p⟩
def J : List Rep := [fall 1 0 10 11 3 4, gain 2 0 12 13, gain 3 0 20 20, loss 4 1 11 11]
def K : List Rep := [fall 1 1 10 10 3 3]
def JK : List Rep := [fall 1 1 10 10 3 3, gain 2 0 12 13, gain 3 0 20 20, loss 4 1 11 11]
example : mergeR J K = (JK, 0) := by decide +kernel
example : sendR K J = (K, 0) := by decide +kernel
example : spansTo (allR (standR J)) 64 = [(11, 12)] := by decide +kernel
example : spansTo (someR (standR J)) 64 = [(10, 14)] := by decide +kernel
example : countsR J 2 = (1, 0) := by decide +kernel
example : balanceR J 0 = ((1, 2), 0) := by decide +kernel
example : askR JK 0 = (2, 0) := by decide +kernel
end Go.Proofs.Ytdfaekanndpgfaa
namespace Go.Proofs.Ytdfaekanndpgfaa
theorem lessL_irrefl : ∀ l, lessL l l = false
  | [] => rfl
  | a :: l => by unfold lessL; rw [if_pos rfl]; exact lessL_irrefl l
theorem lessL_trans : ∀ {l m n : List Int}, lessL l m = true → lessL m n = true → lessL l n = true
  | a :: l, b :: m, c :: n, h1, h2 => by
    unfold lessL at h1 h2 ⊢
    by_cases e1 : a = b
    · rw [if_pos e1] at h1
      by_cases e2 : b = c
      · rw [if_pos e2] at h2
        rw [if_pos (e1.trans e2)]; exact lessL_trans h1 h2
      · rw [if_neg e2] at h2
        rw [e1, if_neg e2]; exact h2
    · rw [if_neg e1] at h1
      have h1 := of_decide_eq_true h1
      by_cases e2 : b = c
      · rw [← e2, if_neg e1]; exact decide_eq_true h1
      · rw [if_neg e2] at h2
        have h2 := of_decide_eq_true h2
        rw [if_neg (by omega)]; exact decide_eq_true (by omega)
  | [], _, _, h1, _ => by simp [lessL] at h1
  | _ :: _, [], _, h1, _ => by simp [lessL] at h1
  | _ :: _, _ :: _, [], _, h2 => by simp [lessL] at h2
theorem lessL_total : ∀ {l m : List Int}, l.length = m.length → lessL l m = false → lessL m l = false → l = m
  | [], [], _, _, _ => rfl
  | a :: l, b :: m, hl, h1, h2 => by
    unfold lessL at h1 h2
    by_cases e : a = b
    · subst e
      rw [if_pos rfl] at h1 h2
      rw [lessL_total (by simpa using hl) h1 h2]
    · rw [if_neg e] at h1
      rw [if_neg (Ne.symm e)] at h2
      have h1 := of_decide_eq_false h1
      have h2 := of_decide_eq_false h2
      omega
  | [], _ :: _, hl, _, _ => by simp at hl
  | _ :: _, [], hl, _, _ => by simp at hl
theorem rep_ext {a b : Rep} (hi : a.id = b.id) (hk : keyR a = keyR b) : a = b := by
  cases a; cases b
  simp only [keyR, List.cons.injEq, and_true] at hk
  simp only at hi
  simp [hi, hk]
/-- The greatest report of an Id. -/
def IsBest (l : List Rep) (id : Int) (r : Rep) : Prop := r ∈ l ∧ r.id = id ∧ ∀ x, x ∈ l → x.id = id → lessR r x = false
theorem isBest_uniq {l : List Rep} {id : Int} {r x : Rep} (h : IsBest l id r) (k : IsBest l id x) : r = x :=
  rep_ext (h.2.1.trans k.2.1.symm) (lessL_total rfl (h.2.2 x k.1 k.2.1) (k.2.2 r h.1 h.2.1))
theorem less_of {a b c : Rep} (h1 : lessR a b = false) (h2 : lessR b c = false) : lessR a c = false := by
  cases h : lessR a c with
  | false => rfl
  | true =>
    cases h3 : lessR b a with
    | true => rw [show lessR b c = true from lessL_trans h3 h] at h2; cases h2
    | false =>
      have e : keyR a = keyR b := lessL_total rfl h1 h3
      unfold lessR at h h2
      rw [e] at h
      rw [h] at h2; cases h2
theorem best_fold (id : Int) : ∀ (l m : List Rep) (b : Option Rep), (match b with | none => ∀ x, x ∈ m → x.id ≠ id | some r => IsBest m id r) →
    match l.foldl (fun b r => if r.id = id then better b r else b) b with | none => ∀ x, x ∈ m ++ l → x.id ≠ id | some r => IsBest (m ++ l) id r
  | [], m, b, h => by simpa using h
  | r :: l, m, b, h => by
    rw [List.foldl_cons]
    have e : m ++ r :: l = (m ++ [r]) ++ l := by simp
    rw [e]
    refine best_fold id l (m ++ [r]) _ ?_
    by_cases hr : r.id = id
    · rw [if_pos hr]
      cases b with
      | none =>
        show IsBest (m ++ [r]) id r
        refine ⟨by simp, hr, fun x hx hi => ?_⟩
        rcases List.mem_append.1 hx with h' | h'
        · exact absurd hi (h x h')
        · have : x = r := by simpa using h'
          rw [this]; exact lessL_irrefl _
      | some o =>
        have ho : IsBest m id o := h
        show (match (if lessR o r then some r else some o) with | none => ∀ x, x ∈ m ++ [r] → x.id ≠ id | some q => IsBest (m ++ [r]) id q)
        cases hl : lessR o r with
        | true =>
          simp only [if_true]
          refine ⟨by simp, hr, fun x hx hi => ?_⟩
          rcases List.mem_append.1 hx with h' | h'
          · have h1 := ho.2.2 x h' hi
            have h2 : lessR r o = false := by
              cases h3 : lessR r o with
              | false => rfl
              | true =>
                have := lessL_trans hl h3
                rw [lessL_irrefl] at this; cases this
            exact less_of h2 h1
          · have : x = r := by simpa using h'
            rw [this]; exact lessL_irrefl _
        | false =>
          simp only [Bool.false_eq_true, if_false]
          refine ⟨by simp [ho.1], ho.2.1, fun x hx hi => ?_⟩
          rcases List.mem_append.1 hx with h' | h'
          · exact ho.2.2 x h' hi
          · have : x = r := by simpa using h'
            rw [this]; exact hl
    · rw [if_neg hr]
      cases b with
      | none =>
        intro x hx
        rcases List.mem_append.1 hx with h' | h'
        · exact h x h'
        · have : x = r := by simpa using h'
          rw [this]; exact hr
      | some o =>
        have ho : IsBest m id o := h
        refine ⟨by simp [ho.1], ho.2.1, fun x hx hi => ?_⟩
        rcases List.mem_append.1 hx with h' | h'
        · exact ho.2.2 x h' hi
        · have : x = r := by simpa using h'
          rw [this] at hi; exact absurd hi hr
theorem bestR_spec (l : List Rep) (id : Int) : match bestR l id with | none => ∀ x, x ∈ l → x.id ≠ id | some r => IsBest l id r := by
  have := best_fold id l [] none (by simp)
  simpa [bestR] using this
theorem bestR_some {l : List Rep} {id : Int} {r : Rep} (h : IsBest l id r) : bestR l id = some r := by
  have := bestR_spec l id
  cases hb : bestR l id with
  | none => rw [hb] at this; exact absurd h.2.1 (this r h.1)
  | some x => rw [hb] at this; rw [isBest_uniq this h]
theorem bestR_none {l : List Rep} {id : Int} (h : ∀ x, x ∈ l → x.id ≠ id) : bestR l id = none := by
  have := bestR_spec l id
  cases hb : bestR l id with
  | none => rfl
  | some x => rw [hb] at this; exact absurd this.2.1 (h x this.1)
theorem plain_id (r : Rep) : (plainR r).id = r.id := by unfold plainR; split <;> rfl
theorem plain_plain (r : Rep) : plainR (plainR r) = plainR r := by
  unfold plainR
  by_cases h : r.kind = 0
  · simp [h]
  · simp [h]
/-- What stands of a list, of an Id within limits. -/
theorem mem_stand {l : List Rep} {r : Rep} : r ∈ standR l ↔ ∃ k : Nat, k < 32 ∧ bestR (l.map plainR) (k : Int) = some r := by
  unfold standR
  rw [List.mem_filterMap]
  simp only [List.mem_range]
theorem stand_plain {l : List Rep} {r : Rep} (h : r ∈ standR l) : plainR r = r := by
  obtain ⟨k, _, hk⟩ := mem_stand.1 h
  have := bestR_spec (l.map plainR) (k : Int)
  rw [hk] at this
  obtain ⟨x, _, hx⟩ := List.mem_map.1 this.1
  rw [← hx, plain_plain]
theorem stand_map (l : List Rep) : (standR l).map plainR = standR l := by
  have : (standR l).map plainR = (standR l).map id := List.map_congr_left fun r hr => stand_plain hr
  rw [this]; simp
theorem stand_id {l : List Rep} {r : Rep} {k : Nat} (h : r ∈ standR l) (hi : r.id = (k : Int)) : IsBest (l.map plainR) (k : Int) r := by
  obtain ⟨m, _, hm⟩ := mem_stand.1 h
  have := bestR_spec (l.map plainR) (m : Int)
  rw [hm] at this
  rw [← hi, ← this.2.1] at *
  exact this
theorem filterMap_congr' {α β : Type} {f g : α → Option β} : ∀ {l : List α}, (∀ x, x ∈ l → f x = g x) → l.filterMap f = l.filterMap g
  | [], _ => rfl
  | a :: t, h => by
    rw [List.filterMap_cons, List.filterMap_cons, h a (by simp), filterMap_congr' (l := t) (fun x hx => h x (by simp [hx]))]
/-- What stands of what stands of two journals together. -/
theorem stand_two (a b : List Rep) : standR (standR a ++ standR b) = standR (a ++ b) := by
  unfold standR
  refine filterMap_congr' fun k hk => ?_
  have hk := List.mem_range.1 hk
  change bestR ((standR a ++ standR b).map plainR) (k : Int) = bestR ((a ++ b).map plainR) (k : Int)
  rw [List.map_append, stand_map, stand_map]
  have hs := bestR_spec ((a ++ b).map plainR) (k : Int)
  cases hb : bestR ((a ++ b).map plainR) (k : Int) with
  | none =>
    rw [hb] at hs
    refine bestR_none fun x hx hi => ?_
    rcases List.mem_append.1 hx with h | h
    · have := stand_id h hi
      exact hs x (by rw [List.map_append]; exact List.mem_append.2 (.inl this.1)) hi
    · have := stand_id h hi
      exact hs x (by rw [List.map_append]; exact List.mem_append.2 (.inr this.1)) hi
  | some r =>
    rw [hb] at hs
    refine bestR_some ⟨?_, hs.2.1, fun x hx hi => ?_⟩
    · rw [List.mem_append]
      have hm := hs.1
      rw [List.map_append, List.mem_append] at hm
      rcases hm with h | h
      · refine .inl (mem_stand.2 ⟨k, hk, bestR_some ⟨h, hs.2.1, fun x hx hi => hs.2.2 x (by rw [List.map_append]; exact List.mem_append.2 (.inl hx)) hi⟩⟩)
      · refine .inr (mem_stand.2 ⟨k, hk, bestR_some ⟨h, hs.2.1, fun x hx hi => hs.2.2 x (by rw [List.map_append]; exact List.mem_append.2 (.inr hx)) hi⟩⟩)
    · rcases List.mem_append.1 hx with h | h
      · exact hs.2.2 x (by rw [List.map_append]; exact List.mem_append.2 (.inl (stand_id h hi).1)) hi
      · exact hs.2.2 x (by rw [List.map_append]; exact List.mem_append.2 (.inr (stand_id h hi).1)) hi
end Go.Proofs.Ytdfaekanndpgfaa
namespace Go.Proofs.Ytdfaekanndpgfaa
theorem best_same {l m : List Rep} (h : ∀ x, x ∈ l ↔ x ∈ m) (id : Int) : bestR l id = bestR m id := by
  have hs := bestR_spec m id
  cases hb : bestR m id with
  | none =>
    rw [hb] at hs
    exact bestR_none fun x hx => hs x ((h x).1 hx)
  | some r =>
    rw [hb] at hs
    exact bestR_some ⟨(h r).2 hs.1, hs.2.1, fun x hx hi => hs.2.2 x ((h x).1 hx) hi⟩
theorem stand_same {l m : List Rep} (h : ∀ x, x ∈ l.map plainR ↔ x ∈ m.map plainR) : standR l = standR m := by
  unfold standR
  exact filterMap_congr' fun k _ => best_same h (k : Int)
theorem stand_comm (a b : List Rep) : standR (a ++ b) = standR (b ++ a) := by
  refine stand_same fun x => ?_
  rw [List.map_append, List.map_append, List.mem_append, List.mem_append]
  exact Or.comm
theorem stand_idem (a : List Rep) : standR (standR a) = standR a := by
  have h := stand_two a []
  have e : standR ([] : List Rep) = [] := by
    unfold standR
    rw [List.filterMap_eq_nil_iff]
    intro k _
    rfl
  rw [e, List.append_nil, List.append_nil] at h
  exact h
theorem stand_left (a b : List Rep) : standR (standR a ++ b) = standR (a ++ b) := by
  have h1 := stand_two (standR a) b
  rw [stand_idem, stand_two] at h1
  exact h1.symm
/-- However grouped. -/
theorem stand_three (a b c : List Rep) : standR (standR (a ++ b) ++ c) = standR (a ++ standR (b ++ c)) := by
  rw [stand_left, stand_comm a (standR (b ++ c)), stand_left, List.append_assoc]
  exact (stand_comm (b ++ c) a).symm
/-- Merged twice. -/
theorem stand_self (a b : List Rep) : standR (standR (a ++ b) ++ b) = standR (a ++ b) := by
  rw [stand_left]
  refine stand_same fun x => ?_
  simp only [List.map_append, List.mem_append]
  exact ⟨fun h => h.elim id .inr, .inl⟩
end Go.Proofs.Ytdfaekanndpgfaa
