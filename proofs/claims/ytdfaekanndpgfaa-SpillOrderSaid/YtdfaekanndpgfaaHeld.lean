import Derived.Test.YtdfaekanndpgfaaGen
import Derived.OrdersIn
import Derived.OrdersHeld
import Derived.TacticsIn
import Derived.Scope
/- A region that draws its order, in a round of a loop over a function (or outside one), at the wide fence: an operation that yields one value in every world that meets S may be taken first. -/
set_option linter.unusedSimpArgs false
set_option linter.unusedVariables false
namespace Go.Proofs.Ytdfaekanndpgfaa
section
variable {F : Fence} {n : Nat} {P : Program} {ops : Array Oper} {Q : Exit → Act → World → Prop} {md : Region.Mode} {S : World → Prop}

def noDefer (ops : Array Oper) : Bool := ops.all fun o => match o.op with | .defer _ => false | _ => true
theorem noDefer_spec (h : noDefer ops = true) (j : Nat) (o : Oper) (c : Call) (ho : ops[j]? = some o) : o.op ≠ .defer c := by
  intro hc
  unfold noDefer at h
  rw [Array.all_eq_true_iff_forall_mem] at h
  have := h o (Array.mem_of_getElem? ho)
  simp [hc] at this

theorem YieldsIf.stepIn {i : Nat} {o : Oper} {v : Value} {a : Act} (hF : ∀ f, F.fn f) (hd : ∀ c, o.op ≠ .defer c) (hi : ops[i]? = some o) (hy : YieldsIf P ops S o v a)
    {K : Act → World → Prop} {w : World} (hS : S w) (h : K (a.put o.dst v) w) : wpOpIn F n P ops Q i K a w := by
  unfold Go.wpOpIn
  simp only [hi]
  rcases hy with ⟨hw, hv⟩ | ⟨hw, rfl⟩
  · simp only [hw, if_true, Oper.wpIn, Oper.semAt_eq _ _ _ hd, hv w hS, Oper.uponIn]; exact ⟨fun f _ => hF f, h⟩
  · simp only [hw, Bool.false_eq_true, if_false]; exact ⟨fun f _ => hF f, h⟩

theorem wpOpIn_putH {j : Nat} {oi oj : Oper} {v : Value} (hF : ∀ f, F.fn f) (hdi : ∀ c, oi.op ≠ .defer c) (hdj : ∀ c, oj.op ≠ .defer c) (hj : ops[j]? = some oj) (hap : oi.apart ops oj = true)
    (hsi : ∀ cs b, oi.op ≠ .select cs b) (hsj : ∀ cs b, oj.op ≠ .select cs b)
    (hQ : ∀ c a w, Q (.panic c) (a.put oi.dst v) w → Q (.panic c) a w) {K : Act → World → Prop} {a : Act} {w : World}
    (hy : YieldsIf P ops S oi v a) (h : wpOpIn F n P ops Q j K (a.put oi.dst v) w) :
    wpOpIn F n P ops Q j (fun a' w' => YieldsIf P ops S oi v a' ∧ K (a'.put oi.dst v) w') a w := by
  obtain ⟨h1, h2, h3⟩ := Oper.apart_spec hap
  have keep : ∀ (a : Act), YieldsIf P ops S oi v a → ∀ u, YieldsIf P ops S oi v (a.put oj.dst u) := fun a hy u =>
    hy.of_same (execOp_put oi hsi a oj.dst u h3) (wanted_put oi a oj.dst u h3)
  have keepD : ∀ d, YieldsIf P ops S oi v { a with defers := d :: a.defers } := fun d => hy.of_same rfl rfl
  unfold wpOpIn at *
  simp only [hj] at *
  rw [wanted_put oj a oi.dst v h1] at h
  split
  · rename_i hw
    simp only [hw, if_true] at h
    unfold Oper.wpIn at *
    refine ⟨fun f _ => hF f, ?_⟩
    have h := h.2
    rw [Oper.semAt_eq _ _ _ hdj, execOp_put oj hsj a oi.dst v h1] at h
    rw [Oper.semAt_eq _ _ _ hdj]
    generalize (execOp a.eval oj).run P w = r at *
    cases r with
    | ok x w' =>
      cases x <;> simp only [Oper.uponIn] at h ⊢
      case value u => exact ⟨keep a hy u, by rw [← Act.put_comm a v u h2]; exact h⟩
      case skip => exact ⟨keep a hy _, by rw [← Act.put_comm a v undef h2]; exact h⟩
      case defer d =>
        refine ⟨keep _ (keepD d) _, ?_⟩
        rw [← Act.put_comm _ v undef h2, ← Act.put_defers]
        exact h
      case enter f args =>
        refine ⟨h.1, CallsIn.mono h.2 fun e w'' he => ?_⟩
        cases e with
        | returned u => exact ⟨keep a hy u, by rw [← Act.put_comm a v u h2]; exact he⟩
        | panicked c => exact hQ _ _ _ he
        | outgrown => exact he
      case row row args => exact ⟨h.1, RowsIn.mono h.2 fun u w'' he => ⟨keep a hy u, by rw [← Act.put_comm a v u h2]; exact he⟩⟩
      case round l f tmps assign body =>
        refine ⟨h.1, RoundIn.mono h.2 fun e w'' he => ?_⟩
        cases e with
        | returned u => exact ⟨keep a hy u, by rw [← Act.put_comm a v u h2]; exact he⟩
        | panicked c => exact hQ _ _ _ he
        | outgrown => exact he
    | halt x w' =>
      cases x <;> simp only [Oper.uponIn] at h ⊢
      case panic u => exact hQ _ _ _ h
  · rename_i hw
    simp only [hw] at h
    exact ⟨fun f _ => hF f, keep a hy _, by rw [← Act.put_comm a v undef h2]; exact h.2⟩

/-- The numbers that number m waits for, itself. -/
def predOp (md : Region.Mode) (ops : Array Oper) (m k : Nat) : Bool := match ops[m]? with | some o => o.after.any (fun e => Region.binds md e && e.on == k) | none => false
/-- Some numbers, and those that they wait for. -/
def growOp (md : Region.Mode) (ops : Array Oper) (l : List Nat) : List Nat := (List.range ops.size).filter fun k => l.contains k || l.any fun m => predOp md ops m k
def ancOp (md : Region.Mode) (ops : Array Oper) : Nat → List Nat → List Nat
  | 0, l => l
  | f + 1, l => ancOp md ops f (growOp md ops l)
/-- Number j waits for all others, itself or through others. -/
def lastOp (md : Region.Mode) (ops : Array Oper) (j : Nat) : Bool := (List.range ops.size).all fun k => (ancOp md ops 6 [j]).contains k
/-- What is listed waits for listed ones alone. -/
def closedL (md : Region.Mode) (ops : Array Oper) (listed : Array Bool) : Prop := ∀ k, listed.getD k false = true → ∀ m, predOp md ops k m = true → listed.getD m false = true
theorem predOp_iff {m k : Nat} : predOp md ops m k = true ↔ ∃ o, ops[m]? = some o ∧ ∃ e ∈ o.after, Region.binds md e = true ∧ e.on = k := by
  unfold predOp
  cases ops[m]? with
  | none => simp
  | some o =>
    constructor
    · intro h1
      have h1 : o.after.any (fun e => Region.binds md e && e.on == k) = true := h1
      rw [← Array.any_toList, List.any_eq_true] at h1
      obtain ⟨e, he, h2⟩ := h1
      rw [Bool.and_eq_true, beq_iff_eq] at h2
      exact ⟨o, rfl, e, Array.mem_toList_iff.1 he, h2.1, h2.2⟩
    · rintro ⟨o', h, e, he, hb, hon⟩
      cases h
      show o.after.any (fun e => Region.binds md e && e.on == k) = true
      rw [← Array.any_toList, List.any_eq_true]
      exact ⟨e, Array.mem_toList_iff.2 he, by simp [hb, hon]⟩
theorem ready_preds {j : Nat} {listed : Array Bool} (h : j ∈ Region.ready md ops listed) : ∀ m, predOp md ops j m = true → listed.getD m false = true := by
  intro m hm
  obtain ⟨_, o, ho, hall⟩ := mem_ready.1 h
  obtain ⟨o', ho', e, he, hb, hon⟩ := predOp_iff.1 hm
  rw [ho] at ho'; cases ho'
  exact hon ▸ hall e he hb
theorem ancOp_listed {j : Nat} {listed : Array Bool} (hc : closedL md ops listed) (hr : j ∈ Region.ready md ops listed) :
    ∀ (f : Nat) (l : List Nat), (∀ k ∈ l, k = j ∨ listed.getD k false = true) → ∀ k ∈ ancOp md ops f l, k = j ∨ listed.getD k false = true
  | 0, _, h => h
  | f + 1, l, h => ancOp_listed hc hr f _ fun k hk => by
      unfold growOp at hk
      rw [List.mem_filter] at hk
      obtain ⟨_, hk⟩ := hk
      rw [Bool.or_eq_true] at hk
      rcases hk with hk | hk
      · exact h k (by simpa using hk)
      · rw [List.any_eq_true] at hk
        obtain ⟨m, hm, hp⟩ := hk
        rcases h m hm with rfl | hl
        · exact .inr (ready_preds hr k hp)
        · exact .inr (hc m hl k hp)
theorem lastOp_waits {j i : Nat} {listed : Array Bool} (h : lastOp md ops j = true) (hc : closedL md ops listed) (hr : j ∈ Region.ready md ops listed) (hi : i < ops.size) (hne : i ≠ j) : listed.getD i false = true := by
  unfold lastOp at h
  rw [List.all_eq_true] at h
  have h1 := h i (List.mem_range.2 hi)
  rcases ancOp_listed hc hr 6 [j] (fun k hk => .inl (by simpa using hk)) i (by simpa using h1) with h2 | h2
  · exact absurd h2 hne
  · exact h2
theorem closedL_set {j : Nat} {listed : Array Bool} (hc : closedL md ops listed) (hr : j ∈ Region.ready md ops listed) : closedL md ops (listed.setIfInBounds j true) := by
  have keep : ∀ m, listed.getD m false = true → (listed.setIfInBounds j true).getD m false = true := fun m hm => by
    by_cases hjm : j = m
    · subst hjm
      rcases Nat.lt_or_ge j listed.size with h' | h'
      · simp [h']
      · simp [Array.getElem?_eq_none h'] at hm
    · rw [getD_set_ne false hjm]; exact hm
  intro k hk m hp
  by_cases hjk : j = k
  · subst hjk; exact keep m (ready_preds hr m hp)
  · rw [getD_set_ne false hjk] at hk; exact keep m (hc k hk m hp)
/-- The same, computed. -/
def closedB (md : Region.Mode) (ops : Array Oper) (listed : Array Bool) : Bool := (List.range listed.size).all fun k => !listed.getD k false || (match ops[k]? with | some o => o.after.all (fun e => !Region.binds md e || listed.getD e.on false) | none => true)
theorem closedB_spec {listed : Array Bool} (h : closedB md ops listed = true) : closedL md ops listed := by
  intro k hk m hp
  obtain ⟨o, ho, e, he, hb, hon⟩ := predOp_iff.1 hp
  unfold closedB at h
  rw [List.all_eq_true] at h
  have hlt : k < listed.size := by
    rcases Nat.lt_or_ge k listed.size with h' | h'
    · exact h'
    · simp [Array.getElem?_eq_none h'] at hk
  have h1 := h k (List.mem_range.2 hlt)
  rw [hk, ho] at h1
  have h1 : o.after.all (fun e => !Region.binds md e || listed.getD e.on false) = true := by simpa using h1
  rw [Array.all_eq_true_iff_forall_mem] at h1
  have h2 := h1 e he
  rw [hb] at h2
  subst hon
  simpa using h2
/-- Number i can be taken first, and what is listed is closed. -/
def freeC (md : Region.Mode) (ops : Array Oper) (listed : Array Bool) (i : Nat) : Bool := Region.free md ops listed i && closedB md ops listed
/-- Whatever order is picked, with S behind every operation that is carried out, but the last one. -/
def wpAnyHI (F : Fence) (n : Nat) (P : Program) (md : Region.Mode) (ops : Array Oper) (Q : Exit → Act → World → Prop) (S : World → Prop) : Nat → Array Bool → Act → World → Prop
  | 0, listed, a, w => Region.ready md ops listed = [] ∧ Q .normal a w
  | fuel + 1, listed, a, w =>
    (Region.ready md ops listed = [] → Q .normal a w) ∧
    ∀ i ∈ Region.ready md ops listed, wpOpIn F n P ops Q i (fun a' w' => (lastOp md ops i = false → S w') ∧ wpAnyHI F n P md ops Q S fuel (listed.setIfInBounds i true) a' w') a w
theorem wpAnyIn_of_held : ∀ (fuel : Nat) (listed : Array Bool) (a : Act) (w : World), wpAnyHI F n P md ops Q S fuel listed a w → wpAnyIn F n P md ops Q fuel listed a w
  | 0, _, _, _, h => h
  | fuel + 1, _, _, _, h => ⟨h.1, fun i hi => wpOpIn_mono (fun a' w' h' => wpAnyIn_of_held fuel _ a' w' h'.2) (h.2 i hi)⟩
theorem wpAnyHI_first {i : Nat} {oi : Oper} {v : Value} (hF : ∀ f, F.fn f) (hi : ops[i]? = some oi) (hsel : ∀ (j : Nat) (o : Oper) cs b, ops[j]? = some o → o.op ≠ .select cs b)
    (hdef : ∀ (j : Nat) (o : Oper) c, ops[j]? = some o → o.op ≠ .defer c) (hQ : ∀ c a w, Q (.panic c) (a.put oi.dst v) w → Q (.panic c) a w) :
    ∀ (fuel : Nat) (listed : Array Bool) (a : Act) (w : World),
      (∀ j oj, ops[j]? = some oj → j ≠ i → listed.getD j true = false → (∀ e ∈ oj.after, Region.binds md e = true → e.on ≠ i) → oi.apart ops oj = true) → closedL md ops listed →
      i ∈ Region.ready md ops listed → YieldsIf P ops S oi v a → S w →
      wpAnyHI F n P md ops Q S fuel (listed.setIfInBounds i true) (a.put oi.dst v) w → wpAnyHI F n P md ops Q S (fuel + 1) listed a w := by
  intro fuel
  induction fuel with
  | zero =>
    intro listed a w _ _ hr hy hS H
    refine ⟨fun h => (by rw [h] at hr; cases hr), fun j hj => ?_⟩
    by_cases hji : j = i
    · subst hji; exact YieldsIf.stepIn hF (fun c => hdef _ _ c hi) hi hy hS ⟨fun _ => hS, H⟩
    · have := ready_mono hj hji
      rw [H.1] at this
      cases this
  | succ fuel ih =>
    intro listed a w hfree hcl hr hy hS H
    refine ⟨fun h => (by rw [h] at hr; cases hr), fun j hj => ?_⟩
    by_cases hji : j = i
    · subst hji; exact YieldsIf.stepIn hF (fun c => hdef _ _ c hi) hi hy hS ⟨fun _ => hS, H⟩
    · have h1 := H.2 j (ready_mono hj hji)
      obtain ⟨hjun, oj, hoj, hall⟩ := mem_ready.1 hj
      have hnot : ∀ e ∈ oj.after, Region.binds md e = true → e.on ≠ i := fun e he hb heq => by
        have h1 := hall e he hb
        have h0 := (mem_ready.1 hr).1
        rw [heq] at h1
        rcases Nat.lt_or_ge i listed.size with h' | h'
        · simp [h'] at h0 h1; rw [h0] at h1; cases h1
        · simp [Array.getElem?_eq_none h'] at h1
      have h2 := wpOpIn_putH hF (fun c => hdef _ _ c hi) (fun c => hdef _ _ c hoj) hoj (hfree j oj hoj hji hjun hnot) (fun cs b => hsel i oi cs b hi) (fun cs b => hsel j oj cs b hoj) hQ hy h1
      have hfree' : ∀ k ok, ops[k]? = some ok → k ≠ i → (listed.setIfInBounds j true).getD k true = false →
          (∀ e ∈ ok.after, Region.binds md e = true → e.on ≠ i) → oi.apart ops ok = true := fun k ok hk hki hun hno => by
        refine hfree k ok hk hki ?_ hno
        by_cases hjk : j = k
        · subst hjk; exact hjun
        · rw [getD_set_ne true hjk] at hun; exact hun
      have hnl : lastOp md ops j = false := by
        cases hl : lastOp md ops j
        · rfl
        · have h5 := lastOp_waits hl hcl hj (Array.getElem?_eq_some_iff.1 hi).1 (Ne.symm hji)
          have h6 := (mem_ready.1 hr).1
          rcases Nat.lt_or_ge i listed.size with h' | h'
          · simp [h'] at h5 h6; rw [h5] at h6; cases h6
          · simp [Array.getElem?_eq_none h'] at h5
      refine wpOpIn_mono (fun a' w' h3 => ⟨h3.2.1, ih (listed.setIfInBounds j true) a' w' hfree' (closedL_set hcl hj) (ready_mono hr (Ne.symm hji)) h3.1 (h3.2.1 hnl) ?_⟩) h2
      rw [Array.setIfInBounds_comm _ _ hji]
      exact h3.2.2
/-- The region's operations can all be carried out here: no select, no defer. -/
def plainOps (ops : Array Oper) : Bool := Region.noSelect ops && noDefer ops
/-- Take number i first. -/
theorem heldTake (i : Nat) {oi : Oper} {v : Value} {fuel : Nat} {listed : Array Bool} {a : Act} {w : World} (hF : ∀ f, F.fn f) (hi : ops[i]? = some oi)
    (hs : plainOps ops = true) (hf : freeC md ops listed i = true) (hr : (Region.ready md ops listed).contains i = true)
    (hQ : ∀ c a w, Q (.panic c) (a.put oi.dst v) w → Q (.panic c) a w) (hS : S w) (hw : Region.wanted oi (yielded ops a.tmps) = true)
    (hy : ∀ w, S w → (execOp a.eval oi).run P w = .ok (.value v) w)
    (h : wpAnyHI F n P md ops Q S fuel (listed.setIfInBounds i true) (a.put oi.dst v) w) : wpAnyHI F n P md ops Q S (fuel + 1) listed a w := by
  simp only [plainOps, Bool.and_eq_true] at hs
  simp only [freeC, Bool.and_eq_true] at hf
  exact wpAnyHI_first hF hi (Region.noSelect_spec hs.1) (noDefer_spec hs.2) hQ fuel listed a w (Region.free_spec hi hf.1) (closedB_spec hf.2) (by simpa using hr) (.inl ⟨hw, hy⟩) hS h
/-- Take number i first, where its guard says no. -/
theorem heldSkip (i : Nat) {oi : Oper} {fuel : Nat} {listed : Array Bool} {a : Act} {w : World} (hF : ∀ f, F.fn f) (hi : ops[i]? = some oi)
    (hs : plainOps ops = true) (hf : freeC md ops listed i = true) (hr : (Region.ready md ops listed).contains i = true)
    (hQ : ∀ c a w, Q (.panic c) (a.put oi.dst undef) w → Q (.panic c) a w) (hS : S w) (hw : Region.wanted oi (yielded ops a.tmps) = false)
    (h : wpAnyHI F n P md ops Q S fuel (listed.setIfInBounds i true) (a.put oi.dst undef) w) : wpAnyHI F n P md ops Q S (fuel + 1) listed a w := by
  simp only [plainOps, Bool.and_eq_true] at hs
  simp only [freeC, Bool.and_eq_true] at hf
  exact wpAnyHI_first hF hi (Region.noSelect_spec hs.1) (noDefer_spec hs.2) hQ fuel listed a w (Region.free_spec hi hf.1) (closedB_spec hf.2) (by simpa using hr) (.inr ⟨hw, rfl⟩) hS h
/-- Only number i can come up. -/
theorem heldNext (i : Nat) {oi : Oper} {fuel : Nat} {listed : Array Bool} {a : Act} {w : World} (hr : Region.ready md ops listed = [i]) (hi : ops[i]? = some oi) (hw : Region.wanted oi (yielded ops a.tmps) = true)
    (h : ∀ K : Act → World → Prop, (∀ a' w', (lastOp md ops i = false → S w') → wpAnyHI F n P md ops Q S fuel (listed.setIfInBounds i true) a' w' → K a' w') → oi.wpIn F n P a w K Q) : wpAnyHI F n P md ops Q S (fuel + 1) listed a w := by
  refine ⟨fun h0 => (by rw [h0] at hr; cases hr), fun j hj => ?_⟩
  rw [hr] at hj
  cases List.mem_singleton.1 hj
  unfold wpOpIn
  simp only [hi, hw, if_true]
  exact h _ fun a' w' h1 h2 => ⟨h1, h2⟩
/-- The last one, that waits for all others. -/
theorem heldLast (i : Nat) {oi : Oper} {fuel : Nat} {listed : Array Bool} {a : Act} {w : World} (hr : Region.ready md ops listed = [i]) (hi : ops[i]? = some oi) (hl : lastOp md ops i = true) (hd : Region.ready md ops (listed.setIfInBounds i true) = [])
    (hw : Region.wanted oi (yielded ops a.tmps) = true) (h : ∀ K : Act → World → Prop, (∀ a' w', Q .normal a' w' → K a' w') → oi.wpIn F n P a w K Q) : wpAnyHI F n P md ops Q S (fuel + 1) listed a w := by
  refine ⟨fun h0 => (by rw [h0] at hr; cases hr), fun j hj => ?_⟩
  rw [hr] at hj
  cases List.mem_singleton.1 hj
  unfold wpOpIn
  simp only [hi, hw, if_true]
  refine h _ fun a' w' h1 => ⟨fun h2 => (by rw [hl] at h2; cases h2), ?_⟩
  cases fuel with
  | zero => exact ⟨hd, h1⟩
  | succ f => exact ⟨fun _ => h1, by rw [hd]; simp⟩
theorem heldDone {listed : Array Bool} {a : Act} {w : World} (hr : Region.ready md ops listed = []) (h : Q .normal a w) :
    ∀ fuel, wpAnyHI F n P md ops Q S fuel listed a w
  | 0 => ⟨hr, h⟩
  | _ + 1 => ⟨fun _ => h, by rw [hr]; simp⟩
theorem heldRegion (S : World → Prop) {id : Nat} {a : Act} {w : World} (hm : P.follows .mixedOrders = true)
    (h : wpAnyHI F n P .any ops Q S ops.size (Array.replicate ops.size false) a w.drew) : (Code.region id ops true).wpIn F n P Q a w :=
  wpIn_region_any hm (wpAnyIn_of_held _ _ _ _ h)
end
section
variable {F : Fence} {n : Nat} {P : Program} {Q : Exit → Act → World → Prop} {a : Act} {w : World} {b : Frame} {k : List Item} {cs : List Frame}
theorem stepScopeR {c : Code} : step P (lone (b.atR a (.code (.scope c) :: k)) cs w) = .next (lone (b.atR a (.code c :: .inScope c :: k)) cs w) :=
  step_lone_go (by simp [stepG, stepG.exec, Frame.atR])
theorem stepInScopeR {c : Code} : step P (lone (b.atR a (.inScope c :: k)) cs w) = .next (lone (b.atR a k) cs w) :=
  step_lone_go (by simp [stepG, stepG.exec, Frame.atR])
/-- A scope through which the run goes without a goto, inside a fence. -/
theorem scopeIn {c : Code} (h : c.wpIn F n P (Exit.noGoto Q) a w) : (Code.scope c).wpIn F n P Q a w := by
  intro b k cs hro hb hr
  have h0 : (lone (b.atR a (.code (.scope c) :: k)) cs w).fenced P F := fenced_calm hb hr rfl
  obtain ⟨e, a₁, w₁, hq, harr⟩ := h b (.inScope c :: k) cs hro hb hr
  cases e with
  | normal => exact ⟨.normal, a₁, w₁, hq, .head h0 stepScopeR (StepsIn.trans harr (.one (fenced_calm hb hr rfl) stepInScopeR))⟩
  | exit id =>
    have hx : exitTo id (.inScope c :: k) = exitTo id k := by simp [exitTo]
    exact ⟨.exit id, a₁, w₁, hq, fun k' hk => .head h0 stepScopeR (harr.1 k' (by rw [hx]; exact hk)),
      fun hr' hk => let ⟨k₁, h1, h2⟩ := harr.2 hr' (by rw [hx]; exact hk); ⟨k₁, h1, .head h0 stepScopeR h2⟩⟩
  | goto l => exact hq.elim
  | ret => exact ⟨_, a₁, w₁, hq, .of_steps (.one h0 stepScopeR) harr⟩
  | panic ch => exact ⟨_, a₁, w₁, hq, .of_steps (.one h0 stepScopeR) harr⟩
  | outgrown => exact ⟨_, a₁, w₁, hq, .of_steps (.one h0 stepScopeR) harr⟩
end
end Go.Proofs.Ytdfaekanndpgfaa
