import Derived.Test.YtdfaekanndpgfaaHeld
import Derived.Test.YtdfaekanndpgfaaCopy
/- Regions that draw their order, by an invariant over what is done. Append of rows: in which block the appended row lies. -/
set_option linter.unusedSimpArgs false
set_option linter.unusedVariables false
namespace Go.Proofs.Ytdfaekanndpgfaa
def updL (L : Nat → Bool) (i : Nat) (k : Nat) : Bool := k == i || L k
def lookL (listed : Array Bool) (k : Nat) : Bool := listed.getD k false
theorem look_set {listed : Array Bool} {i : Nat} (h : i < listed.size) : lookL (listed.setIfInBounds i true) = updL (lookL listed) i := by
  funext k
  unfold lookL updL
  by_cases e : i = k
  · subst e; simp [h]
  · rw [getD_set_ne false e]
    have : (k == i) = false := by simp; omega
    rw [this, Bool.false_or]
theorem look_none (n : Nat) : lookL (Array.replicate n false) = fun _ => false := by
  funext k
  unfold lookL
  by_cases h : k < n
  · simp [h]
  · simp [Array.getElem?_eq_none, h]
section
variable {F : Fence} {n : Nat} {P : Program} {ops : Array Oper} {Q : Exit → Act → World → Prop} {md : Region.Mode}
/-- Each operation waits for earlier ones alone. -/
def backB (md : Region.Mode) (ops : Array Oper) : Bool := (List.range ops.size).all fun k => match ops[k]? with | some o => o.after.all (fun e => !Region.binds md e || decide (e.on < k)) | none => true
theorem backB_spec (h : backB md ops = true) {k m : Nat} (hk : predOp md ops k m = true) : m < k := by
  obtain ⟨o, ho, e, he, hbd, rfl⟩ := predOp_iff.1 hk
  unfold backB at h
  rw [List.all_eq_true] at h
  have h1 := h k (List.mem_range.2 (Array.getElem?_eq_some_iff.1 ho).1)
  rw [ho] at h1
  have h1 : o.after.all (fun e => !Region.binds md e || decide (e.on < k)) = true := h1
  rw [Array.all_eq_true_iff_forall_mem] at h1
  simpa [hbd] using h1 e he
theorem all_listed (hb : backB md ops = true) {listed : Array Bool} (hs : listed.size = ops.size) (h : Region.ready md ops listed = []) : ∀ i, i < ops.size → lookL listed i = true := by
  intro i
  induction i using Nat.strongRecOn with
  | _ i ih =>
    intro hi
    cases hc : lookL listed i
    · exfalso
      have hm : i ∈ Region.ready md ops listed := by
        refine mem_ready.2 ⟨?_, ops[i], by simp [hi], fun e he hbd => ?_⟩
        · unfold lookL at hc
          have h' : i < listed.size := by omega
          simp [h'] at hc ⊢
          exact hc
        · have hp : predOp md ops i e.on = true := predOp_iff.2 ⟨ops[i], by simp [hi], e, he, hbd, rfl⟩
          have hl := backB_spec hb hp
          exact ih e.on hl (by omega)
      rw [h] at hm; cases hm
    · rfl
theorem countP_set_lt {l : List Bool} {i : Nat} (h : i < l.length) (hf : l[i] = false) : (l.set i true).countP (fun b => !b) + 1 = l.countP (fun b => !b) := by
  induction l generalizing i with
  | nil => simp at h
  | cons x t ih =>
    cases i with
    | zero => simp at hf; subst hf; simp
    | succ j =>
      have h1 : j < t.length := by simpa using h
      have h2 := ih h1 (by simpa using hf)
      rw [List.set_cons_succ, List.countP_cons, List.countP_cons]; omega
theorem anyInv {J : (Nat → Bool) → Act → World → Prop} (hb : backB md ops = true)
    (hstep : ∀ (L : Nat → Bool) a w i, i < ops.size → J L a w → L i = false → (∀ m, predOp md ops i m = true → L m = true) → (∀ k m, L k = true → predOp md ops k m = true → L m = true) → wpOpIn F n P ops Q i (J (updL L i)) a w)
    (hend : ∀ L a w, J L a w → (∀ i, i < ops.size → L i = true) → Q .normal a w) :
    ∀ (fuel : Nat) (listed : Array Bool) (a : Act) (w : World), listed.size = ops.size → closedL md ops listed → J (lookL listed) a w → listed.toList.countP (fun b => !b) ≤ fuel → wpAnyIn F n P md ops Q fuel listed a w := by
  intro fuel
  induction fuel with
  | zero =>
    intro listed a w hs hc hJ hf
    have hr : Region.ready md ops listed = [] := by
      cases hr : Region.ready md ops listed with
      | nil => rfl
      | cons j t =>
        exfalso
        have hj : j ∈ Region.ready md ops listed := by rw [hr]; simp
        obtain ⟨h1, o, ho, _⟩ := mem_ready.1 hj
        have hlt := (Array.getElem?_eq_some_iff.1 ho).1
        have hl : j < listed.size := by omega
        have h2 : listed.toList[j] = false := by simp [hl] at h1 ⊢; exact h1
        have := countP_set_lt (by simpa using hl) h2
        omega
    exact ⟨hr, hend _ a w hJ (all_listed hb hs hr)⟩
  | succ fuel ih =>
    intro listed a w hs hc hJ hf
    refine ⟨fun hr => hend _ a w hJ (all_listed hb hs hr), fun i hi => ?_⟩
    obtain ⟨h1, o, ho, _⟩ := mem_ready.1 hi
    have hlt := (Array.getElem?_eq_some_iff.1 ho).1
    have hl : i < listed.size := by omega
    have h2 : listed.toList[i] = false := by simp [hl] at h1 ⊢; exact h1
    have h3 : lookL listed i = false := by unfold lookL; simp [hl] at h1 ⊢; exact h1
    refine wpOpIn_mono (fun a' w' hk => ?_) (hstep (lookL listed) a w i hlt hJ h3 (fun m hm => ready_preds hi m hm) (fun k m hk hp => hc k hk m hp))
    refine ih _ a' w' (by simpa using hs) (closedL_set hc hi) (by rw [look_set hl]; exact hk) ?_
    have := countP_set_lt (by simpa using hl) h2
    rw [Array.toList_setIfInBounds]
    omega
theorem regionInv {id : Nat} {a : Act} {w : World} (J : (Nat → Bool) → Act → World → Prop) (hm : P.follows .mixedOrders = true) (hb : backB .any ops = true) (h0 : J (fun _ => false) a w.drew)
    (hstep : ∀ (L : Nat → Bool) a w i, i < ops.size → J L a w → L i = false → (∀ m, predOp .any ops i m = true → L m = true) → (∀ k m, L k = true → predOp .any ops k m = true → L m = true) → wpOpIn F n P ops Q i (J (updL L i)) a w)
    (hend : ∀ L a w, J L a w → (∀ i, i < ops.size → L i = true) → Q .normal a w) : (Code.region id ops true).wpIn F n P Q a w := by
  refine wpIn_region_any hm (anyInv hb hstep hend _ _ _ _ (by simp) (fun k hk => ?_) (by rw [look_none]; exact h0) ?_)
  · exfalso
    have := congrFun (look_none ops.size) k
    unfold lookL at this
    rw [this] at hk; cases hk
  · rw [Array.toList_replicate]
    exact Nat.le_trans List.countP_le_length (by simp)
theorem opInv {i : Nat} {o : Oper} {a : Act} {w : World} {K0 : Act → World → Prop} (hi : ops[i]? = some o) (hw : Region.wanted o (yielded ops a.tmps) = true)
    (h : ∀ K : Act → World → Prop, (∀ a' w', K0 a' w' → K a' w') → o.wpIn F n P a w K Q) : wpOpIn F n P ops Q i K0 a w := by
  unfold wpOpIn
  simp only [hi, hw, if_true]
  exact h _ fun a' w' h1 => h1
end
/-! The slots that a region fills. -/
def putU (u : Nat → Value) (k : Nat) (v : Value) : Nat → Value := fun j => if j = k then v else u j
def setU (ks : List Nat) (a : Act) (u : Nat → Value) : Act := { a with tmps := ks.foldl (fun t k => t.setIfInBounds k (u k)) a.tmps }
theorem setU_get (u : Nat → Value) (j : Nat) : ∀ (ks : List Nat) (t : Array Value), (ks.foldl (fun t k => t.setIfInBounds k (u k)) t)[j]? = if j ∈ ks ∧ j < t.size then some (u j) else t[j]?
  | [], t => by simp
  | k :: ks, t => by
    rw [List.foldl_cons, setU_get u j ks]
    by_cases e : k = j
    · subst e
      by_cases hs : k < t.size
      · simp [hs]
      · simp [hs, Array.getElem?_eq_none]
    · have : ¬ j = k := fun h => e h.symm
      simp [Array.getElem?_setIfInBounds_ne e, this]
theorem setU_size (u : Nat → Value) : ∀ (ks : List Nat) (t : Array Value), (ks.foldl (fun t k => t.setIfInBounds k (u k)) t).size = t.size
  | [], t => rfl
  | k :: ks, t => by rw [List.foldl_cons, setU_size u ks]; simp
theorem put_setU {ks : List Nat} {a : Act} {u : Nat → Value} {k : Nat} {v : Value} (hk : k ∈ ks) : (setU ks a u).put (some k) v = setU ks a (putU u k v) := by
  have key : (setU ks a u).tmps.setIfInBounds k v = (setU ks a (putU u k v)).tmps := by
    refine Array.ext_getElem? fun j => ?_
    unfold setU
    dsimp only
    rw [setU_get]
    by_cases e : k = j
    · subst e
      rw [Array.getElem?_setIfInBounds_self]
      rw [setU_size]
      by_cases hs : k < a.tmps.size
      · simp [hs, hk, putU]
      · simp [hs, Array.getElem?_eq_none]
    · rw [Array.getElem?_setIfInBounds_ne e, setU_get]
      have : ¬ j = k := fun h => e h.symm
      simp [putU, this]
  show (⟨(setU ks a u).tmps.setIfInBounds k v, a.defers⟩ : Act) = ⟨(setU ks a (putU u k v)).tmps, a.defers⟩
  rw [key]
theorem setU_self (ks : List Nat) (a : Act) : setU ks a (fun k => a.tmps.getD k undef) = a := by
  unfold setU
  show (⟨_, a.defers⟩ : Act) = a
  cases a with
  | mk t d =>
    congr 1
    refine Array.ext_getElem? fun j => ?_
    rw [setU_get]
    split
    · rename_i h; simp [h.2]
    · rfl
section
variable {F : Fence} {n : Nat} {P : Program} {ops : Array Oper} {Q : Exit → Act → World → Prop} {md : Region.Mode}
theorem setU_eval {ks : List Nat} {a : Act} {u : Nat → Value} {k : Nat} (hk : k ∈ ks) (hs : k < a.tmps.size) : (setU ks a u).eval (.tmp k) = u k := by
  show (setU ks a u).tmps.getD k undef = u k
  unfold setU
  rw [Array.getD_eq_getD_getElem?, setU_get, if_pos ⟨hk, hs⟩]; rfl
theorem setU_evalN {ks : List Nat} {a : Act} {u : Nat → Value} {k : Nat} (hk : k ∉ ks) : (setU ks a u).eval (.tmp k) = a.eval (.tmp k) := by
  show (setU ks a u).tmps.getD k undef = a.tmps.getD k undef
  unfold setU
  rw [Array.getD_eq_getD_getElem?, Array.getD_eq_getD_getElem?, setU_get, if_neg (fun h => hk h.1)]
/-- A region that draws its order: each operation fills a slot of its own, and keeps what holds of those that are done. -/
theorem regionInvU {id : Nat} {a : Act} {w : World} (ks : List Nat) (G : (Nat → Bool) → (Nat → Value) → World → Prop) (hm : P.follows .mixedOrders = true) (hb : backB .any ops = true) (hsz : ∀ k, k ∈ ks → k < a.tmps.size) (h0 : G (fun _ => false) (fun k => a.tmps.getD k undef) w.drew)
    (hstep : ∀ (L : Nat → Bool) (u : Nat → Value) w i (A : Act), (∀ k, k ∈ ks → A.eval (.tmp k) = u k) → (∀ k, k ∉ ks → A.eval (.tmp k) = a.eval (.tmp k)) → i < ops.size → G L u w → L i = false → (∀ m, predOp .any ops i m = true → L m = true) → (∀ k m, L k = true → predOp .any ops k m = true → L m = true) →
      ∀ K : Act → World → Prop, (∀ k v w', k ∈ ks → G (updL L i) (putU u k v) w' → K (A.put (some k) v) w') → wpOpIn F n P ops Q i K A w)
    (hend : ∀ (L : Nat → Bool) u w, G L u w → (∀ i, i < ops.size → L i = true) → Q .normal (setU ks a u) w) : (Code.region id ops true).wpIn F n P Q a w := by
  refine regionInv (fun L a' w' => ∃ u, a' = setU ks a u ∧ G L u w') hm hb ⟨_, (setU_self ks a).symm, h0⟩ ?_ ?_
  · rintro L _ w i hi ⟨u, rfl, hG⟩ h1 h2 h3
    refine hstep L u w i _ (fun k hk => setU_eval hk (hsz k hk)) (fun k hk => setU_evalN hk) hi hG h1 h2 h3 _ fun k v w' hk h => ⟨_, put_setU hk, h⟩
  · rintro L _ w ⟨u, rfl, hG⟩ h1
    exact hend L u w hG h1
/-- An operation that runs, and hands on a value. -/
theorem opRun {i : Nat} {o : Oper} {v : Value} {a : Act} {w w' : World} {K : Act → World → Prop} (hF : ∀ f, F.fn f) (hi : ops.toList[i]? = some o) (hd : ∀ c, o.op ≠ .defer c) (hw : Region.wanted o (yielded ops a.tmps) = true) {k : Nat} (hdst : o.dst = some k)
    (hr : (execOp a.eval o).run P w = .ok (.value v) w') (h : K (a.put (some k) v) w') : wpOpIn F n P ops Q i K a w := by
  rw [Array.getElem?_toList] at hi
  unfold wpOpIn
  simp only [hi, hw, if_true]
  unfold Oper.wpIn
  refine ⟨fun f _ => hF f, ?_⟩
  rw [Oper.semAt_eq _ _ _ hd, hr]
  show K (a.put o.dst v) w'
  rw [hdst]; exact h
theorem opCall {i : Nat} {o : Oper} {f : FuncId} {args : Array Value} {a : Act} {w w' : World} {K : Act → World → Prop} (hF : ∀ f, F.fn f) (hn : F.depth.isSome = true → 1 ≤ n) (hi : ops.toList[i]? = some o) (hd : ∀ c, o.op ≠ .defer c)
    (hw : Region.wanted o (yielded ops a.tmps) = true) {k : Nat} (hdst : o.dst = some k) (hr : (execOp a.eval o).run P w = .ok (.enter f args) w') {R : Ending → World → Prop} (hc : CallsIn F (n - 1) P f args w' R) (h : ∀ e w'', R e w'' → ∃ v, e = .returned v ∧ K (a.put (some k) v) w'') : wpOpIn F n P ops Q i K a w := by
  rw [Array.getElem?_toList] at hi
  unfold wpOpIn
  simp only [hi, hw, if_true]
  unfold Oper.wpIn
  refine ⟨fun f _ => hF f, ?_⟩
  rw [Oper.semAt_eq _ _ _ hd, hr]
  refine ⟨hn, CallsIn.mono hc ?_⟩
  intro e w'' he
  obtain ⟨v, rfl, hk⟩ := h e w'' he
  show K (a.put o.dst v) w''
  rw [hdst]; exact hk
theorem run_append {w : World} {o : Oper} {a : Act} (d s : Operand) (t t' : TypeId) (ho : o.op = .call { callee := .builtin .append, args := #[d, s], argTypes := #[t, t'] }) {v u v' : Value} {w' : World} (hd : a.eval d = v) (hs : a.eval s = u)
    (hr : (Builtin.append_ #[t, t'] o.type #[v, u]).run P w = .ok v' w') : (execOp a.eval o).run P w = .ok (.value v') w' := by
  simp [execOp, ho, resolve, invoke, builtin, hd, hs, hr, Result.andThen]
end
/-- The act with the values of a region in its slots. -/
def setV (sl : List Nat) (vs : List Value) (a : Act) : Act := { a with tmps := (sl.zip vs).foldl (fun t p => t.setIfInBounds p.1 p.2) a.tmps }
theorem setU_setV {a : Act} {u : Nat → Value} : ∀ {sl : List Nat} {vs : List Value} {t : Array Value}, sl.length = vs.length → (∀ i, i < sl.length → u (sl.getD i 0) = vs.getD i undef) →
    sl.foldl (fun t k => t.setIfInBounds k (u k)) t = (sl.zip vs).foldl (fun t p => t.setIfInBounds p.1 p.2) t
  | [], vs, t, _, _ => rfl
  | s :: sl, [], t, h, _ => by simp at h
  | s :: sl, v :: vs, t, h, hv => by
    have h0 := hv 0 (by simp)
    have h0 : u s = v := by simpa using h0
    rw [List.foldl_cons, List.zip_cons_cons, List.foldl_cons, h0]
    exact setU_setV (a := a) (by simpa using h) fun i hi => by simpa using hv (i + 1) (by simpa using hi)
section
variable {F : Fence} {n : Nat} {P : Program} {ops : Array Oper} {Q : Exit → Act → World → Prop} {md : Region.Mode}
theorem regionVals {id : Nat} {a : Act} {w : World} (sl : List Nat) (vs : List Value) (R : (Nat → Bool) → World → Prop) (hm : P.follows .mixedOrders = true) (hb : backB .any ops = true) (hn : sl.Nodup) (hl : sl.length = ops.size) (hlv : vs.length = sl.length)
    (hsz : ∀ k, k ∈ sl → k < a.tmps.size) (h0 : R (fun _ => false) w.drew)
    (hstep : ∀ (L : Nat → Bool) w i (A : Act), i < ops.size → R L w → L i = false → (∀ m, predOp .any ops i m = true → L m = true) → (∀ k m, L k = true → predOp .any ops k m = true → L m = true) →
      (∀ m, m < ops.size → L m = true → A.eval (.tmp (sl.getD m 0)) = vs.getD m undef) → (∀ k, k ∉ sl → A.eval (.tmp k) = a.eval (.tmp k)) →
      ∀ K : Act → World → Prop, (∀ w', R (updL L i) w' → K (A.put (some (sl.getD i 0)) (vs.getD i undef)) w') → wpOpIn F n P ops Q i K A w)
    (hend : ∀ (L : Nat → Bool) w, R L w → (∀ i, i < ops.size → L i = true) → Q .normal (setV sl vs a) w) : (Code.region id ops true).wpIn F n P Q a w := by
  have hget : ∀ i, i < sl.length → sl.getD i 0 ∈ sl := fun i hi => by simp [List.getD, hi]
  refine regionInvU sl (fun L u w => R L w ∧ ∀ i, i < ops.size → L i = true → u (sl.getD i 0) = vs.getD i undef) hm hb hsz ⟨h0, fun i _ h => by cases h⟩ ?_ ?_
  · rintro L u w i A hev hevn hi ⟨hR, hu⟩ hLi hpr hcl K hK
    refine hstep L w i A hi hR hLi hpr hcl (fun m hm hL => ?_) hevn K fun w' hR' => ?_
    · rw [hev _ (hget m (by omega))]; exact hu m hm hL
    · refine hK _ _ _ (hget i (by omega)) ⟨hR', fun m hm hL => ?_⟩
      unfold putU
      by_cases e : m = i
      · subst e; rw [if_pos rfl]
      · rw [if_neg]
        · refine hu m hm ?_
          unfold updL at hL
          have : (m == i) = false := by simp [e]
          rw [this, Bool.false_or] at hL
          exact hL
        · intro h
          have hm' : m < sl.length := by omega
          have hi' : i < sl.length := by omega
          have h1 : sl[m] = sl[i] := by simpa [List.getD, hm', hi'] using h
          exact e ((List.getElem_inj hn).1 h1)
  · rintro L u w ⟨hR, hu⟩ hall
    have e : setU sl a u = setV sl vs a := by
      unfold setU setV
      rw [setU_setV (a := a) hlv.symm fun i hi => hu i (by omega) (hall i (by omega))]
    rw [e]
    exact hend L w hR hall
theorem wanted_at {o oj : Oper} {j k : Nat} {b c : Bool} {A : Act} (hg : o.guard = some (j, b)) (hj : ops[j]? = some oj) (hd : oj.dst = some k) (hv : A.eval (.tmp k) = .bool c) : Region.wanted o (yielded ops A.tmps) = (c == b) := by
  unfold Region.wanted yielded
  rw [hg]
  dsimp only
  have hv' : A.tmps.getD k undef = .bool c := hv
  have h2 : A.tmps[k]? = some (.bool c) := by
    rw [Array.getD_eq_getD_getElem?] at hv'
    cases h : A.tmps[k]? with
    | none => rw [h] at hv'; exact absurd hv' (by simp [undef])
    | some x => rw [h] at hv'; exact congrArg some hv'
  simp only [hj, hd, Option.bind_some, h2]
  cases b <;> cases c <;> rfl
/-- An operation that its guard leaves out. -/
theorem opSkip {i : Nat} {o : Oper} {a : Act} {w : World} {K : Act → World → Prop} (hF : ∀ f, F.fn f) (hi : ops.toList[i]? = some o) (hw : Region.wanted o (yielded ops a.tmps) = false) {k : Nat} (hdst : o.dst = some k) (h : K (a.put (some k) undef) w) : wpOpIn F n P ops Q i K a w := by
  rw [Array.getElem?_toList] at hi
  unfold wpOpIn
  simp only [hi, hw, Bool.false_eq_true, if_false]
  exact ⟨fun f _ => hF f, by rw [hdst]; exact h⟩
end
def setP (ps : List (Nat × Value)) (a : Act) : Act := { a with tmps := ps.foldl (fun t p => t.setIfInBounds p.1 p.2) a.tmps }
theorem setU_setP {u : Nat → Value} : ∀ {ps : List (Nat × Value)} {t : Array Value}, (∀ p, p ∈ ps → u p.1 = p.2) → (ps.map Prod.fst).foldl (fun t k => t.setIfInBounds k (u k)) t = ps.foldl (fun t p => t.setIfInBounds p.1 p.2) t
  | [], t, _ => rfl
  | p :: ps, t, h => by
    rw [List.map_cons, List.foldl_cons, List.foldl_cons, h p (by simp)]
    exact setU_setP fun q hq => h q (by simp [hq])
/-- No slot is filled twice. -/
def slotB (sl : List (Option Nat)) : Bool := (List.range sl.length).all fun i => (List.range sl.length).all fun j => i == j || (sl.getD i none).isNone || sl.getD i none != sl.getD j none
theorem slotB_spec {sl : List (Option Nat)} (h : slotB sl = true) {i j k : Nat} (hi : i < sl.length) (hj : j < sl.length) (hne : i ≠ j) (e : sl.getD i none = some k) : sl.getD j none ≠ some k := by
  unfold slotB at h
  rw [List.all_eq_true] at h
  have h1 := h i (List.mem_range.2 hi)
  rw [List.all_eq_true] at h1
  have h2 := h1 j (List.mem_range.2 hj)
  intro e2
  rw [e, e2] at h2
  simp [hne] at h2
section
variable {F : Fence} {n : Nat} {P : Program} {ops : Array Oper} {Q : Exit → Act → World → Prop} {md : Region.Mode}
theorem regionValsS {id : Nat} {a : Act} {w : World} (sl : List (Option Nat)) (vs : List Value) (ks : List Nat) (ps : List (Nat × Value)) (R : (Nat → Bool) → World → Prop) (hm : P.follows .mixedOrders = true) (hb : backB .any ops = true) (hn : slotB sl = true) (hl : sl.length = ops.size)
    (hks : ks = ps.map Prod.fst) (hkl : ks = sl.filterMap fun x => x) (hps : ps = (sl.zip vs).filterMap fun p => p.1.map fun k => (k, p.2)) (hsz : ∀ k, k ∈ ks → k < a.tmps.size) (h0 : R (fun _ => false) w.drew)
    (hstep : ∀ (L : Nat → Bool) w i (A : Act), i < ops.size → R L w → L i = false → (∀ m, predOp .any ops i m = true → L m = true) → (∀ k m, L k = true → predOp .any ops k m = true → L m = true) →
      (∀ m k, sl.getD m none = some k → L m = true → A.eval (.tmp k) = vs.getD m undef) → (∀ k, k ∉ ks → A.eval (.tmp k) = a.eval (.tmp k)) →
      ∀ K : Act → World → Prop, (∀ k w', sl.getD i none = some k → R (updL L i) w' → K (A.put (some k) (vs.getD i undef)) w') → (∀ w', sl.getD i none = none → R (updL L i) w' → K A w') → wpOpIn F n P ops Q i K A w)
    (hend : ∀ (L : Nat → Bool) w, R L w → (∀ i, i < ops.size → L i = true) → Q .normal (setP ps a) w) : (Code.region id ops true).wpIn F n P Q a w := by
  have hget : ∀ i k, sl.getD i none = some k → i < sl.length ∧ k ∈ ks := fun i k h => by
    have hi : i < sl.length := by
      rcases Nat.lt_or_ge i sl.length with h' | h'
      · exact h'
      · simp [List.getD, List.getElem?_eq_none h'] at h
    refine ⟨hi, ?_⟩
    rw [hkl, List.mem_filterMap]
    refine ⟨sl[i], List.getElem_mem hi, ?_⟩
    simpa [List.getD, hi] using h
  refine regionInv (fun L a' w' => ∃ u, a' = setU ks a u ∧ R L w' ∧ ∀ i k, sl.getD i none = some k → L i = true → u k = vs.getD i undef) hm hb ⟨_, (setU_self ks a).symm, h0, fun i k _ h => by cases h⟩ ?_ ?_
  · rintro L _ w i hi ⟨u, rfl, hR, hu⟩ hLi hpr hcl
    refine hstep L w i _ hi hR hLi hpr hcl (fun m k hm hL => ?_) (fun k hk => setU_evalN hk) _ (fun k w' hk hR' => ?_) (fun w' hk hR' => ?_)
    · have hmem := (hget m k hm).2
      rw [setU_eval hmem (hsz k hmem)]; exact hu m k hm hL
    · obtain ⟨hil, hmem⟩ := hget i k hk
      refine ⟨_, put_setU hmem, hR', fun m k' hm hL => ?_⟩
      unfold putU
      by_cases e : m = i
      · subst e
        rw [hk] at hm
        cases hm
        rw [if_pos rfl]
      · have hne : ¬ k' = k := fun h => by
          subst h
          exact slotB_spec hn hil (hget m k' hm).1 (Ne.symm e) hk hm
        rw [if_neg hne]
        refine hu m k' hm ?_
        unfold updL at hL
        have : (m == i) = false := by simp [e]
        rw [this, Bool.false_or] at hL
        exact hL
    · refine ⟨u, rfl, hR', fun m k' hm hL => ?_⟩
      by_cases e : m = i
      · subst e
        rw [hk] at hm; cases hm
      · refine hu m k' hm ?_
        unfold updL at hL
        have : (m == i) = false := by simp [e]
        rw [this, Bool.false_or] at hL
        exact hL
  · rintro L _ w ⟨u, rfl, hR, hu⟩ hall
    have e : setU ks a u = setP ps a := by
      unfold setU setP
      rw [hks, setU_setP fun p hp => ?_]
      rw [hps, List.mem_filterMap] at hp
      obtain ⟨q, hq, hq2⟩ := hp
      obtain ⟨i, hi, rfl⟩ := List.mem_iff_getElem.1 hq
      rw [List.getElem_zip] at hq2
      dsimp only at hq2
      have hi2 : i < sl.length ∧ i < vs.length := by simpa [List.length_zip, Nat.lt_min] using hi
      cases h : sl[i]'hi2.1 with
      | none => rw [h] at hq2; cases hq2
      | some k =>
        rw [h] at hq2
        simp only [Option.map_some, Option.some.injEq] at hq2
        subst hq2
        have h2 := hu i k (by simp [List.getD, hi2.1, h]) (hall i (by omega))
        rw [h2]; simp [List.getD, hi2.2]
    rw [e]
    exact hend L w hR hall
/-- An operation that runs, and fills no slot. -/
theorem opStore {i : Nat} {o : Oper} {a : Act} {w w' : World} {K : Act → World → Prop} (hF : ∀ f, F.fn f) (hi : ops.toList[i]? = some o) (hd : ∀ c, o.op ≠ .defer c) (hw : Region.wanted o (yielded ops a.tmps) = true) (hdst : o.dst = none)
    (hr : (execOp a.eval o).run P w = .ok .skip w') (h : K a w') : wpOpIn F n P ops Q i K a w := by
  rw [Array.getElem?_toList] at hi
  unfold wpOpIn
  simp only [hi, hw, if_true]
  unfold Oper.wpIn
  refine ⟨fun f _ => hF f, ?_⟩
  rw [Oper.semAt_eq _ _ _ hd, hr]
  show K (a.put o.dst undef) w'
  rw [hdst]; exact h
end
theorem pair_uniq {sl : List (Option Nat)} (h : slotB sl = true) {q m k : Nat} (hq : sl.getD q none = some k) (hm : sl.getD m none = some k) : m = q := by
  have lt : ∀ i, sl.getD i none = some k → i < sl.length := fun i hi => by
    rcases Nat.lt_or_ge i sl.length with h' | h'
    · exact h'
    · simp [List.getD, List.getElem?_eq_none h'] at hi
  by_cases e : m = q
  · exact e
  · exact absurd hq (slotB_spec h (lt m hm) (lt q hq) e hm)
section
variable {F : Fence} {n : Nat} {P : Program} {ops : Array Oper} {Q : Exit → Act → World → Prop} {md : Region.Mode}
/-- The same, where a slot that is filled late is read ahead. -/
theorem regionValsT {id : Nat} {a : Act} {w : World} (sl : List (Option Nat)) (vs : List Value) (ks : List Nat) (ps : List (Nat × Value)) (R : (Nat → Bool) → World → Prop) (hm : P.follows .mixedOrders = true) (hb : backB .any ops = true) (hn : slotB sl = true) (hl : sl.length = ops.size)
    (hks : ks = ps.map Prod.fst) (hkl : ks = sl.filterMap fun x => x) (hps : ps = (sl.zip vs).filterMap fun p => p.1.map fun k => (k, p.2)) (hsz : ∀ k, k ∈ ks → k < a.tmps.size) (h0 : R (fun _ => false) w.drew)
    (hstep : ∀ (L : Nat → Bool) w i (A : Act), i < ops.size → R L w → L i = false → (∀ m, predOp .any ops i m = true → L m = true) → (∀ k m, L k = true → predOp .any ops k m = true → L m = true) →
      (∀ m k, sl.getD m none = some k → L m = true → A.eval (.tmp k) = vs.getD m undef) → (∀ k, k ∉ ks → A.eval (.tmp k) = a.eval (.tmp k)) → (∀ k, k ∈ ks → (∀ m, sl.getD m none = some k → L m = false) → A.eval (.tmp k) = a.eval (.tmp k)) →
      ∀ K : Act → World → Prop, (∀ k w', sl.getD i none = some k → R (updL L i) w' → K (A.put (some k) (vs.getD i undef)) w') → (∀ w', sl.getD i none = none → R (updL L i) w' → K A w') → wpOpIn F n P ops Q i K A w)
    (hend : ∀ (L : Nat → Bool) w, R L w → (∀ i, i < ops.size → L i = true) → Q .normal (setP ps a) w) : (Code.region id ops true).wpIn F n P Q a w := by
  have hget : ∀ i k, sl.getD i none = some k → i < sl.length ∧ k ∈ ks := fun i k h => by
    have hi : i < sl.length := by
      rcases Nat.lt_or_ge i sl.length with h' | h'
      · exact h'
      · simp [List.getD, List.getElem?_eq_none h'] at h
    refine ⟨hi, ?_⟩
    rw [hkl, List.mem_filterMap]
    refine ⟨sl[i], List.getElem_mem hi, ?_⟩
    simpa [List.getD, hi] using h
  refine regionInv (fun L a' w' => ∃ u, a' = setU ks a u ∧ R L w' ∧ (∀ k, k ∈ ks → (∀ m, sl.getD m none = some k → L m = false) → u k = a.tmps.getD k undef) ∧ ∀ i k, sl.getD i none = some k → L i = true → u k = vs.getD i undef) hm hb ⟨_, (setU_self ks a).symm, h0, fun k _ _ => rfl, fun i k _ h => by cases h⟩ ?_ ?_
  · rintro L _ w i hi ⟨u, rfl, hR, hu0, hu⟩ hLi hpr hcl
    refine hstep L w i _ hi hR hLi hpr hcl (fun m k hm hL => ?_) (fun k hk => setU_evalN hk) (fun k hk hno => by rw [setU_eval hk (hsz k hk)]; exact hu0 k hk hno) _ (fun k w' hk hR' => ?_) (fun w' hk hR' => ?_)
    · have hmem := (hget m k hm).2
      rw [setU_eval hmem (hsz k hmem)]; exact hu m k hm hL
    · obtain ⟨hil, hmem⟩ := hget i k hk
      refine ⟨_, put_setU hmem, hR', fun k' hk' hno => ?_, fun m k' hm hL => ?_⟩
      · unfold putU
        have hne : ¬ k' = k := fun h => by
          subst h
          have := hno i hk
          simp [updL] at this
        rw [if_neg hne]
        refine hu0 k' hk' fun m hm => ?_
        have h9 := hno m hm
        unfold updL at h9
        simp only [Bool.or_eq_false_iff] at h9
        exact h9.2
      unfold putU
      by_cases e : m = i
      · subst e
        rw [hk] at hm
        cases hm
        rw [if_pos rfl]
      · have hne : ¬ k' = k := fun h => by
          subst h
          exact slotB_spec hn hil (hget m k' hm).1 (Ne.symm e) hk hm
        rw [if_neg hne]
        refine hu m k' hm ?_
        unfold updL at hL
        have : (m == i) = false := by simp [e]
        rw [this, Bool.false_or] at hL
        exact hL
    · refine ⟨u, rfl, hR', fun k' hk' hno => hu0 k' hk' fun m hm => ?_, fun m k' hm hL => ?_⟩
      · have h9 := hno m hm
        unfold updL at h9
        simp only [Bool.or_eq_false_iff] at h9
        exact h9.2
      by_cases e : m = i
      · subst e
        rw [hk] at hm; cases hm
      · refine hu m k' hm ?_
        unfold updL at hL
        have : (m == i) = false := by simp [e]
        rw [this, Bool.false_or] at hL
        exact hL
  · rintro L _ w ⟨u, rfl, hR, _, hu⟩ hall
    have e : setU ks a u = setP ps a := by
      unfold setU setP
      rw [hks, setU_setP fun p hp => ?_]
      rw [hps, List.mem_filterMap] at hp
      obtain ⟨q, hq, hq2⟩ := hp
      obtain ⟨i, hi, rfl⟩ := List.mem_iff_getElem.1 hq
      rw [List.getElem_zip] at hq2
      dsimp only at hq2
      have hi2 : i < sl.length ∧ i < vs.length := by simpa [List.length_zip, Nat.lt_min] using hi
      cases h : sl[i]'hi2.1 with
      | none => rw [h] at hq2; cases hq2
      | some k =>
        rw [h] at hq2
        simp only [Option.map_some, Option.some.injEq] at hq2
        subst hq2
        have h2 := hu i k (by simp [List.getD, hi2.1, h]) (hall i (by omega))
        rw [h2]; simp [List.getD, hi2.2]
    rw [e]
    exact hend L w hR hall
end
section
variable {F : Fence} {n : Nat} {P : Program} {ops : Array Oper} {Q : Exit → Act → World → Prop} {md : Region.Mode}
theorem regionValsD {id : Nat} {a : Act} {w : World} (sl : List (Option Nat)) (vs : List Value) (dyn : List Nat) (ks : List Nat) (R : (Nat → Bool) → (Nat → Value) → World → Prop) (hm : P.follows .mixedOrders = true) (hb : backB .any ops = true) (hn : slotB sl = true) (hl : sl.length = ops.size)
    (hkl : ks = sl.filterMap fun x => x) (hsz : ∀ k, k ∈ ks → k < a.tmps.size) (h0 : R (fun _ => false) (fun k => a.tmps.getD k undef) w.drew)
    (hstep : ∀ (L : Nat → Bool) (u : Nat → Value) w i (A : Act), i < ops.size → R L u w → L i = false → (∀ m, predOp .any ops i m = true → L m = true) → (∀ k m, L k = true → predOp .any ops k m = true → L m = true) →
      (∀ m k, m ∉ dyn → sl.getD m none = some k → L m = true → A.eval (.tmp k) = vs.getD m undef) → (∀ k, k ∈ ks → A.eval (.tmp k) = u k) → (∀ k, k ∉ ks → A.eval (.tmp k) = a.eval (.tmp k)) → (∀ k, k ∈ ks → (∀ m, sl.getD m none = some k → L m = false) → A.eval (.tmp k) = a.eval (.tmp k)) →
      ∀ K : Act → World → Prop, (∀ k v w', sl.getD i none = some k → (i ∈ dyn ∨ v = vs.getD i undef) → R (updL L i) (putU u k v) w' → K (A.put (some k) v) w') → (∀ w', sl.getD i none = none → R (updL L i) u w' → K A w') → wpOpIn F n P ops Q i K A w)
    (hend : ∀ (L : Nat → Bool) u w, R L u w → (∀ i, i < ops.size → L i = true) → (∀ m k, m ∉ dyn → sl.getD m none = some k → u k = vs.getD m undef) → Q .normal (setU ks a u) w) : (Code.region id ops true).wpIn F n P Q a w := by
  have hget : ∀ i k, sl.getD i none = some k → i < sl.length ∧ k ∈ ks := fun i k h => by
    have hi : i < sl.length := by
      rcases Nat.lt_or_ge i sl.length with h' | h'
      · exact h'
      · simp [List.getD, List.getElem?_eq_none h'] at h
    refine ⟨hi, ?_⟩
    rw [hkl, List.mem_filterMap]
    refine ⟨sl[i], List.getElem_mem hi, ?_⟩
    simpa [List.getD, hi] using h
  refine regionInv (fun L a' w' => ∃ u, a' = setU ks a u ∧ R L u w' ∧ (∀ k, k ∈ ks → (∀ m, sl.getD m none = some k → L m = false) → u k = a.tmps.getD k undef) ∧ ∀ i k, i ∉ dyn → sl.getD i none = some k → L i = true → u k = vs.getD i undef) hm hb ⟨_, (setU_self ks a).symm, h0, fun k _ _ => rfl, fun i k _ _ h => by cases h⟩ ?_ ?_
  · rintro L _ w i hi ⟨u, rfl, hR, hu0, hu⟩ hLi hpr hcl
    refine hstep L u w i _ hi hR hLi hpr hcl (fun m k hd hm hL => ?_) (fun k hk => setU_eval hk (hsz k hk)) (fun k hk => setU_evalN hk) (fun k hk hno => by rw [setU_eval hk (hsz k hk)]; exact hu0 k hk hno) _ (fun k v w' hk hv hR' => ?_) (fun w' hk hR' => ?_)
    · have hmem := (hget m k hm).2
      rw [setU_eval hmem (hsz k hmem)]; exact hu m k hd hm hL
    · obtain ⟨hil, hmem⟩ := hget i k hk
      refine ⟨_, put_setU hmem, hR', fun k' hk' hno => ?_, fun m k' hd hm hL => ?_⟩
      · unfold putU
        have hne : ¬ k' = k := fun h => by
          subst h
          have := hno i hk
          simp [updL] at this
        rw [if_neg hne]
        refine hu0 k' hk' fun m hm => ?_
        have h9 := hno m hm
        unfold updL at h9
        simp only [Bool.or_eq_false_iff] at h9
        exact h9.2
      · unfold putU
        by_cases e : m = i
        · subst e
          rw [hk] at hm
          cases hm
          rw [if_pos rfl]
          rcases hv with h | h
          · exact absurd h hd
          · exact h
        · have hne : ¬ k' = k := fun h => by
            subst h
            exact slotB_spec hn hil (hget m k' hm).1 (Ne.symm e) hk hm
          rw [if_neg hne]
          refine hu m k' hd hm ?_
          unfold updL at hL
          have : (m == i) = false := by simp [e]
          rw [this, Bool.false_or] at hL
          exact hL
    · refine ⟨u, rfl, hR', fun k' hk' hno => hu0 k' hk' fun m hm => ?_, fun m k' hd hm hL => ?_⟩
      · have h9 := hno m hm
        unfold updL at h9
        simp only [Bool.or_eq_false_iff] at h9
        exact h9.2
      · by_cases e : m = i
        · subst e
          rw [hk] at hm; cases hm
        · refine hu m k' hd hm ?_
          unfold updL at hL
          have : (m == i) = false := by simp [e]
          rw [this, Bool.false_or] at hL
          exact hL
  · rintro L _ w ⟨u, rfl, hR, _, hu⟩ hall
    exact hend L u w hR hall fun m k hd hm => hu m k hd hm (hall m (by have := (hget m k hm).1; omega))
end
open Go.RowKit
/-- In which block an appended row lies. -/
theorem append_blockS {P : Program} {w : World} {base : Nat} {t ty e : TypeId} {i : TypeInfo} {z : Value} {size bytes : Nat} (ht : P.underlying t = some (.slice e)) (hi : P.info? e = some i) (hz : i.zero = some z)
    (hsize : i.size = size) (hby : i.bytes = bytes) (hsz : 0 < size) {v : Value} {n : Nat} {xs : List Value} (hown : w.ownsRow base e size v n xs) {a : Addr} {m c : Nat} {news : List Value}
    (hl : news.length = m * size) (hnews : ∀ j u, news[j]? = some u → w.cell? (a.add j) = some u) (h1 : ∀ u ∈ news, u.oneCell' = true) (h63 : n + m ≤ maxLen) (hbytes : (n + m) * bytes ≤ 140737488355328)
    {v' : Value} {w' : World} (hr : (Builtin.append_ #[t, t] ty #[v, .slice (some a) m c]).run P w = .ok v' w') : v'.ownBlock = v.ownBlock ∨ v'.ownBlock = some w.heap.size := by
  subst hsize
  subst hby
  have hsmall : n + m ≤ 9223372036854775807 := by simp only [maxLen] at h63; omega
  rcases hown.2 with ⟨rfl, rfl⟩ | ⟨g, cap, cur, rfl, hbg, hg, hnc, hcm, hcs, htake⟩
  · by_cases hm : m = 0
    · subst hm
      have hn : news = [] := List.eq_nil_of_length_eq_zero (by simpa using hl)
      subst hn
      have h2 : (Builtin.append_ #[t, t] ty #[.slice none 0 0, .slice (some a) 0 c]).run P w = .ok (.slice none 0 0) w := by
        simp [Builtin.append_, run_underlying ht, sizeOf, typeInfo, hi, Builtin.lenOf, Builtin.firstCells, loadCells, loadCellsFrom]
      rw [h2] at hr
      injection hr with e1 e2
      exact .inl (by rw [← e1])
    · have h2 := run_append_nil (P := P) w t ty e i z ht hi hz a m c news hl hnews (by omega) (by omega) (by have hb := hbytes; simp only [Nat.zero_add] at hb; omega)
      rw [h2] at hr
      injection hr with e1 e2
      exact .inr (by rw [← e1]; rfl)
  · by_cases hroom : n + m ≤ cap
    · have hfit : n * i.size + news.length ≤ cur.size := by rw [hl, hcs, ← Nat.add_mul]; exact Nat.mul_le_mul_right _ hroom
      have h2 := run_append_room (P := P) w t ty e i ht hi g n cap cur hg a m c news hl hnews h1 hroom hfit
      rw [h2] at hr
      injection hr with e1 e2
      exact .inl (by rw [← e1]; rfl)
    · have holds : ∀ j u, xs[j]? = some u → w.cell? ((⟨g, 0, none⟩ : Addr).add j) = some u := hown.cells (g := g) rfl
      have h2 := run_append_grow (P := P) w t ty e i z ht hi hz ⟨g, 0, none⟩ n cap xs hown.1 holds a m c news hl hnews (by omega) (by omega) (growslice_fits (by omega) hbytes)
      rw [h2] at hr
      injection hr with e1 e2
      exact .inr (by rw [← e1]; rfl)
/-- Append of rows that are read onto rows of one's own. -/
theorem append_rows {P : Program} {w : World} (base : Nat) (t ty e : TypeId) (i : TypeInfo) (z : Value) (size bytes : Nat) (ht : P.underlying t = some (.slice e)) (hi : P.info? e = some i) (hz : i.zero = some z)
    (hsize : i.size = size) (hby : i.bytes = bytes) (hzs : z.cells.size = size) (hsz : 0 < size)
    (v : Value) (n : Nat) (xs : List Value) (hown : w.ownsRow base e size v n xs) (src : Value) (m : Nat) (row : Nat → Nat → Value) (hsrc : IsRows w src m size row) (h1 : ∀ k j, k < m → j < size → (row k j).oneCell' = true)
    (h63 : n + m ≤ maxLen) (hbytes : (n + m) * bytes ≤ 140737488355328) (hbase : base ≤ w.heap.size) :
    ∃ v' w', (Builtin.append_ #[t, t] ty #[v, src]).run P w = .ok v' w' ∧ w'.ownsRow base e size v' (n + m) (xs ++ flatR m size row) ∧ w.grownBy w' v.ownBlock ∧ (v'.ownBlock = v.ownBlock ∨ v'.ownBlock = some w.heap.size) := by
  obtain ⟨v', w', r1, r2, r3⟩ := run_append_src (P := P) w base t ty e i z size bytes ht hi hz hsize hby hzs hsz v n xs hown src m row hsrc h1 h63 hbytes hbase
  refine ⟨v', w', r1, r2, r3, ?_⟩
  obtain ⟨a, cap, rfl, hc, hm, hcell⟩ := hsrc
  rcases Nat.eq_zero_or_pos m with rfl | hpos
  · cases a with
    | none =>
      rw [run_append_none w base t ty e i size ht hi v n cap xs hown] at r1
      injection r1 with e1 e2
      exact .inl (by rw [← e1])
    | some ad => exact append_blockS (news := []) ht hi hz hsize hby hsz hown (by simp) (fun j u h => by simp at h) (fun u h => by simp at h) h63 hbytes r1
  · obtain ⟨b, off, rfl, hcl⟩ := hcell hpos
    refine append_blockS (news := flatR m size row) ht hi hz hsize hby hsz hown (flatR_length _ _ _) (fun j u h => ?_) (fun u hu => ?_) h63 hbytes r1
    · have hj : j < m * size := by
        rcases Nat.lt_or_ge j (m * size) with h' | h'
        · exact h'
        · rw [List.getElem?_eq_none (by rw [flatR_length]; exact h')] at h; cases h
      have e : j = j / size * size + j % size := by rw [Nat.mul_comm]; exact (Nat.div_add_mod j size).symm
      have hk : j / size < m := Nat.div_lt_of_lt_mul (by rw [Nat.mul_comm]; exact hj)
      have hr : j % size < size := Nat.mod_lt _ hsz
      rw [e, flatR_get hk hr] at h
      cases h
      have ea : (⟨b, off, none⟩ : Addr).add j = ⟨b, off + j / size * size + j % size, none⟩ := by rw [addN]; congr 1; omega
      rw [ea]; exact hcl _ _ hk hr
    · unfold flatR at hu
      obtain ⟨q, hq, rfl⟩ := List.mem_map.1 hu
      rw [List.mem_range] at hq
      exact h1 _ _ (Nat.div_lt_of_lt_mul (by rw [Nat.mul_comm]; exact hq)) (Nat.mod_lt _ hsz)
end Go.Proofs.Ytdfaekanndpgfaa
