import Derived.Test.YtjmobepipfbbnaaHeld
import Derived.Test.YtjmobepipfbbnaaExLaw
import Derived.Test.YtjmobepipfbbnaaFines
import Derived.Test.YtjmobepipfbbnaaHeavy
import Derived.Test.YtjmobepipfbbnaaTrLaw
/- A region that draws its order, by an invariant: what holds of the operations that are done. A region that draws its order, whose values are known: each operation hands on its value, whichever come before it. A region that draws its order, whose values are known, with stores: an operation may fill no slot. A region that draws its order, whose values are known: a slot that is filled late may be read ahead. The document's truths: rows of one's own side by side; the row of all truths. The document's truths: the state of the region in which truths calls itself. The document's truths, plainly: who did what, and when, in the order in which the program lists them. The document's truths: every truth that goes on from some offences is laid behind those that are there. All truths of valid fines (Truths); what FineEnds asks of them, plainly. -/
set_option linter.unusedSimpArgs false
set_option linter.unusedVariables false
namespace Go.Proofs.Ytjmobepipfbbnaa
def updL (L : Nat → Bool) (i : Nat) (k : Nat) : Bool := k == i || L k
def lookL (listed : Array Bool) (k : Nat) : Bool := listed.getD k false
theorem look_set {listed : Array Bool} {i : Nat} (h : i < listed.size) : lookL (listed.setIfInBounds i true) = updL (lookL listed) i := by
  funext k
  unfold lookL updL
  by_cases e : i = k
  · subst e; simp [h]
  · rw [getD_set_ne false e]
    have : (k == i) = false := by simp; omega
    rw [this, Bool.false_or]
theorem look_none (n : Nat) : lookL (Array.replicate n false) = fun _ => false := by
  funext k
  unfold lookL
  by_cases h : k < n
  · simp [h]
  · simp [Array.getElem?_eq_none, h]
section
variable {F : Fence} {n : Nat} {P : Program} {ops : Array Oper} {Q : Exit → Act → World → Prop} {md : Region.Mode}
/-- Each operation waits for earlier ones alone. -/
def backB (md : Region.Mode) (ops : Array Oper) : Bool := (List.range ops.size).all fun k => match ops[k]? with | some o => o.after.all (fun e => !Region.binds md e || decide (e.on < k)) | none => true
theorem backB_spec (h : backB md ops = true) {k m : Nat} (hk : predOp md ops k m = true) : m < k := by
  obtain ⟨o, ho, e, he, hbd, rfl⟩ := predOp_iff.1 hk
  unfold backB at h
  rw [List.all_eq_true] at h
  have h1 := h k (List.mem_range.2 (Array.getElem?_eq_some_iff.1 ho).1)
  rw [ho] at h1
  have h1 : o.after.all (fun e => !Region.binds md e || decide (e.on < k)) = true := h1
  rw [Array.all_eq_true_iff_forall_mem] at h1
  simpa [hbd] using h1 e he
theorem all_listed (hb : backB md ops = true) {listed : Array Bool} (hs : listed.size = ops.size) (h : Region.ready md ops listed = []) : ∀ i, i < ops.size → lookL listed i = true := by
  intro i
  induction i using Nat.strongRecOn with
  | _ i ih =>
    intro hi
    cases hc : lookL listed i
    · exfalso
      have hm : i ∈ Region.ready md ops listed := by
        refine mem_ready.2 ⟨?_, ops[i], by simp [hi], fun e he hbd => ?_⟩
        · unfold lookL at hc
          have h' : i < listed.size := by omega
          simp [h'] at hc ⊢
          exact hc
        · have hp : predOp md ops i e.on = true := predOp_iff.2 ⟨ops[i], by simp [hi], e, he, hbd, rfl⟩
          have hl := backB_spec hb hp
          exact ih e.on hl (by omega)
      rw [h] at hm; cases hm
    · rfl
theorem countP_set_lt {l : List Bool} {i : Nat} (h : i < l.length) (hf : l[i] = false) : (l.set i true).countP (fun b => !b) + 1 = l.countP (fun b => !b) := by
  induction l generalizing i with
  | nil => simp at h
  | cons x t ih =>
    cases i with
    | zero => simp at hf; subst hf; simp
    | succ j =>
      have h1 : j < t.length := by simpa using h
      have h2 := ih h1 (by simpa using hf)
      rw [List.set_cons_succ, List.countP_cons, List.countP_cons]; omega
theorem anyInv {J : (Nat → Bool) → Act → World → Prop} (hb : backB md ops = true)
    (hstep : ∀ (L : Nat → Bool) a w i, i < ops.size → J L a w → L i = false → (∀ m, predOp md ops i m = true → L m = true) → (∀ k m, L k = true → predOp md ops k m = true → L m = true) → wpOpIn F n P ops Q i (J (updL L i)) a w)
    (hend : ∀ L a w, J L a w → (∀ i, i < ops.size → L i = true) → Q .normal a w) :
    ∀ (fuel : Nat) (listed : Array Bool) (a : Act) (w : World), listed.size = ops.size → closedL md ops listed → J (lookL listed) a w → listed.toList.countP (fun b => !b) ≤ fuel → wpAnyIn F n P md ops Q fuel listed a w := by
  intro fuel
  induction fuel with
  | zero =>
    intro listed a w hs hc hJ hf
    have hr : Region.ready md ops listed = [] := by
      cases hr : Region.ready md ops listed with
      | nil => rfl
      | cons j t =>
        exfalso
        have hj : j ∈ Region.ready md ops listed := by rw [hr]; simp
        obtain ⟨h1, o, ho, _⟩ := mem_ready.1 hj
        have hlt := (Array.getElem?_eq_some_iff.1 ho).1
        have hl : j < listed.size := by omega
        have h2 : listed.toList[j] = false := by simp [hl] at h1 ⊢; exact h1
        have := countP_set_lt (by simpa using hl) h2
        omega
    exact ⟨hr, hend _ a w hJ (all_listed hb hs hr)⟩
  | succ fuel ih =>
    intro listed a w hs hc hJ hf
    refine ⟨fun hr => hend _ a w hJ (all_listed hb hs hr), fun i hi => ?_⟩
    obtain ⟨h1, o, ho, _⟩ := mem_ready.1 hi
    have hlt := (Array.getElem?_eq_some_iff.1 ho).1
    have hl : i < listed.size := by omega
    have h2 : listed.toList[i] = false := by simp [hl] at h1 ⊢; exact h1
    have h3 : lookL listed i = false := by unfold lookL; simp [hl] at h1 ⊢; exact h1
    refine wpOpIn_mono (fun a' w' hk => ?_) (hstep (lookL listed) a w i hlt hJ h3 (fun m hm => ready_preds hi m hm) (fun k m hk hp => hc k hk m hp))
    refine ih _ a' w' (by simpa using hs) (closedL_set hc hi) (by rw [look_set hl]; exact hk) ?_
    have := countP_set_lt (by simpa using hl) h2
    rw [Array.toList_setIfInBounds]
    omega
theorem regionInv {id : Nat} {a : Act} {w : World} (J : (Nat → Bool) → Act → World → Prop) (hm : P.follows .mixedOrders = true) (hb : backB .any ops = true) (h0 : J (fun _ => false) a w.drew)
    (hstep : ∀ (L : Nat → Bool) a w i, i < ops.size → J L a w → L i = false → (∀ m, predOp .any ops i m = true → L m = true) → (∀ k m, L k = true → predOp .any ops k m = true → L m = true) → wpOpIn F n P ops Q i (J (updL L i)) a w)
    (hend : ∀ L a w, J L a w → (∀ i, i < ops.size → L i = true) → Q .normal a w) : (Code.region id ops true).wpIn F n P Q a w := by
  refine wpIn_region_any hm (anyInv hb hstep hend _ _ _ _ (by simp) (fun k hk => ?_) (by rw [look_none]; exact h0) ?_)
  · exfalso
    have := congrFun (look_none ops.size) k
    unfold lookL at this
    rw [this] at hk; cases hk
  · rw [Array.toList_replicate]
    exact Nat.le_trans List.countP_le_length (by simp)
theorem opInv {i : Nat} {o : Oper} {a : Act} {w : World} {K0 : Act → World → Prop} (hi : ops[i]? = some o) (hw : Region.wanted o (yielded ops a.tmps) = true)
    (h : ∀ K : Act → World → Prop, (∀ a' w', K0 a' w' → K a' w') → o.wpIn F n P a w K Q) : wpOpIn F n P ops Q i K0 a w := by
  unfold wpOpIn
  simp only [hi, hw, if_true]
  exact h _ fun a' w' h1 => h1
end
/-! The slots that a region fills. -/
def putU (u : Nat → Value) (k : Nat) (v : Value) : Nat → Value := fun j => if j = k then v else u j
def setU (ks : List Nat) (a : Act) (u : Nat → Value) : Act := { a with tmps := ks.foldl (fun t k => t.setIfInBounds k (u k)) a.tmps }
theorem setU_get (u : Nat → Value) (j : Nat) : ∀ (ks : List Nat) (t : Array Value), (ks.foldl (fun t k => t.setIfInBounds k (u k)) t)[j]? = if j ∈ ks ∧ j < t.size then some (u j) else t[j]?
  | [], t => by simp
  | k :: ks, t => by
    rw [List.foldl_cons, setU_get u j ks]
    by_cases e : k = j
    · subst e
      by_cases hs : k < t.size
      · simp [hs]
      · simp [hs, Array.getElem?_eq_none]
    · have : ¬ j = k := fun h => e h.symm
      simp [Array.getElem?_setIfInBounds_ne e, this]
theorem setU_size (u : Nat → Value) : ∀ (ks : List Nat) (t : Array Value), (ks.foldl (fun t k => t.setIfInBounds k (u k)) t).size = t.size
  | [], t => rfl
  | k :: ks, t => by rw [List.foldl_cons, setU_size u ks]; simp
theorem put_setU {ks : List Nat} {a : Act} {u : Nat → Value} {k : Nat} {v : Value} (hk : k ∈ ks) : (setU ks a u).put (some k) v = setU ks a (putU u k v) := by
  have key : (setU ks a u).tmps.setIfInBounds k v = (setU ks a (putU u k v)).tmps := by
    refine Array.ext_getElem? fun j => ?_
    unfold setU
    dsimp only
    rw [setU_get]
    by_cases e : k = j
    · subst e
      rw [Array.getElem?_setIfInBounds_self]
      rw [setU_size]
      by_cases hs : k < a.tmps.size
      · simp [hs, hk, putU]
      · simp [hs, Array.getElem?_eq_none]
    · rw [Array.getElem?_setIfInBounds_ne e, setU_get]
      have : ¬ j = k := fun h => e h.symm
      simp [putU, this]
  show (⟨(setU ks a u).tmps.setIfInBounds k v, a.defers⟩ : Act) = ⟨(setU ks a (putU u k v)).tmps, a.defers⟩
  rw [key]
theorem setU_self (ks : List Nat) (a : Act) : setU ks a (fun k => a.tmps.getD k undef) = a := by
  unfold setU
  show (⟨_, a.defers⟩ : Act) = a
  cases a with
  | mk t d =>
    congr 1
    refine Array.ext_getElem? fun j => ?_
    rw [setU_get]
    split
    · rename_i h; simp [h.2]
    · rfl
section
variable {F : Fence} {n : Nat} {P : Program} {ops : Array Oper} {Q : Exit → Act → World → Prop} {md : Region.Mode}
theorem setU_eval {ks : List Nat} {a : Act} {u : Nat → Value} {k : Nat} (hk : k ∈ ks) (hs : k < a.tmps.size) : (setU ks a u).eval (.tmp k) = u k := by
  show (setU ks a u).tmps.getD k undef = u k
  unfold setU
  rw [Array.getD_eq_getD_getElem?, setU_get, if_pos ⟨hk, hs⟩]; rfl
theorem setU_evalN {ks : List Nat} {a : Act} {u : Nat → Value} {k : Nat} (hk : k ∉ ks) : (setU ks a u).eval (.tmp k) = a.eval (.tmp k) := by
  show (setU ks a u).tmps.getD k undef = a.tmps.getD k undef
  unfold setU
  rw [Array.getD_eq_getD_getElem?, Array.getD_eq_getD_getElem?, setU_get, if_neg (fun h => hk h.1)]
/-- A region that draws its order: each operation fills a slot of its own, and keeps what holds of those that are done. -/
theorem regionInvU {id : Nat} {a : Act} {w : World} (ks : List Nat) (G : (Nat → Bool) → (Nat → Value) → World → Prop) (hm : P.follows .mixedOrders = true) (hb : backB .any ops = true) (hsz : ∀ k, k ∈ ks → k < a.tmps.size) (h0 : G (fun _ => false) (fun k => a.tmps.getD k undef) w.drew)
    (hstep : ∀ (L : Nat → Bool) (u : Nat → Value) w i (A : Act), (∀ k, k ∈ ks → A.eval (.tmp k) = u k) → (∀ k, k ∉ ks → A.eval (.tmp k) = a.eval (.tmp k)) → i < ops.size → G L u w → L i = false → (∀ m, predOp .any ops i m = true → L m = true) → (∀ k m, L k = true → predOp .any ops k m = true → L m = true) →
      ∀ K : Act → World → Prop, (∀ k v w', k ∈ ks → G (updL L i) (putU u k v) w' → K (A.put (some k) v) w') → wpOpIn F n P ops Q i K A w)
    (hend : ∀ (L : Nat → Bool) u w, G L u w → (∀ i, i < ops.size → L i = true) → Q .normal (setU ks a u) w) : (Code.region id ops true).wpIn F n P Q a w := by
  refine regionInv (fun L a' w' => ∃ u, a' = setU ks a u ∧ G L u w') hm hb ⟨_, (setU_self ks a).symm, h0⟩ ?_ ?_
  · rintro L _ w i hi ⟨u, rfl, hG⟩ h1 h2 h3
    refine hstep L u w i _ (fun k hk => setU_eval hk (hsz k hk)) (fun k hk => setU_evalN hk) hi hG h1 h2 h3 _ fun k v w' hk h => ⟨_, put_setU hk, h⟩
  · rintro L _ w ⟨u, rfl, hG⟩ h1
    exact hend L u w hG h1
/-- An operation that runs, and hands on a value. -/
theorem opRun {i : Nat} {o : Oper} {v : Value} {a : Act} {w w' : World} {K : Act → World → Prop} (hF : ∀ f, F.fn f) (hi : ops.toList[i]? = some o) (hd : ∀ c, o.op ≠ .defer c) (hw : Region.wanted o (yielded ops a.tmps) = true) {k : Nat} (hdst : o.dst = some k)
    (hr : (execOp a.eval o).run P w = .ok (.value v) w') (h : K (a.put (some k) v) w') : wpOpIn F n P ops Q i K a w := by
  rw [Array.getElem?_toList] at hi
  unfold wpOpIn
  simp only [hi, hw, if_true]
  unfold Oper.wpIn
  refine ⟨fun f _ => hF f, ?_⟩
  rw [Oper.semAt_eq _ _ _ hd, hr]
  show K (a.put o.dst v) w'
  rw [hdst]; exact h
theorem opCall {i : Nat} {o : Oper} {f : FuncId} {args : Array Value} {a : Act} {w w' : World} {K : Act → World → Prop} (hF : ∀ f, F.fn f) (hn : F.depth.isSome = true → 1 ≤ n) (hi : ops.toList[i]? = some o) (hd : ∀ c, o.op ≠ .defer c)
    (hw : Region.wanted o (yielded ops a.tmps) = true) {k : Nat} (hdst : o.dst = some k) (hr : (execOp a.eval o).run P w = .ok (.enter f args) w') {R : Ending → World → Prop} (hc : CallsIn F (n - 1) P f args w' R) (h : ∀ e w'', R e w'' → ∃ v, e = .returned v ∧ K (a.put (some k) v) w'') : wpOpIn F n P ops Q i K a w := by
  rw [Array.getElem?_toList] at hi
  unfold wpOpIn
  simp only [hi, hw, if_true]
  unfold Oper.wpIn
  refine ⟨fun f _ => hF f, ?_⟩
  rw [Oper.semAt_eq _ _ _ hd, hr]
  refine ⟨hn, CallsIn.mono hc ?_⟩
  intro e w'' he
  obtain ⟨v, rfl, hk⟩ := h e w'' he
  show K (a.put o.dst v) w''
  rw [hdst]; exact hk
theorem run_append {w : World} {o : Oper} {a : Act} (d s : Operand) (t t' : TypeId) (ho : o.op = .call { callee := .builtin .append, args := #[d, s], argTypes := #[t, t'] }) {v u v' : Value} {w' : World} (hd : a.eval d = v) (hs : a.eval s = u)
    (hr : (Builtin.append_ #[t, t'] o.type #[v, u]).run P w = .ok v' w') : (execOp a.eval o).run P w = .ok (.value v') w' := by
  simp [execOp, ho, resolve, invoke, builtin, hd, hs, hr, Result.andThen]
end
end Go.Proofs.Ytjmobepipfbbnaa

set_option linter.unusedSimpArgs false
set_option linter.unusedVariables false
namespace Go.Proofs.Ytjmobepipfbbnaa
/-- The act with the values of a region in its slots. -/
def setV (sl : List Nat) (vs : List Value) (a : Act) : Act := { a with tmps := (sl.zip vs).foldl (fun t p => t.setIfInBounds p.1 p.2) a.tmps }
theorem setU_setV {a : Act} {u : Nat → Value} : ∀ {sl : List Nat} {vs : List Value} {t : Array Value}, sl.length = vs.length → (∀ i, i < sl.length → u (sl.getD i 0) = vs.getD i undef) →
    sl.foldl (fun t k => t.setIfInBounds k (u k)) t = (sl.zip vs).foldl (fun t p => t.setIfInBounds p.1 p.2) t
  | [], vs, t, _, _ => rfl
  | s :: sl, [], t, h, _ => by simp at h
  | s :: sl, v :: vs, t, h, hv => by
    have h0 := hv 0 (by simp)
    have h0 : u s = v := by simpa using h0
    rw [List.foldl_cons, List.zip_cons_cons, List.foldl_cons, h0]
    exact setU_setV (a := a) (by simpa using h) fun i hi => by simpa using hv (i + 1) (by simpa using hi)
section
variable {F : Fence} {n : Nat} {P : Program} {ops : Array Oper} {Q : Exit → Act → World → Prop} {md : Region.Mode}
theorem regionVals {id : Nat} {a : Act} {w : World} (sl : List Nat) (vs : List Value) (R : (Nat → Bool) → World → Prop) (hm : P.follows .mixedOrders = true) (hb : backB .any ops = true) (hn : sl.Nodup) (hl : sl.length = ops.size) (hlv : vs.length = sl.length)
    (hsz : ∀ k, k ∈ sl → k < a.tmps.size) (h0 : R (fun _ => false) w.drew)
    (hstep : ∀ (L : Nat → Bool) w i (A : Act), i < ops.size → R L w → L i = false → (∀ m, predOp .any ops i m = true → L m = true) → (∀ k m, L k = true → predOp .any ops k m = true → L m = true) →
      (∀ m, m < ops.size → L m = true → A.eval (.tmp (sl.getD m 0)) = vs.getD m undef) → (∀ k, k ∉ sl → A.eval (.tmp k) = a.eval (.tmp k)) →
      ∀ K : Act → World → Prop, (∀ w', R (updL L i) w' → K (A.put (some (sl.getD i 0)) (vs.getD i undef)) w') → wpOpIn F n P ops Q i K A w)
    (hend : ∀ (L : Nat → Bool) w, R L w → (∀ i, i < ops.size → L i = true) → Q .normal (setV sl vs a) w) : (Code.region id ops true).wpIn F n P Q a w := by
  have hget : ∀ i, i < sl.length → sl.getD i 0 ∈ sl := fun i hi => by simp [List.getD, hi]
  refine regionInvU sl (fun L u w => R L w ∧ ∀ i, i < ops.size → L i = true → u (sl.getD i 0) = vs.getD i undef) hm hb hsz ⟨h0, fun i _ h => by cases h⟩ ?_ ?_
  · rintro L u w i A hev hevn hi ⟨hR, hu⟩ hLi hpr hcl K hK
    refine hstep L w i A hi hR hLi hpr hcl (fun m hm hL => ?_) hevn K fun w' hR' => ?_
    · rw [hev _ (hget m (by omega))]; exact hu m hm hL
    · refine hK _ _ _ (hget i (by omega)) ⟨hR', fun m hm hL => ?_⟩
      unfold putU
      by_cases e : m = i
      · subst e; rw [if_pos rfl]
      · rw [if_neg]
        · refine hu m hm ?_
          unfold updL at hL
          have : (m == i) = false := by simp [e]
          rw [this, Bool.false_or] at hL
          exact hL
        · intro h
          have hm' : m < sl.length := by omega
          have hi' : i < sl.length := by omega
          have h1 : sl[m] = sl[i] := by simpa [List.getD, hm', hi'] using h
          exact e ((List.getElem_inj hn).1 h1)
  · rintro L u w ⟨hR, hu⟩ hall
    have e : setU sl a u = setV sl vs a := by
      unfold setU setV
      rw [setU_setV (a := a) hlv.symm fun i hi => hu i (by omega) (hall i (by omega))]
    rw [e]
    exact hend L w hR hall
theorem wanted_at {o oj : Oper} {j k : Nat} {b c : Bool} {A : Act} (hg : o.guard = some (j, b)) (hj : ops[j]? = some oj) (hd : oj.dst = some k) (hv : A.eval (.tmp k) = .bool c) : Region.wanted o (yielded ops A.tmps) = (c == b) := by
  unfold Region.wanted yielded
  rw [hg]
  dsimp only
  have hv' : A.tmps.getD k undef = .bool c := hv
  have h2 : A.tmps[k]? = some (.bool c) := by
    rw [Array.getD_eq_getD_getElem?] at hv'
    cases h : A.tmps[k]? with
    | none => rw [h] at hv'; exact absurd hv' (by simp [undef])
    | some x => rw [h] at hv'; exact congrArg some hv'
  simp only [hj, hd, Option.bind_some, h2]
  cases b <;> cases c <;> rfl
/-- An operation that its guard leaves out. -/
theorem opSkip {i : Nat} {o : Oper} {a : Act} {w : World} {K : Act → World → Prop} (hF : ∀ f, F.fn f) (hi : ops.toList[i]? = some o) (hw : Region.wanted o (yielded ops a.tmps) = false) {k : Nat} (hdst : o.dst = some k) (h : K (a.put (some k) undef) w) : wpOpIn F n P ops Q i K a w := by
  rw [Array.getElem?_toList] at hi
  unfold wpOpIn
  simp only [hi, hw, Bool.false_eq_true, if_false]
  exact ⟨fun f _ => hF f, by rw [hdst]; exact h⟩
end
end Go.Proofs.Ytjmobepipfbbnaa

set_option linter.unusedSimpArgs false
set_option linter.unusedVariables false
namespace Go.Proofs.Ytjmobepipfbbnaa
def setP (ps : List (Nat × Value)) (a : Act) : Act := { a with tmps := ps.foldl (fun t p => t.setIfInBounds p.1 p.2) a.tmps }
theorem setU_setP {u : Nat → Value} : ∀ {ps : List (Nat × Value)} {t : Array Value}, (∀ p, p ∈ ps → u p.1 = p.2) → (ps.map Prod.fst).foldl (fun t k => t.setIfInBounds k (u k)) t = ps.foldl (fun t p => t.setIfInBounds p.1 p.2) t
  | [], t, _ => rfl
  | p :: ps, t, h => by
    rw [List.map_cons, List.foldl_cons, List.foldl_cons, h p (by simp)]
    exact setU_setP fun q hq => h q (by simp [hq])
/-- No slot is filled twice. -/
def pairB (sl : List (Option Nat)) : Bool := (List.range sl.length).all fun i => (List.range sl.length).all fun j => i == j || (sl.getD i none).isNone || sl.getD i none != sl.getD j none
theorem pairB_spec {sl : List (Option Nat)} (h : pairB sl = true) {i j k : Nat} (hi : i < sl.length) (hj : j < sl.length) (hne : i ≠ j) (e : sl.getD i none = some k) : sl.getD j none ≠ some k := by
  unfold pairB at h
  rw [List.all_eq_true] at h
  have h1 := h i (List.mem_range.2 hi)
  rw [List.all_eq_true] at h1
  have h2 := h1 j (List.mem_range.2 hj)
  intro e2
  rw [e, e2] at h2
  simp [hne] at h2
section
variable {F : Fence} {n : Nat} {P : Program} {ops : Array Oper} {Q : Exit → Act → World → Prop} {md : Region.Mode}
theorem regionValsS {id : Nat} {a : Act} {w : World} (sl : List (Option Nat)) (vs : List Value) (ks : List Nat) (ps : List (Nat × Value)) (R : (Nat → Bool) → World → Prop) (hm : P.follows .mixedOrders = true) (hb : backB .any ops = true) (hn : pairB sl = true) (hl : sl.length = ops.size)
    (hks : ks = ps.map Prod.fst) (hkl : ks = sl.filterMap fun x => x) (hps : ps = (sl.zip vs).filterMap fun p => p.1.map fun k => (k, p.2)) (hsz : ∀ k, k ∈ ks → k < a.tmps.size) (h0 : R (fun _ => false) w.drew)
    (hstep : ∀ (L : Nat → Bool) w i (A : Act), i < ops.size → R L w → L i = false → (∀ m, predOp .any ops i m = true → L m = true) → (∀ k m, L k = true → predOp .any ops k m = true → L m = true) →
      (∀ m k, sl.getD m none = some k → L m = true → A.eval (.tmp k) = vs.getD m undef) → (∀ k, k ∉ ks → A.eval (.tmp k) = a.eval (.tmp k)) →
      ∀ K : Act → World → Prop, (∀ k w', sl.getD i none = some k → R (updL L i) w' → K (A.put (some k) (vs.getD i undef)) w') → (∀ w', sl.getD i none = none → R (updL L i) w' → K A w') → wpOpIn F n P ops Q i K A w)
    (hend : ∀ (L : Nat → Bool) w, R L w → (∀ i, i < ops.size → L i = true) → Q .normal (setP ps a) w) : (Code.region id ops true).wpIn F n P Q a w := by
  have hget : ∀ i k, sl.getD i none = some k → i < sl.length ∧ k ∈ ks := fun i k h => by
    have hi : i < sl.length := by
      rcases Nat.lt_or_ge i sl.length with h' | h'
      · exact h'
      · simp [List.getD, List.getElem?_eq_none h'] at h
    refine ⟨hi, ?_⟩
    rw [hkl, List.mem_filterMap]
    refine ⟨sl[i], List.getElem_mem hi, ?_⟩
    simpa [List.getD, hi] using h
  refine regionInv (fun L a' w' => ∃ u, a' = setU ks a u ∧ R L w' ∧ ∀ i k, sl.getD i none = some k → L i = true → u k = vs.getD i undef) hm hb ⟨_, (setU_self ks a).symm, h0, fun i k _ h => by cases h⟩ ?_ ?_
  · rintro L _ w i hi ⟨u, rfl, hR, hu⟩ hLi hpr hcl
    refine hstep L w i _ hi hR hLi hpr hcl (fun m k hm hL => ?_) (fun k hk => setU_evalN hk) _ (fun k w' hk hR' => ?_) (fun w' hk hR' => ?_)
    · have hmem := (hget m k hm).2
      rw [setU_eval hmem (hsz k hmem)]; exact hu m k hm hL
    · obtain ⟨hil, hmem⟩ := hget i k hk
      refine ⟨_, put_setU hmem, hR', fun m k' hm hL => ?_⟩
      unfold putU
      by_cases e : m = i
      · subst e
        rw [hk] at hm
        cases hm
        rw [if_pos rfl]
      · have hne : ¬ k' = k := fun h => by
          subst h
          exact pairB_spec hn hil (hget m k' hm).1 (Ne.symm e) hk hm
        rw [if_neg hne]
        refine hu m k' hm ?_
        unfold updL at hL
        have : (m == i) = false := by simp [e]
        rw [this, Bool.false_or] at hL
        exact hL
    · refine ⟨u, rfl, hR', fun m k' hm hL => ?_⟩
      by_cases e : m = i
      · subst e
        rw [hk] at hm; cases hm
      · refine hu m k' hm ?_
        unfold updL at hL
        have : (m == i) = false := by simp [e]
        rw [this, Bool.false_or] at hL
        exact hL
  · rintro L _ w ⟨u, rfl, hR, hu⟩ hall
    have e : setU ks a u = setP ps a := by
      unfold setU setP
      rw [hks, setU_setP fun p hp => ?_]
      rw [hps, List.mem_filterMap] at hp
      obtain ⟨q, hq, hq2⟩ := hp
      obtain ⟨i, hi, rfl⟩ := List.mem_iff_getElem.1 hq
      rw [List.getElem_zip] at hq2
      dsimp only at hq2
      have hi2 : i < sl.length ∧ i < vs.length := by simpa [List.length_zip, Nat.lt_min] using hi
      cases h : sl[i]'hi2.1 with
      | none => rw [h] at hq2; cases hq2
      | some k =>
        rw [h] at hq2
        simp only [Option.map_some, Option.some.injEq] at hq2
        subst hq2
        have h2 := hu i k (by simp [List.getD, hi2.1, h]) (hall i (by omega))
        rw [h2]; simp [List.getD, hi2.2]
    rw [e]
    exact hend L w hR hall
/-- An operation that runs, and fills no slot. -/
theorem opStore {i : Nat} {o : Oper} {a : Act} {w w' : World} {K : Act → World → Prop} (hF : ∀ f, F.fn f) (hi : ops.toList[i]? = some o) (hd : ∀ c, o.op ≠ .defer c) (hw : Region.wanted o (yielded ops a.tmps) = true) (hdst : o.dst = none)
    (hr : (execOp a.eval o).run P w = .ok .skip w') (h : K a w') : wpOpIn F n P ops Q i K a w := by
  rw [Array.getElem?_toList] at hi
  unfold wpOpIn
  simp only [hi, hw, if_true]
  unfold Oper.wpIn
  refine ⟨fun f _ => hF f, ?_⟩
  rw [Oper.semAt_eq _ _ _ hd, hr]
  show K (a.put o.dst undef) w'
  rw [hdst]; exact h
end
end Go.Proofs.Ytjmobepipfbbnaa

set_option linter.unusedSimpArgs false
set_option linter.unusedVariables false
namespace Go.Proofs.Ytjmobepipfbbnaa
theorem pair_uniq {sl : List (Option Nat)} (h : pairB sl = true) {q m k : Nat} (hq : sl.getD q none = some k) (hm : sl.getD m none = some k) : m = q := by
  have lt : ∀ i, sl.getD i none = some k → i < sl.length := fun i hi => by
    rcases Nat.lt_or_ge i sl.length with h' | h'
    · exact h'
    · simp [List.getD, List.getElem?_eq_none h'] at hi
  by_cases e : m = q
  · exact e
  · exact absurd hq (pairB_spec h (lt m hm) (lt q hq) e hm)
section
variable {F : Fence} {n : Nat} {P : Program} {ops : Array Oper} {Q : Exit → Act → World → Prop} {md : Region.Mode}
/-- The same, where a slot that is filled late is read ahead. -/
theorem regionValsT {id : Nat} {a : Act} {w : World} (sl : List (Option Nat)) (vs : List Value) (ks : List Nat) (ps : List (Nat × Value)) (R : (Nat → Bool) → World → Prop) (hm : P.follows .mixedOrders = true) (hb : backB .any ops = true) (hn : pairB sl = true) (hl : sl.length = ops.size)
    (hks : ks = ps.map Prod.fst) (hkl : ks = sl.filterMap fun x => x) (hps : ps = (sl.zip vs).filterMap fun p => p.1.map fun k => (k, p.2)) (hsz : ∀ k, k ∈ ks → k < a.tmps.size) (h0 : R (fun _ => false) w.drew)
    (hstep : ∀ (L : Nat → Bool) w i (A : Act), i < ops.size → R L w → L i = false → (∀ m, predOp .any ops i m = true → L m = true) → (∀ k m, L k = true → predOp .any ops k m = true → L m = true) →
      (∀ m k, sl.getD m none = some k → L m = true → A.eval (.tmp k) = vs.getD m undef) → (∀ k, k ∉ ks → A.eval (.tmp k) = a.eval (.tmp k)) → (∀ k, k ∈ ks → (∀ m, sl.getD m none = some k → L m = false) → A.eval (.tmp k) = a.eval (.tmp k)) →
      ∀ K : Act → World → Prop, (∀ k w', sl.getD i none = some k → R (updL L i) w' → K (A.put (some k) (vs.getD i undef)) w') → (∀ w', sl.getD i none = none → R (updL L i) w' → K A w') → wpOpIn F n P ops Q i K A w)
    (hend : ∀ (L : Nat → Bool) w, R L w → (∀ i, i < ops.size → L i = true) → Q .normal (setP ps a) w) : (Code.region id ops true).wpIn F n P Q a w := by
  have hget : ∀ i k, sl.getD i none = some k → i < sl.length ∧ k ∈ ks := fun i k h => by
    have hi : i < sl.length := by
      rcases Nat.lt_or_ge i sl.length with h' | h'
      · exact h'
      · simp [List.getD, List.getElem?_eq_none h'] at h
    refine ⟨hi, ?_⟩
    rw [hkl, List.mem_filterMap]
    refine ⟨sl[i], List.getElem_mem hi, ?_⟩
    simpa [List.getD, hi] using h
  refine regionInv (fun L a' w' => ∃ u, a' = setU ks a u ∧ R L w' ∧ (∀ k, k ∈ ks → (∀ m, sl.getD m none = some k → L m = false) → u k = a.tmps.getD k undef) ∧ ∀ i k, sl.getD i none = some k → L i = true → u k = vs.getD i undef) hm hb ⟨_, (setU_self ks a).symm, h0, fun k _ _ => rfl, fun i k _ h => by cases h⟩ ?_ ?_
  · rintro L _ w i hi ⟨u, rfl, hR, hu0, hu⟩ hLi hpr hcl
    refine hstep L w i _ hi hR hLi hpr hcl (fun m k hm hL => ?_) (fun k hk => setU_evalN hk) (fun k hk hno => by rw [setU_eval hk (hsz k hk)]; exact hu0 k hk hno) _ (fun k w' hk hR' => ?_) (fun w' hk hR' => ?_)
    · have hmem := (hget m k hm).2
      rw [setU_eval hmem (hsz k hmem)]; exact hu m k hm hL
    · obtain ⟨hil, hmem⟩ := hget i k hk
      refine ⟨_, put_setU hmem, hR', fun k' hk' hno => ?_, fun m k' hm hL => ?_⟩
      · unfold putU
        have hne : ¬ k' = k := fun h => by
          subst h
          have := hno i hk
          simp [updL] at this
        rw [if_neg hne]
        refine hu0 k' hk' fun m hm => ?_
        have h9 := hno m hm
        unfold updL at h9
        simp only [Bool.or_eq_false_iff] at h9
        exact h9.2
      unfold putU
      by_cases e : m = i
      · subst e
        rw [hk] at hm
        cases hm
        rw [if_pos rfl]
      · have hne : ¬ k' = k := fun h => by
          subst h
          exact pairB_spec hn hil (hget m k' hm).1 (Ne.symm e) hk hm
        rw [if_neg hne]
        refine hu m k' hm ?_
        unfold updL at hL
        have : (m == i) = false := by simp [e]
        rw [this, Bool.false_or] at hL
        exact hL
    · refine ⟨u, rfl, hR', fun k' hk' hno => hu0 k' hk' fun m hm => ?_, fun m k' hm hL => ?_⟩
      · have h9 := hno m hm
        unfold updL at h9
        simp only [Bool.or_eq_false_iff] at h9
        exact h9.2
      by_cases e : m = i
      · subst e
        rw [hk] at hm; cases hm
      · refine hu m k' hm ?_
        unfold updL at hL
        have : (m == i) = false := by simp [e]
        rw [this, Bool.false_or] at hL
        exact hL
  · rintro L _ w ⟨u, rfl, hR, _, hu⟩ hall
    have e : setU ks a u = setP ps a := by
      unfold setU setP
      rw [hks, setU_setP fun p hp => ?_]
      rw [hps, List.mem_filterMap] at hp
      obtain ⟨q, hq, hq2⟩ := hp
      obtain ⟨i, hi, rfl⟩ := List.mem_iff_getElem.1 hq
      rw [List.getElem_zip] at hq2
      dsimp only at hq2
      have hi2 : i < sl.length ∧ i < vs.length := by simpa [List.length_zip, Nat.lt_min] using hi
      cases h : sl[i]'hi2.1 with
      | none => rw [h] at hq2; cases hq2
      | some k =>
        rw [h] at hq2
        simp only [Option.map_some, Option.some.injEq] at hq2
        subst hq2
        have h2 := hu i k (by simp [List.getD, hi2.1, h]) (hall i (by omega))
        rw [h2]; simp [List.getD, hi2.2]
    rw [e]
    exact hend L w hR hall
end
end Go.Proofs.Ytjmobepipfbbnaa

set_option linter.unusedSimpArgs false
set_option linter.unusedVariables false
namespace Go.Proofs.Ytjmobepipfbbnaa
open Go.RowKit Go.Shelf
/-- Holds, whatever is done to block b. -/
def St (b : Option Nat) (w : World) (R : World → Prop) : Prop := ∀ w', w.grownBy w' b → R w'
/-- The old block, or one that is new. -/
def Newer (n : Nat) (b b' : Option Nat) : Prop := b' = b ∨ ∃ k, b' = some k ∧ n ≤ k
theorem grownBy_of_below {w w' : World} (h : Below w.heap.size w w') (b : Option Nat) : w.grownBy w' b := ⟨h.os, h.tape, h.output, h.size, fun k hk _ => h.block k hk⟩
section
variable {b b' : Option Nat} {w w' : World} {R R' : World → Prop}
theorem St.now (h : St b w R) : R w := h w (World.grownBy.refl w b)
theorem St.on (h : St b w R) (hg : w.grownBy w' b) : St b w' R := fun w'' k => h w'' (hg.trans k)
theorem grown_newer {w'' : World} (hg : w.grownBy w' b) (hn : Newer w.heap.size b b') (k : w'.grownBy w'' b') : w.grownBy w'' b :=
  hg.andThen k (fun j hj => by
    rcases hn with rfl | ⟨x, rfl, hx⟩
    · exact .inr hj
    · cases hj; exact .inl hx)
theorem St.newer (h : St b w R) (hg : w.grownBy w' b) (hn : Newer w.heap.size b b') : St b' w' R := fun _ k => h _ (grown_newer hg hn k)
theorem St.below (h : St b w R) (hb : Below w.heap.size w w') : St b w' R := h.on (grownBy_of_below hb b)
theorem St.imp (h : St b w R) (hi : ∀ w', R w' → R' w') : St b w R' := fun w' k => hi w' (h w' k)
theorem St.and (h : St b w R) (h' : St b w R') : St b w (fun w => R w ∧ R' w) := fun w' k => ⟨h w' k, h' w' k⟩
end
theorem Newer.refl (n : Nat) (b : Option Nat) : Newer n b b := .inl rfl
theorem Newer.trans {n m : Nat} {a b c : Option Nat} (h : Newer n a b) (k : Newer m b c) (hm : n ≤ m) : Newer n a c := by
  rcases k with rfl | ⟨x, rfl, hx⟩
  · exact h
  · exact .inr ⟨x, rfl, by omega⟩
/-- A cell of a block that is not touched. -/
theorem St.cell {b : Option Nat} {w : World} {A : Addr} {v : Value} (h : w.cell? A = some v) (hne : some A.block ≠ b) : St b w (fun w => w.cell? A = some v) := fun w' hg => hg.cell h hne
/-- In which block an appended row lies. -/
theorem append_blockS {P : Program} {w : World} {base : Nat} {t ty e : TypeId} {i : TypeInfo} {z : Value} {size bytes : Nat} (ht : P.underlying t = some (.slice e)) (hi : P.info? e = some i) (hz : i.zero = some z)
    (hsize : i.size = size) (hby : i.bytes = bytes) (hsz : 0 < size) {v : Value} {n : Nat} {xs : List Value} (hown : w.ownsRow base e size v n xs) {a : Addr} {m c : Nat} {news : List Value}
    (hl : news.length = m * size) (hnews : ∀ j u, news[j]? = some u → w.cell? (a.add j) = some u) (h1 : ∀ u ∈ news, u.oneCell' = true) (h63 : n + m ≤ maxLen) (hbytes : (n + m) * bytes ≤ 140737488355328)
    {v' : Value} {w' : World} (hr : (Builtin.append_ #[t, t] ty #[v, .slice (some a) m c]).run P w = .ok v' w') : v'.ownBlock = v.ownBlock ∨ v'.ownBlock = some w.heap.size := by
  subst hsize
  subst hby
  have hsmall : n + m ≤ 9223372036854775807 := by simp only [maxLen] at h63; omega
  rcases hown.2 with ⟨rfl, rfl⟩ | ⟨g, cap, cur, rfl, hbg, hg, hnc, hcm, hcs, htake⟩
  · by_cases hm : m = 0
    · subst hm
      have hn : news = [] := List.eq_nil_of_length_eq_zero (by simpa using hl)
      subst hn
      have h2 : (Builtin.append_ #[t, t] ty #[.slice none 0 0, .slice (some a) 0 c]).run P w = .ok (.slice none 0 0) w := by
        simp [Builtin.append_, run_underlying ht, sizeOf, typeInfo, hi, Builtin.lenOf, Builtin.firstCells, loadCells, loadCellsFrom]
      rw [h2] at hr
      injection hr with e1 e2
      exact .inl (by rw [← e1])
    · have h2 := run_append_nil (P := P) w t ty e i z ht hi hz a m c news hl hnews (by omega) (by omega) (by have hb := hbytes; simp only [Nat.zero_add] at hb; omega)
      rw [h2] at hr
      injection hr with e1 e2
      exact .inr (by rw [← e1]; rfl)
  · by_cases hroom : n + m ≤ cap
    · have hfit : n * i.size + news.length ≤ cur.size := by rw [hl, hcs, ← Nat.add_mul]; exact Nat.mul_le_mul_right _ hroom
      have h2 := run_append_room (P := P) w t ty e i ht hi g n cap cur hg a m c news hl hnews h1 hroom hfit
      rw [h2] at hr
      injection hr with e1 e2
      exact .inl (by rw [← e1]; rfl)
    · have holds : ∀ j u, xs[j]? = some u → w.cell? ((⟨g, 0, none⟩ : Addr).add j) = some u := hown.cells (g := g) rfl
      have h2 := run_append_grow (P := P) w t ty e i z ht hi hz ⟨g, 0, none⟩ n cap xs hown.1 holds a m c news hl hnews (by omega) (by omega) (growslice_fits (by omega) hbytes)
      rw [h2] at hr
      injection hr with e1 e2
      exact .inr (by rw [← e1]; rfl)
/-- Append of rows that are read onto rows of one's own. -/
theorem append_rows {P : Program} {w : World} (base : Nat) (t ty e : TypeId) (i : TypeInfo) (z : Value) (size bytes : Nat) (ht : P.underlying t = some (.slice e)) (hi : P.info? e = some i) (hz : i.zero = some z)
    (hsize : i.size = size) (hby : i.bytes = bytes) (hzs : z.cells.size = size) (hsz : 0 < size)
    (v : Value) (n : Nat) (xs : List Value) (hown : w.ownsRow base e size v n xs) (src : Value) (m : Nat) (row : Nat → Nat → Value) (hsrc : IsRows w src m size row) (h1 : ∀ k j, k < m → j < size → (row k j).oneCell' = true)
    (h63 : n + m ≤ maxLen) (hbytes : (n + m) * bytes ≤ 140737488355328) (hbase : base ≤ w.heap.size) :
    ∃ v' w', (Builtin.append_ #[t, t] ty #[v, src]).run P w = .ok v' w' ∧ w'.ownsRow base e size v' (n + m) (xs ++ flatR m size row) ∧ w.grownBy w' v.ownBlock ∧ (v'.ownBlock = v.ownBlock ∨ v'.ownBlock = some w.heap.size) := by
  obtain ⟨v', w', r1, r2, r3⟩ := run_append_src (P := P) w base t ty e i z size bytes ht hi hz hsize hby hzs hsz v n xs hown src m row hsrc h1 h63 hbytes hbase
  refine ⟨v', w', r1, r2, r3, ?_⟩
  obtain ⟨a, cap, rfl, hc, hm, hcell⟩ := hsrc
  rcases Nat.eq_zero_or_pos m with rfl | hpos
  · cases a with
    | none =>
      rw [run_append_none w base t ty e i size ht hi v n cap xs hown] at r1
      injection r1 with e1 e2
      exact .inl (by rw [← e1])
    | some ad => exact append_blockS (news := []) ht hi hz hsize hby hsz hown (by simp) (fun j u h => by simp at h) (fun u h => by simp at h) h63 hbytes r1
  · obtain ⟨b, off, rfl, hcl⟩ := hcell hpos
    refine append_blockS (news := flatR m size row) ht hi hz hsize hby hsz hown (flatR_length _ _ _) (fun j u h => ?_) (fun u hu => ?_) h63 hbytes r1
    · have hj : j < m * size := by
        rcases Nat.lt_or_ge j (m * size) with h' | h'
        · exact h'
        · rw [List.getElem?_eq_none (by rw [flatR_length]; exact h')] at h; cases h
      have e : j = j / size * size + j % size := by rw [Nat.mul_comm]; exact (Nat.div_add_mod j size).symm
      have hk : j / size < m := Nat.div_lt_of_lt_mul (by rw [Nat.mul_comm]; exact hj)
      have hr : j % size < size := Nat.mod_lt _ hsz
      rw [e, flatR_get hk hr] at h
      cases h
      have ea : (⟨b, off, none⟩ : Addr).add j = ⟨b, off + j / size * size + j % size, none⟩ := by rw [addN]; congr 1; omega
      rw [ea]; exact hcl _ _ hk hr
    · unfold flatR at hu
      obtain ⟨q, hq, rfl⟩ := List.mem_map.1 hu
      rw [List.mem_range] at hq
      exact h1 _ _ (Nat.div_lt_of_lt_mul (by rw [Nat.mul_comm]; exact hq)) (Nat.mod_lt _ hsz)
/-- Numbers laid behind numbers of one's own. -/
theorem append_ints {W : World} {base : Nat} {lv : Value} {l m : List Int} (h : W.ownsRow base 3 1 lv l.length (intV l)) (h5 : l.length + m.length < 1000) (hbase : base ≤ W.heap.size) {src : Value} (hs : IsInts W src m) :
    ∃ v' W', (Builtin.append_ #[26, 26] 26 #[lv, src]).run Try.prog W = .ok v' W' ∧ W'.ownsRow base 3 1 v' (l ++ m).length (intV (l ++ m)) ∧ W.grownBy W' lv.ownBlock ∧ (v'.ownBlock = lv.ownBlock ∨ v'.ownBlock = some W.heap.size) := by
  obtain ⟨i0, hi0, hz0, hz1, hz2⟩ := info_parts intInfo
  obtain ⟨v', W', h1, h2, h3, h4⟩ := append_rows (P := Try.prog) (w := W) base 26 26 3 i0 _ 1 8 und26 hi0 hz0 hz1 hz2 rfl (by omega) lv l.length _ h src m.length (fun k _ => .int .i64 (m.getD k 0)) hs (fun _ _ _ _ => rfl) (by unfold maxLen; omega) (by omega) hbase
  refine ⟨v', W', h1, ?_, h3, h4⟩
  have e2 : flatR m.length 1 (fun k _ => Value.int .i64 (m.getD k 0)) = intV m := by
    refine List.ext_getElem (by rw [flatR_length, intV_length]; omega) fun j h1 h2 => ?_
    rw [intV_length] at h2
    have := flatR_get (m := m.length) (size := 1) (row := fun k _ => Value.int .i64 (m.getD k 0)) (k := j) (j := 0) h2 (by omega)
    simp only [Nat.mul_one, Nat.add_zero] at this
    rw [List.getElem?_eq_getElem h1] at this
    simp only [Option.some.injEq] at this
    rw [this]; simp [intV, List.getD, h2]
  rw [e2] at h2
  rw [List.length_append]
  have e3 : intV (l ++ m) = intV l ++ intV m := by simp [intV]
  rw [e3]
  exact h2
/-! Four rows of numbers of one's own, side by side. -/
def Ap (u v : Value) : Prop := u.ownBlock = none ∨ v.ownBlock = none ∨ u.ownBlock ≠ v.ownBlock
theorem Ap.symm {u v : Value} (h : Ap u v) : Ap v u := by
  rcases h with h | h | h
  · exact .inr (.inl h)
  · exact .inl h
  · exact .inr (.inr fun e => h e.symm)
structure Four (w : World) (base : Nat) (p q r s : Value × List Int) : Prop where
  op : w.ownsRow base 3 1 p.1 p.2.length (intV p.2)
  oq : w.ownsRow base 3 1 q.1 q.2.length (intV q.2)
  or : w.ownsRow base 3 1 r.1 r.2.length (intV r.2)
  os : w.ownsRow base 3 1 s.1 s.2.length (intV s.2)
  pq : Ap p.1 q.1
  pr : Ap p.1 r.1
  ps : Ap p.1 s.1
  qr : Ap q.1 r.1
  qs : Ap q.1 s.1
  rs : Ap r.1 s.1
def nilP : Value × List Int := (.slice none 0 0, [])
theorem Four.nil (w : World) (base : Nat) : Four w base nilP nilP nilP nilP :=
  ⟨own_nil _ _ _ _, own_nil _ _ _ _, own_nil _ _ _ _, own_nil _ _ _ _, .inl rfl, .inl rfl, .inl rfl, .inl rfl, .inl rfl, .inl rfl⟩
section
variable {w w' : World} {base : Nat} {p q r s : Value × List Int}
theorem Four.rot (h : Four w base p q r s) : Four w base q r s p := ⟨h.oq, h.or, h.os, h.op, h.qr, h.qs, h.pq.symm, h.rs, h.pr.symm, h.ps.symm⟩
theorem Four.below (h : Four w base p q r s) (hb : Below w.heap.size w w') : Four w' base p q r s :=
  ⟨own_kept2 h.op hb, own_kept2 h.oq hb, own_kept2 h.or hb, own_kept2 h.os hb, h.pq, h.pr, h.ps, h.qr, h.qs, h.rs⟩
theorem ap_kept {e1 s1 n1 : Nat} {u v : Value} {xs : List Value} (h : w.ownsRow base e1 s1 v n1 xs) (hg : w.grownBy w' u.ownBlock) (ha : Ap u v) : w'.ownsRow base e1 s1 v n1 xs := by
  cases hv : v.ownBlock
  · exact h.kept hg (.inl hv)
  · refine h.kept hg (.inr fun e => ?_)
    rcases ha with h' | h' | h'
    · rw [hv, h'] at e; cases e
    · rw [hv] at h'; cases h'
    · exact h' e.symm
theorem ap_new {e1 s1 n1 : Nat} {u v v' : Value} {xs : List Value} (h : w.ownsRow base e1 s1 v n1 xs) (ha : Ap u v) (hv : v'.ownBlock = u.ownBlock ∨ v'.ownBlock = some w.heap.size) : Ap v' v := by
  rcases hv with e | e
  · unfold Ap at *; rw [e]; exact ha
  · refine .inr (.inr fun e2 => ?_)
    rw [e] at e2
    have := (h.lt _ e2.symm).2
    omega
/-- A new row takes the first place, that was empty. -/
theorem Four.fresh (h : Four w base p q r s) {v : Value} {l : List Int} (hb : Below w.heap.size w w') (ho : w'.ownsRow base 3 1 v l.length (intV l)) (hv : v.ownBlock = some w.heap.size) : Four w' base (v, l) q r s :=
  ⟨ho, own_kept2 h.oq hb, own_kept2 h.or hb, own_kept2 h.os hb, ap_new h.oq (.inl rfl : Ap (.slice none 0 0) _) (.inr hv), ap_new h.or (.inl rfl : Ap (.slice none 0 0) _) (.inr hv), ap_new h.os (.inl rfl : Ap (.slice none 0 0) _) (.inr hv), h.qr, h.qs, h.rs⟩
/-- Something is laid behind the first row. -/
theorem Four.app (h : Four w base p q r s) {m : List Int} {src : Value} (hs : IsInts w src m) (h5 : p.2.length + m.length < 1000) (hbase : base ≤ w.heap.size) :
    ∃ v' w', (Builtin.append_ #[26, 26] 26 #[p.1, src]).run Try.prog w = .ok v' w' ∧ Four w' base (v', p.2 ++ m) q r s ∧ w.grownBy w' p.1.ownBlock := by
  obtain ⟨v', w', h1, h2, h3, h4⟩ := append_ints h.op h5 hbase hs
  exact ⟨v', w', h1, ⟨h2, ap_kept h.oq h3 h.pq, ap_kept h.or h3 h.pr, ap_kept h.os h3 h.ps, ap_new h.oq h.pq h4, ap_new h.or h.pr h4, ap_new h.os h.ps h4, h.qr, h.qs, h.rs⟩, h3⟩
/-- A row is done with. -/
theorem Four.drop (h : Four w base p q r s) : Four w base p nilP r s := ⟨h.op, own_nil _ _ _ _, h.or, h.os, .inr (.inl rfl), h.pr, h.ps, .inl rfl, .inl rfl, h.rs⟩
theorem Four.under (h : Four w base p q r s) {B : World} (hB : Below base B w) (hg : w.grownBy w' p.1.ownBlock) (hb : base ≤ w.heap.size) : Below base B w' := hB.grown hg hb (fun k hk => (h.op.lt k hk).1)
end
/-! The row of all truths. -/
theorem trInfo : (Try.prog.info? 62).map (fun i => (i.zero, i.size, i.bytes)) = some (some (.agg #[.slice none 0 0, .slice none 0 0]), 2, 48) := by kernel_rfl
theorem und59 : Try.prog.underlying 59 = some (.slice 62) := by kernel_rfl
abbrev Pair := List Int × List Int
def TrV (b : Option Nat) (w : World) (p : Value × Value) (t : Pair) : Prop := St b w fun w => IsInts w p.1 t.1 ∧ IsInts w p.2 t.2
def flatT (vs : List (Value × Value)) : List Value := vs.flatMap fun p => [p.1, p.2]
theorem flatT_length (vs : List (Value × Value)) : (flatT vs).length = vs.length * 2 := by
  induction vs with
  | nil => rfl
  | cons p t ih => unfold flatT at *; rw [List.flatMap_cons, List.length_append, ih]; simp; omega
def OutAt (w : World) (base : Nat) (v : Value) (ts : List Pair) : Prop :=
  ∃ vs : List (Value × Value), w.ownsRow base 62 2 v ts.length (flatT vs) ∧ ∀ (k : Nat) (p : Value × Value) (t : Pair), vs[k]? = some p → ts[k]? = some t → TrV v.ownBlock w p t
theorem OutAt.nil (w : World) (base : Nat) : OutAt w base (.slice none 0 0) [] := ⟨[], own_nil _ _ _ _, fun k p t h => by simp at h⟩
theorem OutAt.below {w w' : World} {base : Nat} {v : Value} {ts : List Pair} (h : OutAt w base v ts) (hb : Below w.heap.size w w') : OutAt w' base v ts := by
  obtain ⟨vs, h1, h2⟩ := h
  exact ⟨vs, own_kept2 h1 hb, fun k p t hp ht => (h2 k p t hp ht).below hb⟩
theorem OutAt.lt {w : World} {base : Nat} {v : Value} {ts : List Pair} (h : OutAt w base v ts) : ∀ k, v.ownBlock = some k → base ≤ k ∧ k < w.heap.size := by
  obtain ⟨vs, h1, _⟩ := h; exact h1.lt
theorem IsInts.one {w : World} {v : Value} {l : List Int} (h : IsInts w v l) : v.oneCell' = true := by
  obtain ⟨a, c, rfl, _⟩ := h; rfl
/-- One truth more. -/
theorem append_truth {W : World} {base : Nat} {v : Value} {ts : List Pair} (h : OutAt W base v ts) (hn : ts.length < 4000000) (hbase : base ≤ W.heap.size) {p : Value × Value} {t : Pair} (hp : TrV v.ownBlock W p t) (A : Nat)
    (h0 : W.cell? ⟨A, 0, none⟩ = some p.1) (h1 : W.cell? ⟨A, 1, none⟩ = some p.2) :
    ∃ v' W', (Builtin.append_ #[59, 59] 59 #[v, .slice (some ⟨A, 0, none⟩) 1 1]).run Try.prog W = .ok v' W' ∧ OutAt W' base v' (ts ++ [t]) ∧ W.grownBy W' v.ownBlock ∧ Newer W.heap.size v.ownBlock v'.ownBlock := by
  obtain ⟨i0, hi0, hz0, hz1, hz2⟩ := info_parts trInfo
  obtain ⟨vs, ho, hv⟩ := h
  have hvl : vs.length = ts.length := by have := ho.1; rw [flatT_length] at this; omega
  have o0 := hp.now.1.one
  have o1 := hp.now.2.one
  obtain ⟨v', W', g1, g2, g3, g4⟩ := append_rows (P := Try.prog) (w := W) base 59 59 62 i0 _ 2 48 und59 hi0 hz0 hz1 hz2 rfl (by omega) v ts.length _ ho (.slice (some ⟨A, 0, none⟩) 1 1) 1 (fun _ j => if j = 0 then p.1 else p.2)
    ⟨some ⟨A, 0, none⟩, 1, rfl, by omega, by omega, fun _ => ⟨A, 0, rfl, fun q j hq hj => by
      have : q = 0 := by omega
      subst this
      have : j = 0 ∨ j = 1 := by omega
      rcases this with rfl | rfl
      · simpa using h0
      · simpa using h1⟩⟩ (fun _ j _ _ => by split <;> assumption) (by unfold maxLen; omega) (by omega) hbase
  have hnew : Newer W.heap.size v.ownBlock v'.ownBlock := by
    rcases g4 with e | e
    · exact .inl e
    · exact .inr ⟨_, e, Nat.le_refl _⟩
  refine ⟨v', W', g1, ⟨vs ++ [p], ?_, ?_⟩, g3, hnew⟩
  · have e2 : flatR 1 2 (fun _ j => if j = 0 then p.1 else p.2) = [p.1, p.2] := by simp [flatR, List.range_succ]
    rw [e2] at g2
    rw [List.length_append]
    have e3 : flatT (vs ++ [p]) = flatT vs ++ [p.1, p.2] := by simp [flatT]
    rw [e3]; exact g2
  · intro k q u hq hu
    rw [List.getElem?_append] at hq hu
    by_cases hk : k < vs.length
    · rw [if_pos hk] at hq
      rw [if_pos (by omega)] at hu
      exact (hv k q u hq hu).newer g3 hnew
    · rw [if_neg hk] at hq
      rw [if_neg (by omega)] at hu
      have hk0 : k - vs.length = 0 := by
        rcases Nat.eq_zero_or_pos (k - vs.length) with e | e
        · exact e
        · rw [List.getElem?_eq_none (by simp; omega)] at hq; cases hq
      rw [hk0] at hq
      rw [show k - ts.length = 0 by omega] at hu
      simp at hq hu
      subst hq; subst hu
      exact hp.newer g3 hnew
end Go.Proofs.Ytjmobepipfbbnaa

set_option linter.unusedSimpArgs false
set_option linter.unusedVariables false
namespace Go.Proofs.Ytjmobepipfbbnaa
open Go.RowKit Go.Shelf
def row1 (L : Nat → Bool) (u : Nat → Value) (rs : List Int) (who : Int) : Value × List Int := if L 7 then (u 56, rs ++ [who]) else if L 4 then (u 53, rs) else if L 1 then (u 50, []) else nilP
def one1 (L : Nat → Bool) (u : Nat → Value) (who : Int) : Value × List Int := if L 7 then nilP else if L 6 then (u 55, [who]) else nilP
def row2 (L : Nat → Bool) (u : Nat → Value) (hs : List Int) (h : Int) : Value × List Int := if L 14 then (u 63, hs ++ [h]) else if L 11 then (u 60, hs) else if L 8 then (u 57, []) else nilP
def one2 (L : Nat → Bool) (u : Nat → Value) (h : Int) : Value × List Int := if L 14 then nilP else if L 13 then (u 62, [h]) else nilP
structure TruG (X0 : World) (fv rv hv x : Value) (B : Nat) (who h : Int) (rs hs : List Int) (Po : Value → World → Prop) (L : Nat → Bool) (u : Nat → Value) (w : World) : Prop where
  z0 : L 0 = true → u 49 = fv
  z2 : L 2 = true → u 51 = .pointer (some ⟨B + 1, 0, none⟩)
  z3 : L 3 = true → u 52 = rv
  z5 : L 5 = true → u 54 = .int .i64 who
  z9 : L 9 = true → u 58 = .pointer (some ⟨B + 1, 1, none⟩)
  z10 : L 10 = true → u 59 = hv
  z12 : L 12 = true → u 61 = .int .i64 h
  z16 : L 16 = true → u 65 = x
  z15 : L 15 = true → u 64 = .agg #[u 56, u 63]
  rows : L 17 = false → Below X0.heap.size X0 w ∧ Four w X0.heap.size (row1 L u rs who) (one1 L u who) (row2 L u hs h) (one2 L u h)
  call : L 17 = true → Po (u 66) w
  s2 : L 18 = false → u 2 = x
  s3 : L 18 = true → u 2 = u 66
section
variable {X0 : World} {fv rv hv x : Value} {B : Nat} {who h : Int} {rs hs : List Int} {Po : Value → World → Prop} {L : Nat → Bool} {u : Nat → Value} {w w' : World}
theorem truG_start (fv rv hv : Value) (B : Nat) (who h : Int) (rs hs : List Int) (Po : Value → World → Prop) (u : Nat → Value) (h2 : u 2 = x) (hb : Below X0.heap.size X0 w) : TruG X0 fv rv hv x B who h rs hs Po (fun _ => false) u w :=
  ⟨(fun e => by cases e), (fun e => by cases e), (fun e => by cases e), (fun e => by cases e), (fun e => by cases e), (fun e => by cases e), (fun e => by cases e), (fun e => by cases e), (fun e => by cases e), fun _ => ⟨hb, Four.nil w _⟩, (fun e => by cases e), fun _ => h2, (fun e => by cases e)⟩
theorem TruG.st0 (H : TruG X0 fv rv hv x B who h rs hs Po L u w) : TruG X0 fv rv hv x B who h rs hs Po (updL L 0) (putU u 49 (fv)) w :=
  ⟨fun _ => by simp [putU],
    fun e => by simpa [updL, putU] using H.z2 (by simpa [updL] using e),
    fun e => by simpa [updL, putU] using H.z3 (by simpa [updL] using e),
    fun e => by simpa [updL, putU] using H.z5 (by simpa [updL] using e),
    fun e => by simpa [updL, putU] using H.z9 (by simpa [updL] using e),
    fun e => by simpa [updL, putU] using H.z10 (by simpa [updL] using e),
    fun e => by simpa [updL, putU] using H.z12 (by simpa [updL] using e),
    fun e => by simpa [updL, putU] using H.z16 (by simpa [updL] using e),
    fun e => by simpa [updL, putU] using H.z15 (by simpa [updL] using e),
    fun e => (by have e1 : L 17 = false := (by simpa [updL] using e); have e2 := H.rows e1; simpa [row1, one1, row2, one2, updL, putU] using e2),
    fun e => by simpa [updL, putU] using H.call (by simpa [updL] using e),
    fun e => by simpa [updL, putU] using H.s2 (by simpa [updL] using e),
    fun e => by simpa [updL, putU] using H.s3 (by simpa [updL] using e)⟩
theorem TruG.st2 (H : TruG X0 fv rv hv x B who h rs hs Po L u w) : TruG X0 fv rv hv x B who h rs hs Po (updL L 2) (putU u 51 (.pointer (some ⟨B + 1, 0, none⟩))) w :=
  ⟨fun e => by simpa [updL, putU] using H.z0 (by simpa [updL] using e),
    fun _ => by simp [putU],
    fun e => by simpa [updL, putU] using H.z3 (by simpa [updL] using e),
    fun e => by simpa [updL, putU] using H.z5 (by simpa [updL] using e),
    fun e => by simpa [updL, putU] using H.z9 (by simpa [updL] using e),
    fun e => by simpa [updL, putU] using H.z10 (by simpa [updL] using e),
    fun e => by simpa [updL, putU] using H.z12 (by simpa [updL] using e),
    fun e => by simpa [updL, putU] using H.z16 (by simpa [updL] using e),
    fun e => by simpa [updL, putU] using H.z15 (by simpa [updL] using e),
    fun e => (by have e1 : L 17 = false := (by simpa [updL] using e); have e2 := H.rows e1; simpa [row1, one1, row2, one2, updL, putU] using e2),
    fun e => by simpa [updL, putU] using H.call (by simpa [updL] using e),
    fun e => by simpa [updL, putU] using H.s2 (by simpa [updL] using e),
    fun e => by simpa [updL, putU] using H.s3 (by simpa [updL] using e)⟩
theorem TruG.st3 (H : TruG X0 fv rv hv x B who h rs hs Po L u w) : TruG X0 fv rv hv x B who h rs hs Po (updL L 3) (putU u 52 (rv)) w :=
  ⟨fun e => by simpa [updL, putU] using H.z0 (by simpa [updL] using e),
    fun e => by simpa [updL, putU] using H.z2 (by simpa [updL] using e),
    fun _ => by simp [putU],
    fun e => by simpa [updL, putU] using H.z5 (by simpa [updL] using e),
    fun e => by simpa [updL, putU] using H.z9 (by simpa [updL] using e),
    fun e => by simpa [updL, putU] using H.z10 (by simpa [updL] using e),
    fun e => by simpa [updL, putU] using H.z12 (by simpa [updL] using e),
    fun e => by simpa [updL, putU] using H.z16 (by simpa [updL] using e),
    fun e => by simpa [updL, putU] using H.z15 (by simpa [updL] using e),
    fun e => (by have e1 : L 17 = false := (by simpa [updL] using e); have e2 := H.rows e1; simpa [row1, one1, row2, one2, updL, putU] using e2),
    fun e => by simpa [updL, putU] using H.call (by simpa [updL] using e),
    fun e => by simpa [updL, putU] using H.s2 (by simpa [updL] using e),
    fun e => by simpa [updL, putU] using H.s3 (by simpa [updL] using e)⟩
theorem TruG.st5 (H : TruG X0 fv rv hv x B who h rs hs Po L u w) : TruG X0 fv rv hv x B who h rs hs Po (updL L 5) (putU u 54 (.int .i64 who)) w :=
  ⟨fun e => by simpa [updL, putU] using H.z0 (by simpa [updL] using e),
    fun e => by simpa [updL, putU] using H.z2 (by simpa [updL] using e),
    fun e => by simpa [updL, putU] using H.z3 (by simpa [updL] using e),
    fun _ => by simp [putU],
    fun e => by simpa [updL, putU] using H.z9 (by simpa [updL] using e),
    fun e => by simpa [updL, putU] using H.z10 (by simpa [updL] using e),
    fun e => by simpa [updL, putU] using H.z12 (by simpa [updL] using e),
    fun e => by simpa [updL, putU] using H.z16 (by simpa [updL] using e),
    fun e => by simpa [updL, putU] using H.z15 (by simpa [updL] using e),
    fun e => (by have e1 : L 17 = false := (by simpa [updL] using e); have e2 := H.rows e1; simpa [row1, one1, row2, one2, updL, putU] using e2),
    fun e => by simpa [updL, putU] using H.call (by simpa [updL] using e),
    fun e => by simpa [updL, putU] using H.s2 (by simpa [updL] using e),
    fun e => by simpa [updL, putU] using H.s3 (by simpa [updL] using e)⟩
theorem TruG.st9 (H : TruG X0 fv rv hv x B who h rs hs Po L u w) : TruG X0 fv rv hv x B who h rs hs Po (updL L 9) (putU u 58 (.pointer (some ⟨B + 1, 1, none⟩))) w :=
  ⟨fun e => by simpa [updL, putU] using H.z0 (by simpa [updL] using e),
    fun e => by simpa [updL, putU] using H.z2 (by simpa [updL] using e),
    fun e => by simpa [updL, putU] using H.z3 (by simpa [updL] using e),
    fun e => by simpa [updL, putU] using H.z5 (by simpa [updL] using e),
    fun _ => by simp [putU],
    fun e => by simpa [updL, putU] using H.z10 (by simpa [updL] using e),
    fun e => by simpa [updL, putU] using H.z12 (by simpa [updL] using e),
    fun e => by simpa [updL, putU] using H.z16 (by simpa [updL] using e),
    fun e => by simpa [updL, putU] using H.z15 (by simpa [updL] using e),
    fun e => (by have e1 : L 17 = false := (by simpa [updL] using e); have e2 := H.rows e1; simpa [row1, one1, row2, one2, updL, putU] using e2),
    fun e => by simpa [updL, putU] using H.call (by simpa [updL] using e),
    fun e => by simpa [updL, putU] using H.s2 (by simpa [updL] using e),
    fun e => by simpa [updL, putU] using H.s3 (by simpa [updL] using e)⟩
theorem TruG.st10 (H : TruG X0 fv rv hv x B who h rs hs Po L u w) : TruG X0 fv rv hv x B who h rs hs Po (updL L 10) (putU u 59 (hv)) w :=
  ⟨fun e => by simpa [updL, putU] using H.z0 (by simpa [updL] using e),
    fun e => by simpa [updL, putU] using H.z2 (by simpa [updL] using e),
    fun e => by simpa [updL, putU] using H.z3 (by simpa [updL] using e),
    fun e => by simpa [updL, putU] using H.z5 (by simpa [updL] using e),
    fun e => by simpa [updL, putU] using H.z9 (by simpa [updL] using e),
    fun _ => by simp [putU],
    fun e => by simpa [updL, putU] using H.z12 (by simpa [updL] using e),
    fun e => by simpa [updL, putU] using H.z16 (by simpa [updL] using e),
    fun e => by simpa [updL, putU] using H.z15 (by simpa [updL] using e),
    fun e => (by have e1 : L 17 = false := (by simpa [updL] using e); have e2 := H.rows e1; simpa [row1, one1, row2, one2, updL, putU] using e2),
    fun e => by simpa [updL, putU] using H.call (by simpa [updL] using e),
    fun e => by simpa [updL, putU] using H.s2 (by simpa [updL] using e),
    fun e => by simpa [updL, putU] using H.s3 (by simpa [updL] using e)⟩
theorem TruG.st12 (H : TruG X0 fv rv hv x B who h rs hs Po L u w) : TruG X0 fv rv hv x B who h rs hs Po (updL L 12) (putU u 61 (.int .i64 h)) w :=
  ⟨fun e => by simpa [updL, putU] using H.z0 (by simpa [updL] using e),
    fun e => by simpa [updL, putU] using H.z2 (by simpa [updL] using e),
    fun e => by simpa [updL, putU] using H.z3 (by simpa [updL] using e),
    fun e => by simpa [updL, putU] using H.z5 (by simpa [updL] using e),
    fun e => by simpa [updL, putU] using H.z9 (by simpa [updL] using e),
    fun e => by simpa [updL, putU] using H.z10 (by simpa [updL] using e),
    fun _ => by simp [putU],
    fun e => by simpa [updL, putU] using H.z16 (by simpa [updL] using e),
    fun e => by simpa [updL, putU] using H.z15 (by simpa [updL] using e),
    fun e => (by have e1 : L 17 = false := (by simpa [updL] using e); have e2 := H.rows e1; simpa [row1, one1, row2, one2, updL, putU] using e2),
    fun e => by simpa [updL, putU] using H.call (by simpa [updL] using e),
    fun e => by simpa [updL, putU] using H.s2 (by simpa [updL] using e),
    fun e => by simpa [updL, putU] using H.s3 (by simpa [updL] using e)⟩
theorem TruG.st16 (H : TruG X0 fv rv hv x B who h rs hs Po L u w) : TruG X0 fv rv hv x B who h rs hs Po (updL L 16) (putU u 65 (x)) w :=
  ⟨fun e => by simpa [updL, putU] using H.z0 (by simpa [updL] using e),
    fun e => by simpa [updL, putU] using H.z2 (by simpa [updL] using e),
    fun e => by simpa [updL, putU] using H.z3 (by simpa [updL] using e),
    fun e => by simpa [updL, putU] using H.z5 (by simpa [updL] using e),
    fun e => by simpa [updL, putU] using H.z9 (by simpa [updL] using e),
    fun e => by simpa [updL, putU] using H.z10 (by simpa [updL] using e),
    fun e => by simpa [updL, putU] using H.z12 (by simpa [updL] using e),
    fun _ => by simp [putU],
    fun e => by simpa [updL, putU] using H.z15 (by simpa [updL] using e),
    fun e => (by have e1 : L 17 = false := (by simpa [updL] using e); have e2 := H.rows e1; simpa [row1, one1, row2, one2, updL, putU] using e2),
    fun e => by simpa [updL, putU] using H.call (by simpa [updL] using e),
    fun e => by simpa [updL, putU] using H.s2 (by simpa [updL] using e),
    fun e => by simpa [updL, putU] using H.s3 (by simpa [updL] using e)⟩
theorem TruG.st15 (H : TruG X0 fv rv hv x B who h rs hs Po L u w) : TruG X0 fv rv hv x B who h rs hs Po (updL L 15) (putU u 64 (.agg #[u 56, u 63])) w :=
  ⟨fun e => by simpa [updL, putU] using H.z0 (by simpa [updL] using e),
    fun e => by simpa [updL, putU] using H.z2 (by simpa [updL] using e),
    fun e => by simpa [updL, putU] using H.z3 (by simpa [updL] using e),
    fun e => by simpa [updL, putU] using H.z5 (by simpa [updL] using e),
    fun e => by simpa [updL, putU] using H.z9 (by simpa [updL] using e),
    fun e => by simpa [updL, putU] using H.z10 (by simpa [updL] using e),
    fun e => by simpa [updL, putU] using H.z12 (by simpa [updL] using e),
    fun e => by simpa [updL, putU] using H.z16 (by simpa [updL] using e),
    fun _ => by simp [putU],
    fun e => (by have e1 : L 17 = false := (by simpa [updL] using e); have e2 := H.rows e1; simpa [row1, one1, row2, one2, updL, putU] using e2),
    fun e => by simpa [updL, putU] using H.call (by simpa [updL] using e),
    fun e => by simpa [updL, putU] using H.s2 (by simpa [updL] using e),
    fun e => by simpa [updL, putU] using H.s3 (by simpa [updL] using e)⟩
/-- The row that is listed is not yet laid behind another one. -/
theorem four_swap12 {w : World} {b : Nat} {p q r s : Value × List Int} (h : Four w b p q r s) : Four w b q p r s := ⟨h.oq, h.op, h.or, h.os, h.pq.symm, h.qr, h.qs, h.pr, h.ps, h.rs⟩
theorem TruG.st1 (H : TruG X0 fv rv hv x B who h rs hs Po L u w) (h4 : L 4 = false) (h7 : L 7 = false) (h1 : L 1 = false) (h15 : L 15 = false) (h17 : L 17 = false) {v : Value} (hb' : Below w.heap.size w w') (ho : w'.ownsRow X0.heap.size 3 1 v 0 (intV [])) (hvb : v.ownBlock = some w.heap.size) : TruG X0 fv rv hv x B who h rs hs Po (updL L 1) (putU u 50 v) w' := by
  obtain ⟨hb, hf⟩ := H.rows h17
  refine ⟨fun e => by simpa [updL, putU] using H.z0 (by simpa [updL] using e),
    fun e => by simpa [updL, putU] using H.z2 (by simpa [updL] using e),
    fun e => by simpa [updL, putU] using H.z3 (by simpa [updL] using e),
    fun e => by simpa [updL, putU] using H.z5 (by simpa [updL] using e),
    fun e => by simpa [updL, putU] using H.z9 (by simpa [updL] using e),
    fun e => by simpa [updL, putU] using H.z10 (by simpa [updL] using e),
    fun e => by simpa [updL, putU] using H.z12 (by simpa [updL] using e),
    fun e => by simpa [updL, putU] using H.z16 (by simpa [updL] using e),
    fun e => by simp [updL, h15] at e,
    fun e => ?_,
    fun e => by simp [updL, h17] at e,
    fun e => by simpa [updL, putU] using H.s2 (by simpa [updL] using e),
    fun e => by simpa [updL, putU] using H.s3 (by simpa [updL] using e)⟩
  have hf : Four w X0.heap.size nilP (one1 L u who) (row2 L u hs h) (one2 L u h) := by simpa [row1, one1, row2, one2, updL, putU, h4, h7, h1] using hf
  have h1 := hf.fresh (l := []) hb' ho hvb
  exact ⟨hb.trans (hb'.mono hb.size), by simpa [row1, one1, row2, one2, updL, putU, h4, h7, h1] using h1⟩
theorem TruG.st6 (H : TruG X0 fv rv hv x B who h rs hs Po L u w) (h7 : L 7 = false) (h6 : L 6 = false) (h15 : L 15 = false) (h17 : L 17 = false) {v : Value} (hb' : Below w.heap.size w w') (ho : w'.ownsRow X0.heap.size 3 1 v 1 (intV [who])) (hvb : v.ownBlock = some w.heap.size) : TruG X0 fv rv hv x B who h rs hs Po (updL L 6) (putU u 55 v) w' := by
  obtain ⟨hb, hf⟩ := H.rows h17
  refine ⟨fun e => by simpa [updL, putU] using H.z0 (by simpa [updL] using e),
    fun e => by simpa [updL, putU] using H.z2 (by simpa [updL] using e),
    fun e => by simpa [updL, putU] using H.z3 (by simpa [updL] using e),
    fun e => by simpa [updL, putU] using H.z5 (by simpa [updL] using e),
    fun e => by simpa [updL, putU] using H.z9 (by simpa [updL] using e),
    fun e => by simpa [updL, putU] using H.z10 (by simpa [updL] using e),
    fun e => by simpa [updL, putU] using H.z12 (by simpa [updL] using e),
    fun e => by simpa [updL, putU] using H.z16 (by simpa [updL] using e),
    fun e => by simp [updL, h15] at e,
    fun e => ?_,
    fun e => by simp [updL, h17] at e,
    fun e => by simpa [updL, putU] using H.s2 (by simpa [updL] using e),
    fun e => by simpa [updL, putU] using H.s3 (by simpa [updL] using e)⟩
  have hf : Four w X0.heap.size (row1 L u rs who) nilP (row2 L u hs h) (one2 L u h) := by simpa [row1, one1, row2, one2, updL, putU, h7, h6] using hf
  have h1 := four_swap12 ((four_swap12 hf).fresh (l := [who]) hb' ho hvb)
  exact ⟨hb.trans (hb'.mono hb.size), by simpa [row1, one1, row2, one2, updL, putU, h7, h6] using h1⟩
theorem TruG.st8 (H : TruG X0 fv rv hv x B who h rs hs Po L u w) (h11 : L 11 = false) (h14 : L 14 = false) (h8 : L 8 = false) (h15 : L 15 = false) (h17 : L 17 = false) {v : Value} (hb' : Below w.heap.size w w') (ho : w'.ownsRow X0.heap.size 3 1 v 0 (intV [])) (hvb : v.ownBlock = some w.heap.size) : TruG X0 fv rv hv x B who h rs hs Po (updL L 8) (putU u 57 v) w' := by
  obtain ⟨hb, hf⟩ := H.rows h17
  refine ⟨fun e => by simpa [updL, putU] using H.z0 (by simpa [updL] using e),
    fun e => by simpa [updL, putU] using H.z2 (by simpa [updL] using e),
    fun e => by simpa [updL, putU] using H.z3 (by simpa [updL] using e),
    fun e => by simpa [updL, putU] using H.z5 (by simpa [updL] using e),
    fun e => by simpa [updL, putU] using H.z9 (by simpa [updL] using e),
    fun e => by simpa [updL, putU] using H.z10 (by simpa [updL] using e),
    fun e => by simpa [updL, putU] using H.z12 (by simpa [updL] using e),
    fun e => by simpa [updL, putU] using H.z16 (by simpa [updL] using e),
    fun e => by simp [updL, h15] at e,
    fun e => ?_,
    fun e => by simp [updL, h17] at e,
    fun e => by simpa [updL, putU] using H.s2 (by simpa [updL] using e),
    fun e => by simpa [updL, putU] using H.s3 (by simpa [updL] using e)⟩
  have hf : Four w X0.heap.size (row1 L u rs who) (one1 L u who) nilP (one2 L u h) := by simpa [row1, one1, row2, one2, updL, putU, h11, h14, h8] using hf
  have h1 := (hf.rot.rot.fresh (l := []) hb' ho hvb).rot.rot
  exact ⟨hb.trans (hb'.mono hb.size), by simpa [row1, one1, row2, one2, updL, putU, h11, h14, h8] using h1⟩
theorem TruG.st13 (H : TruG X0 fv rv hv x B who h rs hs Po L u w) (h14 : L 14 = false) (h13 : L 13 = false) (h15 : L 15 = false) (h17 : L 17 = false) {v : Value} (hb' : Below w.heap.size w w') (ho : w'.ownsRow X0.heap.size 3 1 v 1 (intV [h])) (hvb : v.ownBlock = some w.heap.size) : TruG X0 fv rv hv x B who h rs hs Po (updL L 13) (putU u 62 v) w' := by
  obtain ⟨hb, hf⟩ := H.rows h17
  refine ⟨fun e => by simpa [updL, putU] using H.z0 (by simpa [updL] using e),
    fun e => by simpa [updL, putU] using H.z2 (by simpa [updL] using e),
    fun e => by simpa [updL, putU] using H.z3 (by simpa [updL] using e),
    fun e => by simpa [updL, putU] using H.z5 (by simpa [updL] using e),
    fun e => by simpa [updL, putU] using H.z9 (by simpa [updL] using e),
    fun e => by simpa [updL, putU] using H.z10 (by simpa [updL] using e),
    fun e => by simpa [updL, putU] using H.z12 (by simpa [updL] using e),
    fun e => by simpa [updL, putU] using H.z16 (by simpa [updL] using e),
    fun e => by simp [updL, h15] at e,
    fun e => ?_,
    fun e => by simp [updL, h17] at e,
    fun e => by simpa [updL, putU] using H.s2 (by simpa [updL] using e),
    fun e => by simpa [updL, putU] using H.s3 (by simpa [updL] using e)⟩
  have hf : Four w X0.heap.size (row1 L u rs who) (one1 L u who) (row2 L u hs h) nilP := by simpa [row1, one1, row2, one2, updL, putU, h14, h13] using hf
  have h1 := (hf.rot.rot.rot.fresh (l := [h]) hb' ho hvb).rot
  exact ⟨hb.trans (hb'.mono hb.size), by simpa [row1, one1, row2, one2, updL, putU, h14, h13] using h1⟩
theorem TruG.st4 (H : TruG X0 fv rv hv x B who h rs hs Po L u w) (h7 : L 7 = false) (h15 : L 15 = false) (h17 : L 17 = false) {v : Value} (hb' : Below X0.heap.size X0 w') (hf' : Four w' X0.heap.size (v, rs) (one1 L u who) (row2 L u hs h) (one2 L u h)) : TruG X0 fv rv hv x B who h rs hs Po (updL L 4) (putU u 53 v) w' := by
  obtain ⟨hb, hf⟩ := H.rows h17
  refine ⟨fun e => by simpa [updL, putU] using H.z0 (by simpa [updL] using e),
    fun e => by simpa [updL, putU] using H.z2 (by simpa [updL] using e),
    fun e => by simpa [updL, putU] using H.z3 (by simpa [updL] using e),
    fun e => by simpa [updL, putU] using H.z5 (by simpa [updL] using e),
    fun e => by simpa [updL, putU] using H.z9 (by simpa [updL] using e),
    fun e => by simpa [updL, putU] using H.z10 (by simpa [updL] using e),
    fun e => by simpa [updL, putU] using H.z12 (by simpa [updL] using e),
    fun e => by simpa [updL, putU] using H.z16 (by simpa [updL] using e),
    fun e => by simp [updL, h15] at e,
    fun e => ?_,
    fun e => by simp [updL, h17] at e,
    fun e => by simpa [updL, putU] using H.s2 (by simpa [updL] using e),
    fun e => by simpa [updL, putU] using H.s3 (by simpa [updL] using e)⟩
  exact ⟨hb', by simpa [row1, one1, row2, one2, updL, putU, h7] using hf'⟩
theorem TruG.st7 (H : TruG X0 fv rv hv x B who h rs hs Po L u w)  (h15 : L 15 = false) (h17 : L 17 = false) {v : Value} (hb' : Below X0.heap.size X0 w') (hf' : Four w' X0.heap.size (v, rs ++ [who]) nilP (row2 L u hs h) (one2 L u h)) : TruG X0 fv rv hv x B who h rs hs Po (updL L 7) (putU u 56 v) w' := by
  obtain ⟨hb, hf⟩ := H.rows h17
  refine ⟨fun e => by simpa [updL, putU] using H.z0 (by simpa [updL] using e),
    fun e => by simpa [updL, putU] using H.z2 (by simpa [updL] using e),
    fun e => by simpa [updL, putU] using H.z3 (by simpa [updL] using e),
    fun e => by simpa [updL, putU] using H.z5 (by simpa [updL] using e),
    fun e => by simpa [updL, putU] using H.z9 (by simpa [updL] using e),
    fun e => by simpa [updL, putU] using H.z10 (by simpa [updL] using e),
    fun e => by simpa [updL, putU] using H.z12 (by simpa [updL] using e),
    fun e => by simpa [updL, putU] using H.z16 (by simpa [updL] using e),
    fun e => by simp [updL, h15] at e,
    fun e => ?_,
    fun e => by simp [updL, h17] at e,
    fun e => by simpa [updL, putU] using H.s2 (by simpa [updL] using e),
    fun e => by simpa [updL, putU] using H.s3 (by simpa [updL] using e)⟩
  exact ⟨hb', by simpa [row1, one1, row2, one2, updL, putU, ] using hf'⟩
theorem TruG.st11 (H : TruG X0 fv rv hv x B who h rs hs Po L u w) (h14 : L 14 = false) (h15 : L 15 = false) (h17 : L 17 = false) {v : Value} (hb' : Below X0.heap.size X0 w') (hf' : Four w' X0.heap.size (row1 L u rs who) (one1 L u who) (v, hs) (one2 L u h)) : TruG X0 fv rv hv x B who h rs hs Po (updL L 11) (putU u 60 v) w' := by
  obtain ⟨hb, hf⟩ := H.rows h17
  refine ⟨fun e => by simpa [updL, putU] using H.z0 (by simpa [updL] using e),
    fun e => by simpa [updL, putU] using H.z2 (by simpa [updL] using e),
    fun e => by simpa [updL, putU] using H.z3 (by simpa [updL] using e),
    fun e => by simpa [updL, putU] using H.z5 (by simpa [updL] using e),
    fun e => by simpa [updL, putU] using H.z9 (by simpa [updL] using e),
    fun e => by simpa [updL, putU] using H.z10 (by simpa [updL] using e),
    fun e => by simpa [updL, putU] using H.z12 (by simpa [updL] using e),
    fun e => by simpa [updL, putU] using H.z16 (by simpa [updL] using e),
    fun e => by simp [updL, h15] at e,
    fun e => ?_,
    fun e => by simp [updL, h17] at e,
    fun e => by simpa [updL, putU] using H.s2 (by simpa [updL] using e),
    fun e => by simpa [updL, putU] using H.s3 (by simpa [updL] using e)⟩
  exact ⟨hb', by simpa [row1, one1, row2, one2, updL, putU, h14] using hf'⟩
theorem TruG.st14 (H : TruG X0 fv rv hv x B who h rs hs Po L u w)  (h15 : L 15 = false) (h17 : L 17 = false) {v : Value} (hb' : Below X0.heap.size X0 w') (hf' : Four w' X0.heap.size (row1 L u rs who) (one1 L u who) (v, hs ++ [h]) nilP) : TruG X0 fv rv hv x B who h rs hs Po (updL L 14) (putU u 63 v) w' := by
  obtain ⟨hb, hf⟩ := H.rows h17
  refine ⟨fun e => by simpa [updL, putU] using H.z0 (by simpa [updL] using e),
    fun e => by simpa [updL, putU] using H.z2 (by simpa [updL] using e),
    fun e => by simpa [updL, putU] using H.z3 (by simpa [updL] using e),
    fun e => by simpa [updL, putU] using H.z5 (by simpa [updL] using e),
    fun e => by simpa [updL, putU] using H.z9 (by simpa [updL] using e),
    fun e => by simpa [updL, putU] using H.z10 (by simpa [updL] using e),
    fun e => by simpa [updL, putU] using H.z12 (by simpa [updL] using e),
    fun e => by simpa [updL, putU] using H.z16 (by simpa [updL] using e),
    fun e => by simp [updL, h15] at e,
    fun e => ?_,
    fun e => by simp [updL, h17] at e,
    fun e => by simpa [updL, putU] using H.s2 (by simpa [updL] using e),
    fun e => by simpa [updL, putU] using H.s3 (by simpa [updL] using e)⟩
  exact ⟨hb', by simpa [row1, one1, row2, one2, updL, putU, ] using hf'⟩
theorem TruG.st17 (H : TruG X0 fv rv hv x B who h rs hs Po L u w) (h18 : L 18 = false) {v : Value} (hp : Po v w') : TruG X0 fv rv hv x B who h rs hs Po (updL L 17) (putU u 66 v) w' :=
  ⟨fun e => by simpa [updL, putU] using H.z0 (by simpa [updL] using e),
    fun e => by simpa [updL, putU] using H.z2 (by simpa [updL] using e),
    fun e => by simpa [updL, putU] using H.z3 (by simpa [updL] using e),
    fun e => by simpa [updL, putU] using H.z5 (by simpa [updL] using e),
    fun e => by simpa [updL, putU] using H.z9 (by simpa [updL] using e),
    fun e => by simpa [updL, putU] using H.z10 (by simpa [updL] using e),
    fun e => by simpa [updL, putU] using H.z12 (by simpa [updL] using e),
    fun e => by simpa [updL, putU] using H.z16 (by simpa [updL] using e),
    fun e => by simpa [updL, putU] using H.z15 (by simpa [updL] using e),
    fun e => by simp [updL] at e,
    fun _ => by simpa [putU] using hp,
    fun e => by simpa [updL, putU] using H.s2 (by simpa [updL] using e),
    fun e => by simp [updL, h18] at e⟩
theorem TruG.st18 (H : TruG X0 fv rv hv x B who h rs hs Po L u w) : TruG X0 fv rv hv x B who h rs hs Po (updL L 18) (putU u 2 (u 66)) w :=
  ⟨fun e => by simpa [updL, putU] using H.z0 (by simpa [updL] using e),
    fun e => by simpa [updL, putU] using H.z2 (by simpa [updL] using e),
    fun e => by simpa [updL, putU] using H.z3 (by simpa [updL] using e),
    fun e => by simpa [updL, putU] using H.z5 (by simpa [updL] using e),
    fun e => by simpa [updL, putU] using H.z9 (by simpa [updL] using e),
    fun e => by simpa [updL, putU] using H.z10 (by simpa [updL] using e),
    fun e => by simpa [updL, putU] using H.z12 (by simpa [updL] using e),
    fun e => by simpa [updL, putU] using H.z16 (by simpa [updL] using e),
    fun e => by simpa [updL, putU] using H.z15 (by simpa [updL] using e),
    fun e => (by have e1 : L 17 = false := (by simpa [updL] using e); have e2 := H.rows e1; simpa [row1, one1, row2, one2, updL, putU] using e2),
    fun e => by simpa [updL, putU] using H.call (by simpa [updL] using e),
    fun e => by simp [updL] at e,
    fun _ => by simp [putU]⟩
/-- The two rows, read, whatever is done to an old block. -/
theorem trV_of_four {b : Option Nat} {n : Nat} {p q r s : Value × List Int} (h : Four w n p q r s) (hx : ∀ k, b = some k → k < n) : TrV b w (p.1, r.1) (p.2, r.2) := fun w' hg => by
  have key : ∀ {y : Value × List Int}, w.ownsRow n 3 1 y.1 y.2.length (intV y.2) → IsInts w' y.1 y.2 := fun {y} ho => by
    refine ints_of_own (ho.kept hg ?_)
    cases hb : b with
    | none =>
      cases hy : y.1.ownBlock
      · exact .inl rfl
      · exact .inr (by simp)
    | some k =>
      refine .inr fun e => ?_
      have := (ho.lt k e).1
      have := hx k hb
      omega
  exact ⟨key h.op, key h.or⟩
end
end Go.Proofs.Ytjmobepipfbbnaa

set_option linter.unusedSimpArgs false
set_option linter.unusedVariables false
namespace Go.Proofs.Ytjmobepipfbbnaa
def goT (nr : Nat) : List Off → List Int → List Int → List (List Int × List Int)
  | [], rs, hs => [(rs, hs)]
  | o :: t, rs, hs => (List.range nr).flatMap fun who => if o.riders.toNat.testBit who then (List.range (o.hi - o.lo + 1).toNat).flatMap fun h => goT nr t (rs ++ [((who : Nat) : Int)]) (hs ++ [o.lo + ((h : Nat) : Int)]) else []
def hourT (nr : Nat) (t : List Off) (o : Off) (rs hs : List Int) (who h : Nat) : List (List Int × List Int) := goT nr t (rs ++ [((who : Nat) : Int)]) (hs ++ [o.lo + ((h : Nat) : Int)])
def hoursT (nr : Nat) (t : List Off) (o : Off) (rs hs : List Int) (who q : Nat) : List (List Int × List Int) := (List.range q).flatMap (hourT nr t o rs hs who)
def whoT (nr : Nat) (t : List Off) (o : Off) (rs hs : List Int) (who : Nat) : List (List Int × List Int) := if o.riders.toNat.testBit who then hoursT nr t o rs hs who (o.hi - o.lo + 1).toNat else []
def whosT (nr : Nat) (t : List Off) (o : Off) (rs hs : List Int) (k : Nat) : List (List Int × List Int) := (List.range k).flatMap (whoT nr t o rs hs)
theorem goT_cons (nr : Nat) (o : Off) (t : List Off) (rs hs : List Int) : goT nr (o :: t) rs hs = whosT nr t o rs hs nr := rfl
theorem flatMap_succ {α : Type} (f : Nat → List α) (k : Nat) : (List.range (k + 1)).flatMap f = (List.range k).flatMap f ++ f k := by
  rw [List.range_succ, List.flatMap_append]; simp
theorem flatMap_cong {α β : Type} {f g : α → List β} : ∀ {l : List α}, (∀ a, a ∈ l → f a = g a) → l.flatMap f = l.flatMap g
  | [], _ => rfl
  | x :: t, h => by rw [List.flatMap_cons, List.flatMap_cons, h x (by simp), flatMap_cong fun a ha => h a (by simp [ha])]
theorem flatMap_zero {α : Type} (f : Nat → List α) : (List.range 0).flatMap f = [] := rfl
theorem flatMap_len {α : Type} (f : Nat → List α) {k n : Nat} (h : k < n) : ((List.range k).flatMap f).length + (f k).length ≤ ((List.range n).flatMap f).length := by
  induction n with
  | zero => omega
  | succ n ih =>
    rw [flatMap_succ, List.length_append]
    by_cases e : k = n
    · subst e; omega
    · have := ih (by omega); omega
theorem flatMap_le {α : Type} (f : Nat → List α) (n c : Nat) (h : ∀ k, k < n → (f k).length ≤ c) : ((List.range n).flatMap f).length ≤ n * c := by
  induction n with
  | zero => simp
  | succ n ih =>
    rw [flatMap_succ, List.length_append, Nat.add_mul, Nat.one_mul]
    have := ih (fun k hk => h k (by omega))
    have := h n (by omega)
    omega
theorem whosT_succ (nr : Nat) (t : List Off) (o : Off) (rs hs : List Int) (k : Nat) : whosT nr t o rs hs (k + 1) = whosT nr t o rs hs k ++ whoT nr t o rs hs k := flatMap_succ _ _
theorem hoursT_succ (nr : Nat) (t : List Off) (o : Off) (rs hs : List Int) (who q : Nat) : hoursT nr t o rs hs who (q + 1) = hoursT nr t o rs hs who q ++ hourT nr t o rs hs who q := flatMap_succ _ _
theorem goT_len {nr : Nat} (h6 : nr ≤ 6) : ∀ (offs : List Off) (rs hs : List Int), (∀ o ∈ offs, o.hi - o.lo ≤ 2) → (goT nr offs rs hs).length ≤ 18 ^ offs.length
  | [], rs, hs, _ => by simp [goT]
  | o :: t, rs, hs, h => by
    have ho := h o (by simp)
    have h1 : (goT nr (o :: t) rs hs).length ≤ nr * (3 * 18 ^ t.length) := by
      unfold goT
      refine flatMap_le _ _ _ fun who _ => ?_
      split
      · refine Nat.le_trans (flatMap_le _ _ (18 ^ t.length) fun q _ => ?_) (Nat.mul_le_mul_right _ (by omega))
        exact goT_len h6 t _ _ fun o' ho' => h o' (by simp [ho'])
      · simp
    have h2 : nr * (3 * 18 ^ t.length) ≤ 6 * (3 * 18 ^ t.length) := Nat.mul_le_mul_right _ h6
    rw [List.length_cons, Nat.pow_succ]; omega
theorem pow18 {n : Nat} (h : n ≤ 5) : 18 ^ n ≤ 1889568 := Nat.le_trans (Nat.pow_le_pow_right (by omega) h) (by decide)
/-- The same as the plain list of truths. -/
theorem goT_truths {nr : Nat} (h6 : nr ≤ 6) : ∀ (offs : List Off) (i : Int) (rs hs : List Int), goT nr offs rs hs = (truthL nr i offs).map fun t => (rs ++ t.map Kn.rider, hs ++ t.map Kn.hour)
  | [], i, rs, hs => by simp [goT, truthL]
  | o :: t, i, rs, hs => by
    have e1 : truthL nr i (o :: t) = (whoK nr 63 i o).flatMap fun k => (truthL nr (i + 1) t).map (k :: ·) := by rw [truthL]
    rw [e1]
    unfold goT whoK
    rw [List.flatMap_assoc, List.map_flatMap]
    refine flatMap_cong fun who hw => ?_
    rw [List.mem_range] at hw
    rw [bit63 (by omega), Bool.and_true]
    by_cases hb : o.riders.toNat.testBit who = true
    · rw [if_pos hb, if_pos hb]
      unfold hoursK
      rw [List.flatMap_map, List.map_flatMap]
      refine flatMap_cong fun h _ => ?_
      rw [goT_truths h6 t (i + 1), List.map_map]
      refine List.map_congr_left fun l _ => ?_
      simp
    · rw [if_neg hb, if_neg hb]; rfl
end Go.Proofs.Ytjmobepipfbbnaa

set_option linter.unusedSimpArgs false
set_option linter.unusedVariables false
namespace Go.Proofs.Ytjmobepipfbbnaa
open Go.RowKit Go.Shelf
attribute [local go_sem] Oper.semAt_some
theorem Newer.le {n m : Nat} {a b : Option Nat} (h : Newer m a b) (hm : n ≤ m) : Newer n a b := by
  rcases h with h | ⟨k, h, hk⟩
  · exact .inl h
  · exact .inr ⟨k, h, by omega⟩
/-- What truths reads: the fines and the truth so far, boxed; the offence. -/
structure TruR (B : Nat) (f : Fns) (nr : Nat) (ra la : Option Addr) (rc lc : Nat) (o : Off) (S : Nat) (rv hv : Value) (rs hs : List Int) (X : World) : Prop where
  fn : IsFns X (.agg #[.slice ra f.rules.length rc, .int .i64 (nr : Int), .slice la f.list.length lc]) f
  ri : IsInts X rv rs
  hi : IsInts X hv hs
  c0 : X.cell? ⟨B, 0, none⟩ = some (.slice ra f.rules.length rc)
  c1 : X.cell? ⟨B, 1, none⟩ = some (.int .i64 (nr : Int))
  c2 : X.cell? ⟨B, 2, none⟩ = some (.slice la f.list.length lc)
  t0 : X.cell? ⟨B + 1, 0, none⟩ = some rv
  t1 : X.cell? ⟨B + 1, 1, none⟩ = some hv
  o0 : X.cell? ⟨B + 1 + 1, 0, none⟩ = some (.int .i64 o.kind)
  o1 : X.cell? ⟨B + 1 + 1, 1, none⟩ = some (.int .i64 (S : Int))
  o2 : X.cell? ⟨B + 1 + 1, 2, none⟩ = some (.int .i64 o.lo)
  o3 : X.cell? ⟨B + 1 + 1, 3, none⟩ = some (.int .i64 o.hi)
/-- The world of the loops. -/
structure TruI (w : World) (b : Option Nat) (base : Nat) (R : World → Prop) (X : World) (x : Value) (ds : List Pair) : Prop where
  st : St x.ownBlock X R
  out : OutAt X base x ds
  g : w.grownBy X b
  nw : Newer w.heap.size b x.ownBlock
  sl : base ≤ X.heap.size
theorem TruI.below {w X Y : World} {b : Option Nat} {base : Nat} {R : World → Prop} {x : Value} {ds : List Pair} (h : TruI w b base R X x ds) (hb : Below X.heap.size X Y) : TruI w b base R Y x ds :=
  ⟨h.st.below hb, h.out.below hb, h.g.trans (grownBy_of_below hb b), h.nw, Nat.le_trans h.sl hb.size⟩
theorem TruI.call {w X Y : World} {b : Option Nat} {base : Nat} {R : World → Prop} {x y : Value} {ds es : List Pair} (h : TruI w b base R X x ds) (ho : OutAt Y base y es) (hg : X.grownBy Y x.ownBlock) (hn : Newer X.heap.size x.ownBlock y.ownBlock) : TruI w b base R Y y es :=
  ⟨h.st.newer hg hn, ho, grown_newer h.g (h.nw.le (Nat.le_refl _)) hg, h.nw.trans hn h.g.size, Nat.le_trans h.sl hg.size⟩
set_option maxRecDepth 100000 in
set_option maxHeartbeats 4000000 in
theorem truths_any (f : Fns) (hg : goodFns f = true) (nr : Nat) (hnr : f.riders = (nr : Int)) (hn6 : nr ≤ 6) : ∀ (m : Nat) (rs hs : List Int), rs.length + m = f.list.length → hs.length = rs.length → ∀ (fv rv hv ov : Value) (ts : List Pair) (base : Nat) (w : World),
    St ov.ownBlock w (fun w => IsFns w fv f) → TrV ov.ownBlock w (rv, hv) (rs, hs) → OutAt w base ov ts → base ≤ w.heap.size → ts.length + (goT nr (f.list.drop rs.length) rs hs).length < 4000000 →
    Calls Try.prog 68 #[fv, .agg #[rv, hv], ov] w fun e w' => ∃ ov', e = .returned ov' ∧ OutAt w' base ov' (ts ++ goT nr (f.list.drop rs.length) rs hs) ∧ w.grownBy w' ov.ownBlock ∧ Newer w.heap.size ov.ownBlock ov'.ownBlock := by
  intro m
  induction m with
  | zero =>
    intro rs hs hm hl fv rv hv ov ts base w hf ht ho hb hn
    obtain ⟨vr, vl, rfl, hr0, ho0⟩ := hf.now
    obtain ⟨ra, rc, rfl, z1, z2⟩ := IsRows.slice hr0
    obtain ⟨la, lc, rfl, z3, z4⟩ := IsRows.slice ho0
    obtain ⟨ha, hc, rfl, z5, z6⟩ := IsRows.slice ht.now.1
    obtain ⟨ga, gc, rfl, z7, z8⟩ := IsRows.slice ht.now.2
    rw [hnr] at hf ⊢
    have hb3 : Below w.heap.size w (((w.alloc (.cells #[.slice ra f.rules.length rc, .int .i64 (nr : Int), .slice la f.list.length lc] 25)).alloc (.cells #[.slice ha rs.length hc, .slice ga hs.length gc] 62)).alloc (.cells #[.slice ha rs.length hc, .slice ga hs.length gc] 62)) := (((Below.refl _ _).alloc (Nat.le_refl _) _).alloc (by simp) _).alloc (by simp; omega) _
    obtain ⟨v', W', hap, q1, q2, q3⟩ := append_truth (ho.below hb3) (by omega) (Nat.le_trans hb hb3.size) (ht.below hb3) (w.heap.size + 1 + 1) (cellN (by simp) rfl) (cellN (by simp) rfl)
    have Hap := Lib.hid hap
    have Hq := Lib.hid (And.intro q1 (And.intro ((grownBy_of_below hb3 _).trans q2) (q3.le hb3.size)))
    have hd : goT nr (f.list.drop rs.length) rs hs = [(rs, hs)] := by rw [show rs.length = f.list.length by omega, List.drop_length]; rfl
    rw [hd]
    obtain ⟨oa, oc, rfl⟩ := own_slice ho.choose_spec.1
    have hlen : rs.length = f.list.length := by omega
    clear hap q1 q2 q3 hb3 hd hf ht ho hr0 ho0 hn
    rw [hl] at Hap
    rw [hl]
    rw [hlen] at Hap ⊢
    go_enter Try.func68, Try.ntmps68
    go_wp2_with (at_builtin; refine wpList_append_run rfl (.tmp 19) (.tmp 21) 59 rfl _ _ rfl rfl Hap.out ?_)
    go_ret
    exact ⟨_, rfl, Hq.out⟩
  | succ m ih =>
    intro rs hs hm hl fv rv hv ov ts base w hf ht ho hb hn
    have hlt : rs.length < f.list.length := by omega
    obtain ⟨vr, vl, rfl, hr0, ho0⟩ := hf.now
    obtain ⟨ra, rc, rfl, z1, z2⟩ := IsRows.slice hr0
    obtain ⟨la, lc, rfl, z3, z4⟩ := IsRows.slice ho0
    obtain ⟨ha, hc, rfl, z5, z6⟩ := IsRows.slice ht.now.1
    obtain ⟨ga, gc, rfl, z7, z8⟩ := IsRows.slice ht.now.2
    rw [hnr] at hf ⊢
    obtain ⟨rb, ro, hla, p0, p1, p2, p3⟩ := IsOffs.get ho0 hlt
    subst hla
    have hgo := good_off hg hlt
    obtain ⟨S, hoR, hS0, hS64⟩ := off_set hg hlt
    obtain ⟨o, hoe⟩ : ∃ o, f.list[rs.length] = o := ⟨_, rfl⟩
    rw [hoe] at p0 p1 p2 p3 hgo hoR
    unfold goodOff at hgo
    simp only [Bool.and_eq_true, decide_eq_true_eq] at hgo
    obtain ⟨_, ⟨⟨⟨g1, g2⟩, g3⟩, g4⟩⟩ := hgo
    have hS : o.riders.toNat = S := by omega
    rw [hoR] at p1
    have hdr : f.list.drop rs.length = o :: f.list.drop (rs.length + 1) := by rw [List.drop_eq_getElem_cons hlt, hoe]
    rw [hdr, goT_cons] at hn ⊢
    obtain ⟨tl, htl⟩ : ∃ tl, f.list.drop (rs.length + 1) = tl := ⟨_, rfl⟩
    rw [htl] at hn ⊢
    obtain ⟨cnt, hcnt⟩ : ∃ cnt : Nat, (o.hi - o.lo + 1).toNat = cnt := ⟨_, rfl⟩
    have hcz : o.hi = o.lo + cnt - 1 := by omega
    have hc3 : cnt ≤ 3 := by omega
    obtain ⟨B, hB⟩ : ∃ B, w.heap.size = B := ⟨_, rfl⟩
    obtain ⟨W3, hW3⟩ : ∃ W3, (((w.alloc (.cells #[.slice ra f.rules.length rc, .int .i64 (nr : Int), .slice (some ⟨rb, ro, none⟩) f.list.length lc] 25)).alloc (.cells #[.slice ha rs.length hc, .slice ga hs.length gc] 62)).alloc (.cells #[.int .i64 o.kind, .int .i64 (S : Int), .int .i64 o.lo, .int .i64 o.hi] 55)) = W3 := ⟨_, rfl⟩
    have hb3 : Below w.heap.size w W3 := by rw [← hW3]; exact (((Below.refl _ _).alloc (Nat.le_refl _) _).alloc (by simp) _).alloc (by simp; omega) _
    have hx : ∀ k, ov.ownBlock = some k → k < B := fun k hk => by rw [← hB]; exact (ho.lt k hk).2
    have nb : ∀ q, B ≤ q → some q ≠ ov.ownBlock := fun q hq e => by have := hx q e.symm; omega
    have hR : St ov.ownBlock W3 (TruR B f nr ra (some ⟨rb, ro, none⟩) rc lc o S (.slice ha rs.length hc) (.slice ga hs.length gc) rs hs) := fun X hX => by
      have hf' := (hf.below hb3) X hX
      have ht' := (ht.below hb3) X hX
      have k0 : ∀ q j v, B ≤ q → W3.cell? ⟨q, j, none⟩ = some v → X.cell? ⟨q, j, none⟩ = some v := fun q j v hq hc => hX.cell hc (nb q hq)
      refine ⟨hf', ht'.1, ht'.2, ?_, ?_, ?_, ?_, ?_, ?_, ?_, ?_, ?_⟩ <;> (refine k0 _ _ _ (by omega) ?_; rw [← hW3, ← hB])
      · exact cellP (cellP (cellN rfl rfl) _) _
      · exact cellP (cellP (cellN rfl rfl) _) _
      · exact cellP (cellP (cellN rfl rfl) _) _
      · exact cellP (cellN (by simp) rfl) _
      · exact cellP (cellN (by simp) rfl) _
      · exact cellN (by simp) rfl
      · exact cellN (by simp) rfl
      · exact cellN (by simp) rfl
      · exact cellN (by simp) rfl
    have HI := Lib.hid (show TruI w ov.ownBlock base (TruR B f nr ra (some ⟨rb, ro, none⟩) rc lc o S (.slice ha rs.length hc) (.slice ga hs.length gc) rs hs) W3 ov (ts ++ whosT nr tl o rs hs 0) from
      ⟨hR, by show OutAt W3 base ov (ts ++ []); rw [List.append_nil]; exact ho.below hb3, grownBy_of_below hb3 _, .inl rfl, Nat.le_trans hb hb3.size⟩)
    have hb1 : w.cell? ⟨rb, ro + rs.length * 4, none⟩ = some (.int .i64 o.kind) := p0
    have HA := Lib.hid (fun k X (hk : k < 62) => rhas_any S k X (by omega) hk)
    have IH := Lib.hid ih
    obtain ⟨oa, oc, hov⟩ := own_slice ho.choose_spec.1
    have Hov := Lib.hid hov
    obtain ⟨b0, hb0⟩ : ∃ b0, ov.ownBlock = b0 := ⟨_, rfl⟩
    rw [hb0] at HI ⊢
    have Hm := Lib.hid (And.intro hm (And.intro hl (And.intro hn (And.intro hS (And.intro hcnt (And.intro htl hnr))))))
    have HB := Lib.hid hB
    have Hcz := Lib.hid hcz
    clear hcz
    clear hR hf ht ho hb3 hr0 ho0 hnr hm hl hn ih hb0 hx nb hoe hdr htl hS hcnt hoR hov hb1
    go_enter Try.func68, Try.ntmps68
    have q0 := cellP (cellP p0 (.cells #[.slice ra f.rules.length rc, .int .i64 (nr : Int), .slice (some ⟨rb, ro, none⟩) f.list.length lc] 25)) (.cells #[.slice ha rs.length hc, .slice ga hs.length gc] 62)
    have q1 := cellP (cellP p1 (.cells #[.slice ra f.rules.length rc, .int .i64 (nr : Int), .slice (some ⟨rb, ro, none⟩) f.list.length lc] 25)) (.cells #[.slice ha rs.length hc, .slice ga hs.length gc] 62)
    have q2 := cellP (cellP p2 (.cells #[.slice ra f.rules.length rc, .int .i64 (nr : Int), .slice (some ⟨rb, ro, none⟩) f.list.length lc] 25)) (.cells #[.slice ha rs.length hc, .slice ga hs.length gc] 62)
    have q3 := cellP (cellP p3 (.cells #[.slice ra f.rules.length rc, .int .i64 (nr : Int), .slice (some ⟨rb, ro, none⟩) f.list.length lc] 25)) (.cells #[.slice ha rs.length hc, .slice ga hs.length gc] 62)
    go_upto_region 5 with (fail)
    try rw [hW3]
    clear hW3 q0 q1 q2 q3 p0 p1 p2 p3
    have Hw := Lib.hid hlt
    clear hlt
    go_wp2_with fail
    go_loopw [2, 9] (fun x i X => ∃ k : Nat, k ≤ nr ∧ i = .int .i64 (k : Int) ∧ TruI w b0 base (TruR B f nr ra (some ⟨rb, ro, none⟩) rc lc o S (.slice ha rs.length hc) (.slice ga hs.length gc) rs hs) X x (ts ++ whosT nr tl o rs hs k)) (fun _ i _ => nr - (intOf i).toNat)
    case atStart => exact ⟨0, by omega, rfl, HI.out⟩
    case round =>
      obtain ⟨k, hk, rfl, hI⟩ := hrel
      have HI := Lib.hid hI
      have t0 := hI.st.now.t0
      have t1 := hI.st.now.t1
      have r1 := hI.st.now.c1
      have o1 := hI.st.now.o1
      have o2 := hI.st.now.o2
      have o3 := hI.st.now.o3
      clear hI
      by_cases hlt : k < nr
      · have HAk := HA.out k
        obtain ⟨tb, htb⟩ : ∃ tb, S.testBit k = tb := ⟨_, rfl⟩
        rw [htb] at HAk
        have HAk := Lib.hid HAk
        have Htb := Lib.hid htb
        clear htb
        cases tb
        case false =>
          go_wp2_with (go_at_call 69; with_reducible refine (HAk.out _ (by omega)).mono ?_; rintro e w' ⟨rfl, rfl⟩)
          go_roundw
          case rel =>
            refine ⟨k + 1, by omega, by go_num, ?_⟩
            have e : whoT nr tl o rs hs k = [] := by unfold whoT; rw [Hm.out.2.2.2.1, Htb.out]; rfl
            rw [whosT_succ, e, List.append_nil]; exact HI.out
          case measure => simp [intOf]; omega
        case true =>
          go_wp2_with (go_at_call 69; with_reducible refine (HAk.out _ (by omega)).mono ?_; rintro e w' ⟨rfl, rfl⟩)
          have HI0 := Lib.hid (show TruI w b0 base (TruR B f nr ra (some ⟨rb, ro, none⟩) rc lc o S (.slice ha rs.length hc) (.slice ga hs.length gc) rs hs) wr u2 (ts ++ whosT nr tl o rs hs k ++ hoursT nr tl o rs hs k 0) from by
            show TruI w b0 base _ wr u2 (ts ++ whosT nr tl o rs hs k ++ []); rw [List.append_nil]; exact HI.out)
          clear HI
          go_loopw [2, 10] (fun x i X => ∃ q : Nat, q ≤ cnt ∧ i = .int .i64 (o.lo + (q : Int)) ∧ TruI w b0 base (TruR B f nr ra (some ⟨rb, ro, none⟩) rc lc o S (.slice ha rs.length hc) (.slice ga hs.length gc) rs hs) X x (ts ++ whosT nr tl o rs hs k ++ hoursT nr tl o rs hs k q)) (fun _ i _ => (o.lo + cnt - intOf i).toNat)
          case atStart => exact ⟨0, by omega, by simp, HI0.out⟩
          case round =>
            clear t0 t1 r1 o1 o2 o3 HI0
            obtain ⟨q, hq, rfl, hI⟩ := hrel
            have HI := Lib.hid hI
            have o3 := hI.st.now.o3
            by_cases hql : q < cnt
            · have hlo : decide (o.lo + (q : Int) ≤ o.hi) = true := by have := Hcz.out; simp; omega
              have Hw5 := Lib.hid (show f.list.length ≤ 5 from (good_riders hg).2.2.1)
              have H0 : wr.drew.cell? ⟨B, 0, none⟩ = some (.slice ra f.rules.length rc) ∧ wr.drew.cell? ⟨B, 1, none⟩ = some (.int .i64 (nr : Int)) ∧ wr.drew.cell? ⟨B, 2, none⟩ = some (.slice (some ⟨rb, ro, none⟩) f.list.length lc) ∧ wr.drew.cell? ⟨B + 1, 0, none⟩ = some (.slice ha rs.length hc) ∧ wr.drew.cell? ⟨B + 1, 1, none⟩ = some (.slice ga hs.length gc) := by
                have hn := (HI.out.below (Below.drew (Below.refl _ _))).st.now
                exact ⟨hn.c0, hn.c1, hn.c2, hn.t0, hn.t1⟩
              have H0 := Lib.hid H0
              clear hI
              go_wp2_with fail
              have H0 := H0.out
              refine (wpIn_wide (n := 1)).1 ?_
              refine regionInvU [2, 49, 50, 51, 52, 53, 54, 55, 56, 57, 58, 59, 60, 61, 62, 63, 64, 65, 66] (fun L u X => TruG wr.drew (.agg #[.slice ra f.rules.length rc, .int .i64 (nr : Int), .slice (some ⟨rb, ro, none⟩) f.list.length lc]) (.slice ha rs.length hc) (.slice ga hs.length gc) u2 B (k : Int) (o.lo + (q : Int)) rs hs (fun v X => TruI w b0 base (TruR B f nr ra (some ⟨rb, ro, none⟩) rc lc o S (.slice ha rs.length hc) (.slice ga hs.length gc) rs hs) X v (ts ++ whosT nr tl o rs hs k ++ hoursT nr tl o rs hs k (q + 1))) L u X) (by kernel_rfl) (by kernel_rfl) (fun k hk => ?sz) (truG_start _ _ _ _ _ _ _ _ _ _ rfl (Below.refl _ _)) ?step ?fin
              case sz =>
                have : k < 68 := by simp at hk; omega
                exact this
              case step => as_aux_lemma =>
                intro L u X i A hev hevn hi H hLi hpr hcl K hK
                have hi : i < 19 := hi
                have hc : i = 0 ∨ i = 1 ∨ i = 2 ∨ i = 3 ∨ i = 4 ∨ i = 5 ∨ i = 6 ∨ i = 7 ∨ i = 8 ∨ i = 9 ∨ i = 10 ∨ i = 11 ∨ i = 12 ∨ i = 13 ∨ i = 14 ∨ i = 15 ∨ i = 16 ∨ i = 17 ∨ i = 18 := by omega
                rcases hc with rfl | rfl | rfl | rfl | rfl | rfl | rfl | rfl | rfl | rfl | rfl | rfl | rfl | rfl | rfl | rfl | rfl | rfl | rfl
                · -- 0
                  have h17 : L 17 = false := (by cases h : L 17; rfl; exact absurd (hcl 17 0 h (by kernel_rfl)) (by rw [hLi]; decide))
                  have hb := (H.rows h17).1
                  have e3 : A.eval (.tmp 3) = .pointer (some ⟨B, 0, none⟩) := hevn 3 (by decide)
                  have y0 := Below.cellSome hb H0.1
                  have y1 := Below.cellSome hb H0.2.1
                  have y2 := Below.cellSome hb H0.2.2.1
                  refine opRun (fun _ => trivial) rfl (fun c e => by cases e) rfl (v := (.agg #[.slice ra f.rules.length rc, .int .i64 (nr : Int), .slice (some ⟨rb, ro, none⟩) f.list.length lc])) (w' := X) (k := 49) rfl ?r0 (hK _ _ _ (by decide) ?k0)
                  case r0 =>
                    clear H hK hpr hcl hev hevn HI IH HA Hm
                    generalize A.eval = ρ at e3 ⊢
                    first | (go_simp; done) | (simp [execOp, go_sem, *]; done)
                  case k0 =>
                    exact H.st0
                · -- 1
                  have h17 : L 17 = false := (by cases h : L 17; rfl; exact absurd (hcl 4 1 (hcl 7 4 (hcl 15 7 (hcl 17 15 h (by kernel_rfl)) (by kernel_rfl)) (by kernel_rfl)) (by kernel_rfl)) (by rw [hLi]; decide))
                  have h15 : L 15 = false := (by cases h : L 15; rfl; exact absurd (hcl 4 1 (hcl 7 4 (hcl 15 7 h (by kernel_rfl)) (by kernel_rfl)) (by kernel_rfl)) (by rw [hLi]; decide))
                  have h4 : L 4 = false := (by cases h : L 4; rfl; exact absurd (hcl 4 1 h (by kernel_rfl)) (by rw [hLi]; decide))
                  have h7 : L 7 = false := (by cases h : L 7; rfl; exact absurd (hcl 4 1 (hcl 7 4 h (by kernel_rfl)) (by kernel_rfl)) (by rw [hLi]; decide))
                  refine opRun (fun _ => trivial) rfl (fun c e => by cases e) rfl (v := (.slice (some ⟨X.heap.size, 0, none⟩) 0 0)) (w' := (X.alloc (.cells #[] 3))) (k := 50) rfl ?r1 (hK _ _ _ (by decide) ?k1)
                  case r1 =>
                    clear H hK hpr hcl hev hevn HI IH HA Hm
                    generalize A.eval = ρ
                    first | (go_simp; done) | (simp [execOp, go_sem, *]; done)
                  case k1 =>
                    exact H.st1 h4 h7 hLi h15 h17 ((Below.refl _ _).alloc (Nat.le_refl _) _) ⟨rfl, .inr ⟨X.heap.size, 0, #[], rfl, (H.rows h17).1.size, heap_alloc_new X _, Nat.le_refl _, by unfold maxLen; omega, rfl, rfl⟩⟩ rfl
                · -- 2
                  have e4 : A.eval (.tmp 4) = .pointer (some ⟨B + 1, 0, none⟩) := hevn 4 (by decide)
                  refine opRun (fun _ => trivial) rfl (fun c e => by cases e) rfl (v := .pointer (some ⟨B + 1, 0, none⟩)) (w' := X) (k := 51) rfl ?r2 (hK _ _ _ (by decide) ?k2)
                  case r2 =>
                    clear H hK hpr hcl hev hevn HI IH HA Hm
                    generalize A.eval = ρ at e4 ⊢
                    first | (go_simp; done) | (simp [execOp, go_sem, *]; done)
                  case k2 =>
                    exact H.st2
                · -- 3
                  have h17 : L 17 = false := (by cases h : L 17; rfl; exact absurd (hcl 4 3 (hcl 7 4 (hcl 15 7 (hcl 17 15 h (by kernel_rfl)) (by kernel_rfl)) (by kernel_rfl)) (by kernel_rfl)) (by rw [hLi]; decide))
                  have hb := (H.rows h17).1
                  have f51 : A.eval (.tmp 51) = .pointer (some ⟨B + 1, 0, none⟩) := (hev 51 (by decide)).trans (H.z2 (hpr 2 (by kernel_rfl)))
                  have y0 := Below.cellSome hb H0.2.2.2.1
                  refine opRun (fun _ => trivial) rfl (fun c e => by cases e) rfl (v := (.slice ha rs.length hc)) (w' := X) (k := 52) rfl ?r3 (hK _ _ _ (by decide) ?k3)
                  case r3 =>
                    clear H hK hpr hcl hev hevn HI IH HA Hm
                    generalize A.eval = ρ at f51 ⊢
                    first | (go_simp; done) | (simp [execOp, go_sem, *]; done)
                  case k3 =>
                    exact H.st3
                · -- 4
                  have h17 : L 17 = false := (by cases h : L 17; rfl; exact absurd (hcl 7 4 (hcl 15 7 (hcl 17 15 h (by kernel_rfl)) (by kernel_rfl)) (by kernel_rfl)) (by rw [hLi]; decide))
                  have h15 : L 15 = false := (by cases h : L 15; rfl; exact absurd (hcl 7 4 (hcl 15 7 h (by kernel_rfl)) (by kernel_rfl)) (by rw [hLi]; decide))
                  have h7 : L 7 = false := (by cases h : L 7; rfl; exact absurd (hcl 7 4 h (by kernel_rfl)) (by rw [hLi]; decide))
                  have hp := hpr 1 (by kernel_rfl)
                  have f52 : A.eval (.tmp 52) = (.slice ha rs.length hc) := (hev 52 (by decide)).trans (H.z3 (hpr 3 (by kernel_rfl)))
                  have f50 := hev 50 (by decide)
                  obtain ⟨hb, hf⟩ := H.rows h17
                  have er : row1 L u rs (k : Int) = (u 50, []) := by simp [row1, hLi, h7, hp]
                  rw [er] at hf
                  have hsr : IsInts X (.slice ha rs.length hc) rs := IsRows.below (IsRows.below HI.out.st.now.ri (Below.drew (Below.refl _ _))) hb
                  obtain ⟨v', X', hap, hf2, hgr⟩ := hf.app hsr (by have := Hm.out.1; have := Hm.out.2.1; have := Hw5.out; simp; omega) hb.size
                  have hb2 := hf.under hb hgr hb.size
                  refine opRun (fun _ => trivial) rfl (fun c e => by cases e) rfl (v := v') (w' := X') (k := 53) rfl ?r4 (hK _ _ _ (by decide) ?k4)
                  case r4 =>
                    exact run_append (.tmp 50) (.tmp 52) 26 26 rfl f50 f52 hap
                  case k4 =>
                    exact H.st4 h7 h15 h17 hb2 (by simpa using hf2)
                · -- 5
                  have e9 : A.eval (.tmp 9) = .int .i64 (k : Int) := hevn 9 (by decide)
                  refine opRun (fun _ => trivial) rfl (fun c e => by cases e) rfl (v := .int .i64 (k : Int)) (w' := X) (k := 54) rfl ?r5 (hK _ _ _ (by decide) ?k5)
                  case r5 =>
                    clear H hK hpr hcl hev hevn HI IH HA Hm
                    generalize A.eval = ρ at e9 ⊢
                    first | (go_simp; done) | (simp [execOp, go_sem, *]; done)
                  case k5 =>
                    exact H.st5
                · -- 6
                  have h17 : L 17 = false := (by cases h : L 17; rfl; exact absurd (hcl 7 6 (hcl 15 7 (hcl 17 15 h (by kernel_rfl)) (by kernel_rfl)) (by kernel_rfl)) (by rw [hLi]; decide))
                  have h15 : L 15 = false := (by cases h : L 15; rfl; exact absurd (hcl 7 6 (hcl 15 7 h (by kernel_rfl)) (by kernel_rfl)) (by rw [hLi]; decide))
                  have h7 : L 7 = false := (by cases h : L 7; rfl; exact absurd (hcl 7 6 h (by kernel_rfl)) (by rw [hLi]; decide))
                  have f54 : A.eval (.tmp 54) = .int .i64 (k : Int) := (hev 54 (by decide)).trans (H.z5 (hpr 5 (by kernel_rfl)))
                  refine opRun (fun _ => trivial) rfl (fun c e => by cases e) rfl (v := (.slice (some ⟨X.heap.size, 0, none⟩) 1 1)) (w' := (X.alloc (.cells #[.int .i64 (k : Int)] 3))) (k := 55) rfl ?r6 (hK _ _ _ (by decide) ?k6)
                  case r6 =>
                    clear H hK hpr hcl hev hevn HI IH HA Hm
                    generalize A.eval = ρ at f54 ⊢
                    first | (go_simp; done) | (simp [execOp, go_sem, *]; done)
                  case k6 =>
                    exact H.st6 h7 hLi h15 h17 ((Below.refl _ _).alloc (Nat.le_refl _) _) ⟨rfl, .inr ⟨X.heap.size, 1, #[.int .i64 (k : Int)], rfl, (H.rows h17).1.size, heap_alloc_new X _, Nat.le_refl _, by unfold maxLen; omega, rfl, rfl⟩⟩ rfl
                · -- 7
                  have h17 : L 17 = false := (by cases h : L 17; rfl; exact absurd (hcl 15 7 (hcl 17 15 h (by kernel_rfl)) (by kernel_rfl)) (by rw [hLi]; decide))
                  have h15 : L 15 = false := (by cases h : L 15; rfl; exact absurd (hcl 15 7 h (by kernel_rfl)) (by rw [hLi]; decide))
                  have hp := hpr 4 (by kernel_rfl)
                  have ho := hpr 6 (by kernel_rfl)
                  have f53 := hev 53 (by decide)
                  have f55 := hev 55 (by decide)
                  obtain ⟨hb, hf⟩ := H.rows h17
                  have er : row1 L u rs (k : Int) = (u 53, rs) := by simp [row1, hLi, hp]
                  have eo : one1 L u (k : Int) = (u 55, [(k : Int)]) := by simp [one1, hLi, ho]
                  rw [er, eo] at hf
                  have hsrc : IsInts X (u 55) [(k : Int)] := ints_of_own hf.oq
                  obtain ⟨v', X', hap, hf2, hgr⟩ := hf.app hsrc (by have := Hm.out.1; have := Hm.out.2.1; have := Hw5.out; simp; omega) hb.size
                  have hb2 := hf.under hb hgr hb.size
                  refine opRun (fun _ => trivial) rfl (fun c e => by cases e) rfl (v := v') (w' := X') (k := 56) rfl ?r7 (hK _ _ _ (by decide) ?k7)
                  case r7 =>
                    exact run_append (.tmp 53) (.tmp 55) 26 26 rfl f53 f55 hap
                  case k7 =>
                    exact H.st7 h15 h17 hb2 hf2.drop
                · -- 8
                  have h17 : L 17 = false := (by cases h : L 17; rfl; exact absurd (hcl 11 8 (hcl 14 11 (hcl 15 14 (hcl 17 15 h (by kernel_rfl)) (by kernel_rfl)) (by kernel_rfl)) (by kernel_rfl)) (by rw [hLi]; decide))
                  have h15 : L 15 = false := (by cases h : L 15; rfl; exact absurd (hcl 11 8 (hcl 14 11 (hcl 15 14 h (by kernel_rfl)) (by kernel_rfl)) (by kernel_rfl)) (by rw [hLi]; decide))
                  have h11 : L 11 = false := (by cases h : L 11; rfl; exact absurd (hcl 11 8 h (by kernel_rfl)) (by rw [hLi]; decide))
                  have h14 : L 14 = false := (by cases h : L 14; rfl; exact absurd (hcl 11 8 (hcl 14 11 h (by kernel_rfl)) (by kernel_rfl)) (by rw [hLi]; decide))
                  refine opRun (fun _ => trivial) rfl (fun c e => by cases e) rfl (v := (.slice (some ⟨X.heap.size, 0, none⟩) 0 0)) (w' := (X.alloc (.cells #[] 3))) (k := 57) rfl ?r8 (hK _ _ _ (by decide) ?k8)
                  case r8 =>
                    clear H hK hpr hcl hev hevn HI IH HA Hm
                    generalize A.eval = ρ
                    first | (go_simp; done) | (simp [execOp, go_sem, *]; done)
                  case k8 =>
                    exact H.st8 h11 h14 hLi h15 h17 ((Below.refl _ _).alloc (Nat.le_refl _) _) ⟨rfl, .inr ⟨X.heap.size, 0, #[], rfl, (H.rows h17).1.size, heap_alloc_new X _, Nat.le_refl _, by unfold maxLen; omega, rfl, rfl⟩⟩ rfl
                · -- 9
                  have e4 : A.eval (.tmp 4) = .pointer (some ⟨B + 1, 0, none⟩) := hevn 4 (by decide)
                  refine opRun (fun _ => trivial) rfl (fun c e => by cases e) rfl (v := .pointer (some ⟨B + 1, 1, none⟩)) (w' := X) (k := 58) rfl ?r9 (hK _ _ _ (by decide) ?k9)
                  case r9 =>
                    clear H hK hpr hcl hev hevn HI IH HA Hm
                    generalize A.eval = ρ at e4 ⊢
                    first | (go_simp; done) | (simp [execOp, go_sem, *]; done)
                  case k9 =>
                    exact H.st9
                · -- 10
                  have h17 : L 17 = false := (by cases h : L 17; rfl; exact absurd (hcl 11 10 (hcl 14 11 (hcl 15 14 (hcl 17 15 h (by kernel_rfl)) (by kernel_rfl)) (by kernel_rfl)) (by kernel_rfl)) (by rw [hLi]; decide))
                  have hb := (H.rows h17).1
                  have f58 : A.eval (.tmp 58) = .pointer (some ⟨B + 1, 1, none⟩) := (hev 58 (by decide)).trans (H.z9 (hpr 9 (by kernel_rfl)))
                  have y0 := Below.cellSome hb H0.2.2.2.2
                  refine opRun (fun _ => trivial) rfl (fun c e => by cases e) rfl (v := (.slice ga hs.length gc)) (w' := X) (k := 59) rfl ?r10 (hK _ _ _ (by decide) ?k10)
                  case r10 =>
                    clear H hK hpr hcl hev hevn HI IH HA Hm
                    generalize A.eval = ρ at f58 ⊢
                    first | (go_simp; done) | (simp [execOp, go_sem, *]; done)
                  case k10 =>
                    exact H.st10
                · -- 11
                  have h17 : L 17 = false := (by cases h : L 17; rfl; exact absurd (hcl 14 11 (hcl 15 14 (hcl 17 15 h (by kernel_rfl)) (by kernel_rfl)) (by kernel_rfl)) (by rw [hLi]; decide))
                  have h15 : L 15 = false := (by cases h : L 15; rfl; exact absurd (hcl 14 11 (hcl 15 14 h (by kernel_rfl)) (by kernel_rfl)) (by rw [hLi]; decide))
                  have h14 : L 14 = false := (by cases h : L 14; rfl; exact absurd (hcl 14 11 h (by kernel_rfl)) (by rw [hLi]; decide))
                  have hp := hpr 8 (by kernel_rfl)
                  have f59 : A.eval (.tmp 59) = (.slice ga hs.length gc) := (hev 59 (by decide)).trans (H.z10 (hpr 10 (by kernel_rfl)))
                  have f57 := hev 57 (by decide)
                  obtain ⟨hb, hf⟩ := H.rows h17
                  have er : row2 L u hs (o.lo + (q : Int)) = (u 57, []) := by simp [row2, hLi, h14, hp]
                  rw [er] at hf
                  have hsr : IsInts X (.slice ga hs.length gc) hs := IsRows.below (IsRows.below HI.out.st.now.hi (Below.drew (Below.refl _ _))) hb
                  obtain ⟨v', X', hap, hf2, hgr⟩ := hf.rot.rot.app hsr (by have := Hm.out.1; have := Hm.out.2.1; have := Hw5.out; simp; omega) hb.size
                  have hb2 := hf.rot.rot.under hb hgr hb.size
                  refine opRun (fun _ => trivial) rfl (fun c e => by cases e) rfl (v := v') (w' := X') (k := 60) rfl ?r11 (hK _ _ _ (by decide) ?k11)
                  case r11 =>
                    exact run_append (.tmp 57) (.tmp 59) 26 26 rfl f57 f59 hap
                  case k11 =>
                    exact H.st11 h14 h15 h17 hb2 (by simpa using hf2.rot.rot)
                · -- 12
                  have e10 : A.eval (.tmp 10) = .int .i64 (o.lo + (q : Int)) := hevn 10 (by decide)
                  refine opRun (fun _ => trivial) rfl (fun c e => by cases e) rfl (v := .int .i64 (o.lo + (q : Int))) (w' := X) (k := 61) rfl ?r12 (hK _ _ _ (by decide) ?k12)
                  case r12 =>
                    clear H hK hpr hcl hev hevn HI IH HA Hm
                    generalize A.eval = ρ at e10 ⊢
                    first | (go_simp; done) | (simp [execOp, go_sem, *]; done)
                  case k12 =>
                    exact H.st12
                · -- 13
                  have h17 : L 17 = false := (by cases h : L 17; rfl; exact absurd (hcl 14 13 (hcl 15 14 (hcl 17 15 h (by kernel_rfl)) (by kernel_rfl)) (by kernel_rfl)) (by rw [hLi]; decide))
                  have h15 : L 15 = false := (by cases h : L 15; rfl; exact absurd (hcl 14 13 (hcl 15 14 h (by kernel_rfl)) (by kernel_rfl)) (by rw [hLi]; decide))
                  have h14 : L 14 = false := (by cases h : L 14; rfl; exact absurd (hcl 14 13 h (by kernel_rfl)) (by rw [hLi]; decide))
                  have f61 : A.eval (.tmp 61) = .int .i64 (o.lo + (q : Int)) := (hev 61 (by decide)).trans (H.z12 (hpr 12 (by kernel_rfl)))
                  refine opRun (fun _ => trivial) rfl (fun c e => by cases e) rfl (v := (.slice (some ⟨X.heap.size, 0, none⟩) 1 1)) (w' := (X.alloc (.cells #[.int .i64 (o.lo + (q : Int))] 3))) (k := 62) rfl ?r13 (hK _ _ _ (by decide) ?k13)
                  case r13 =>
                    clear H hK hpr hcl hev hevn HI IH HA Hm
                    generalize A.eval = ρ at f61 ⊢
                    first | (go_simp; done) | (simp [execOp, go_sem, *]; done)
                  case k13 =>
                    exact H.st13 h14 hLi h15 h17 ((Below.refl _ _).alloc (Nat.le_refl _) _) ⟨rfl, .inr ⟨X.heap.size, 1, #[.int .i64 (o.lo + (q : Int))], rfl, (H.rows h17).1.size, heap_alloc_new X _, Nat.le_refl _, by unfold maxLen; omega, rfl, rfl⟩⟩ rfl
                · -- 14
                  have h17 : L 17 = false := (by cases h : L 17; rfl; exact absurd (hcl 15 14 (hcl 17 15 h (by kernel_rfl)) (by kernel_rfl)) (by rw [hLi]; decide))
                  have h15 : L 15 = false := (by cases h : L 15; rfl; exact absurd (hcl 15 14 h (by kernel_rfl)) (by rw [hLi]; decide))
                  have hp := hpr 11 (by kernel_rfl)
                  have ho := hpr 13 (by kernel_rfl)
                  have f60 := hev 60 (by decide)
                  have f62 := hev 62 (by decide)
                  obtain ⟨hb, hf⟩ := H.rows h17
                  have er : row2 L u hs (o.lo + (q : Int)) = (u 60, hs) := by simp [row2, hLi, hp]
                  have eo : one2 L u (o.lo + (q : Int)) = (u 62, [(o.lo + (q : Int))]) := by simp [one2, hLi, ho]
                  rw [er, eo] at hf
                  have hsrc : IsInts X (u 62) [(o.lo + (q : Int))] := ints_of_own hf.os
                  obtain ⟨v', X', hap, hf2, hgr⟩ := hf.rot.rot.app hsrc (by have := Hm.out.1; have := Hm.out.2.1; have := Hw5.out; simp; omega) hb.size
                  have hb2 := hf.rot.rot.under hb hgr hb.size
                  refine opRun (fun _ => trivial) rfl (fun c e => by cases e) rfl (v := v') (w' := X') (k := 63) rfl ?r14 (hK _ _ _ (by decide) ?k14)
                  case r14 =>
                    exact run_append (.tmp 60) (.tmp 62) 26 26 rfl f60 f62 hap
                  case k14 =>
                    exact H.st14 h15 h17 hb2 hf2.drop.rot.rot
                · -- 15
                  have h17 : L 17 = false := (by cases h : L 17; rfl; exact absurd (hcl 17 15 h (by kernel_rfl)) (by rw [hLi]; decide))
                  obtain ⟨hb, hf⟩ := H.rows h17
                  have p14 := hpr 14 (by kernel_rfl)
                  have p7 := hpr 7 (by kernel_rfl)
                  have er1 : row1 L u rs (k : Int) = (u 56, rs ++ [(k : Int)]) := by simp [row1, p7]
                  have er2 : row2 L u hs (o.lo + (q : Int)) = (u 63, hs ++ [o.lo + (q : Int)]) := by simp [row2, p14]
                  rw [er1, er2] at hf
                  obtain ⟨x1, x2, hx⟩ := own_slice hf.op
                  obtain ⟨x3, x4, hx3⟩ := own_slice hf.or
                  dsimp only at hx hx3
                  have f56 : A.eval (.tmp 56) = _ := (hev 56 (by decide)).trans hx
                  have f63 : A.eval (.tmp 63) = _ := (hev 63 (by decide)).trans hx3
                  refine opRun (fun _ => trivial) rfl (fun c e => by cases e) rfl (v := .agg #[u 56, u 63]) (w' := X) (k := 64) rfl ?r15 (hK _ _ _ (by decide) ?k15)
                  case r15 =>
                    rw [hx, hx3]
                    clear hf er1 er2 hx hx3 hb
                    clear H hK hpr hcl hev hevn HI IH HA Hm
                    generalize A.eval = ρ at f56 f63 ⊢
                    first | (go_simp; done) | (simp [execOp, go_sem, *]; done)
                  case k15 =>
                    exact H.st15
                · -- 16
                  have h18 : L 18 = false := (by cases h : L 18; rfl; exact absurd (hcl 17 16 (hcl 18 17 h (by kernel_rfl)) (by kernel_rfl)) (by rw [hLi]; decide))
                  have f2 : A.eval (.tmp 2) = u2 := (hev 2 (by decide)).trans (H.s2 h18)
                  refine opRun (fun _ => trivial) rfl (fun c e => by cases e) rfl (v := u2) (w' := X) (k := 65) rfl ?r16 (hK _ _ _ (by decide) ?k16)
                  case r16 =>
                    clear H hK hpr hcl hev hevn HI IH HA Hm
                    generalize A.eval = ρ at f2 ⊢
                    first | (go_simp; done) | (simp [execOp, go_sem, *]; done)
                  case k16 =>
                    exact H.st16
                · -- 17
                  have h18 : L 18 = false := (by cases h : L 18; rfl; exact absurd (hcl 18 17 h (by kernel_rfl)) (by rw [hLi]; decide))
                  obtain ⟨hb, hf⟩ := H.rows hLi
                  have p15 := hpr 15 (by kernel_rfl)
                  have p14 := hpr 14 (by kernel_rfl)
                  have p7 := hcl 15 7 p15 (by kernel_rfl)
                  have er1 : row1 L u rs (k : Int) = (u 56, rs ++ [(k : Int)]) := by simp [row1, p7]
                  have er2 : row2 L u hs (o.lo + (q : Int)) = (u 63, hs ++ [o.lo + (q : Int)]) := by simp [row2, p14]
                  rw [er1, er2] at hf
                  have f49 : A.eval (.tmp 49) = (.agg #[.slice ra f.rules.length rc, .int .i64 (nr : Int), .slice (some ⟨rb, ro, none⟩) f.list.length lc]) := (hev 49 (by decide)).trans (H.z0 (hpr 0 (by kernel_rfl)))
                  have f64 : A.eval (.tmp 64) = .agg #[u 56, u 63] := (hev 64 (by decide)).trans (H.z15 p15)
                  have f65 : A.eval (.tmp 65) = u2 := (hev 65 (by decide)).trans (H.z16 (hpr 16 (by kernel_rfl)))
                  have hy : TruI w b0 base (TruR B f nr ra (some ⟨rb, ro, none⟩) rc lc o S (.slice ha rs.length hc) (.slice ga hs.length gc) rs hs) X u2 (ts ++ whosT nr tl o rs hs k ++ hoursT nr tl o rs hs k q) := (HI.out.below (Below.drew (Below.refl _ _))).below hb
                  have htr : TrV u2.ownBlock X (u 56, u 63) (rs ++ [(k : Int)], hs ++ [o.lo + (q : Int)]) := trV_of_four hf (fun y hy => (HI.out.out.lt y hy).2)
                  have ed : f.list.drop (rs ++ [(k : Int)]).length = tl := by rw [List.length_append]; exact Hm.out.2.2.2.2.2.1
                  have hcall := IH.out (rs ++ [(k : Int)]) (hs ++ [o.lo + (q : Int)]) (by have := Hm.out.1; simp; omega) (by have := Hm.out.2.1; simp; omega) (.agg #[.slice ra f.rules.length rc, .int .i64 (nr : Int), .slice (some ⟨rb, ro, none⟩) f.list.length lc]) (u 56) (u 63) u2 (ts ++ whosT nr tl o rs hs k ++ hoursT nr tl o rs hs k q) base X (hy.st.imp fun _ h => h.fn) htr hy.out hy.sl ?hlen
                  case hlen =>
                    rw [ed]
                    have hn := Hm.out.2.2.1
                    have l1 : (whosT nr tl o rs hs k).length + (whoT nr tl o rs hs k).length ≤ (whosT nr tl o rs hs nr).length := flatMap_len _ hlt
                    have l2 : (hoursT nr tl o rs hs k q).length + (hourT nr tl o rs hs k q).length ≤ (hoursT nr tl o rs hs k cnt).length := flatMap_len _ hql
                    have e : whoT nr tl o rs hs k = hoursT nr tl o rs hs k cnt := by unfold whoT; rw [Hm.out.2.2.2.1, Htb.out, Hm.out.2.2.2.2.1]; rfl
                    rw [e] at l1
                    have e2 : (goT nr tl (rs ++ [(k : Int)]) (hs ++ [o.lo + (q : Int)])).length = (hourT nr tl o rs hs k q).length := rfl
                    rw [List.length_append, List.length_append, e2]
                    omega
                  rw [ed] at hcall
                  refine opCall (fun _ => trivial) (fun _ => by decide) rfl (fun c e => by cases e) rfl (f := 68) (args := #[(.agg #[.slice ra f.rules.length rc, .int .i64 (nr : Int), .slice (some ⟨rb, ro, none⟩) f.list.length lc]), .agg #[u 56, u 63], u2]) (w' := X) (k := 66) rfl ?r17 (callsIn_wide.2 hcall) ?k17
                  case r17 =>
                    clear htr hcall hy hf
                    clear H hK hpr hcl hev hevn HI IH HA Hm
                    have ff : A.eval (.func 68) = .func (.func 68) #[] #[] := rfl
                    generalize A.eval = ρ at f49 f64 f65 ff ⊢
                    first | (go_simp; done) | (simp [execOp, go_sem, *]; done)
                  case k17 =>
                    rintro e W' ⟨v', rfl, hO, hG, hN⟩
                    refine ⟨v', rfl, hK _ _ _ (by decide) (H.st17 h18 ?_)⟩
                    show TruI w b0 base _ W' v' _
                    rw [hoursT_succ, ← List.append_assoc]
                    exact hy.call hO hG hN
                · -- 18
                  have f66 := hev 66 (by decide)
                  refine opRun (fun _ => trivial) rfl (fun c e => by cases e) rfl (v := u 66) (w' := X) (k := 2) rfl ?r18 (hK _ _ _ (by decide) ?k18)
                  case r18 =>
                    clear H hK hpr hcl hev hevn HI IH HA Hm
                    generalize A.eval = ρ at f66 ⊢
                    first | (go_simp; done) | (simp [execOp, go_sem, *]; done)
                  case k18 =>
                    exact H.st18
              case fin =>
                intro L u X H hall
                have h17 := H.call (hall 17 (by decide))
                have h2 := H.s3 (hall 18 (by decide))
                rw [← h2] at h17
                have HI := Lib.hid h17
                simp only [setU, List.foldl_cons, List.foldl_nil, List.setIfInBounds_toArray, List.set_cons_zero, List.set_cons_succ]
                clear H hall h17 h2 H0
                gi_wp2
                go_wp2
                go_roundw
                case rel => exact ⟨q + 1, by omega, by go_num, HI.out⟩
                case measure => simp [intOf]; omega
            · have hlo : decide (o.lo + (q : Int) ≤ o.hi) = false := by have := Hcz.out; simp; omega
              clear hI
              go_wp2_with fail
              go_roundw
              case rel =>
                refine ⟨k + 1, by omega, by go_num, ?_⟩
                have e : whoT nr tl o rs hs k = hoursT nr tl o rs hs k q := by unfold whoT; rw [Hm.out.2.2.2.1, Htb.out, Hm.out.2.2.2.2.1, show q = cnt by omega]; rfl
                rw [whosT_succ, e, ← List.append_assoc]; exact HI.out
              case measure => simp [intOf]; omega
      · have hke : k = nr := by omega
        subst hke
        go_wp2_with fail
        go_ret
        exact ⟨_, rfl, HI.out.out, HI.out.g, HI.out.nw⟩
end Go.Proofs.Ytjmobepipfbbnaa

set_option linter.unusedSimpArgs false
set_option linter.unusedVariables false
namespace Go.Proofs.Ytjmobepipfbbnaa
open Go.RowKit Go.Shelf
attribute [local go_sem] Oper.semAt_some
theorem goT_bound {f : Fns} (hg : goodFns f = true) : (goT f.riders.toNat f.list [] []).length ≤ 1889568 := by
  obtain ⟨_, h6, h5, _⟩ := sound_of hg
  refine Nat.le_trans (goT_len h6 f.list [] [] fun o ho => ?_) (pow18 h5)
  obtain ⟨k, hk, rfl⟩ := List.mem_iff_getElem.1 ho
  have hgo := good_off hg hk
  unfold goodOff at hgo
  simp only [Bool.and_eq_true, decide_eq_true_eq] at hgo
  omega
theorem ints_nil (w : World) : IsInts w (.slice none 0 0) [] := ⟨none, 0, rfl, by simp, by omega, fun h => by simp at h⟩
set_option maxHeartbeats 1000000 in
/-- Truths. -/
theorem alltruths_any (f : Fns) (hg : goodFns f = true) (fv : Value) (w : World) (hf : IsFns w fv f) :
    Calls Try.prog 34 #[fv] w fun e w' => ∃ v, e = .returned v ∧ OutAt w' w.heap.size v (goT f.riders.toNat f.list [] []) ∧ Below w.heap.size w w' := by
  have hr := good_riders hg
  have hlen := goT_bound hg
  obtain ⟨nr, hnr⟩ : ∃ nr : Nat, f.riders = nr := ⟨f.riders.toNat, by omega⟩
  obtain ⟨vr, vl, rfl, hr0, ho0⟩ := hf
  obtain ⟨ra, rc, rfl, z1, z2⟩ := IsRows.slice hr0
  obtain ⟨la, lc, rfl, z3, z4⟩ := IsRows.slice ho0
  have hb1 : Below w.heap.size w (w.alloc (.cells #[.slice ra f.rules.length rc, .int .i64 f.riders, .slice la f.list.length lc] 25)) := (Below.refl _ _).alloc (Nat.le_refl _) _
  have hf1 : ∀ X, (w.alloc (.cells #[.slice ra f.rules.length rc, .int .i64 f.riders, .slice la f.list.length lc] 25)).grownBy X (Value.slice none 0 0).ownBlock → IsFns X (.agg #[.slice ra f.rules.length rc, .int .i64 f.riders, .slice la f.list.length lc]) f := fun X hX => by
    have hb2 : Below w.heap.size w X := hb1.grown hX hb1.size (fun k hk => by cases hk)
    exact ⟨_, _, rfl, IsRows.below hr0 hb2, IsRows.below ho0 hb2⟩
  have key := truths_any f hg f.riders.toNat (by omega) (by omega) f.list.length [] [] (by simp) rfl _ (.slice none 0 0) (.slice none 0 0) (.slice none 0 0) [] w.heap.size _ hf1 (fun X _ => ⟨ints_nil X, ints_nil X⟩) (OutAt.nil _ _) (by simp) (by simp; omega)
  have Key := Lib.hid key
  have Hb1 := Lib.hid hb1
  clear key hf1 hr0 ho0 hb1 hlen hr hnr
  have c0 : (w.alloc (.cells #[.slice ra f.rules.length rc, .int .i64 f.riders, .slice la f.list.length lc] 25)).cell? ⟨w.heap.size, 0, none⟩ = some (.slice ra f.rules.length rc) := cellN rfl rfl
  have c1 : (w.alloc (.cells #[.slice ra f.rules.length rc, .int .i64 f.riders, .slice la f.list.length lc] 25)).cell? ⟨w.heap.size, 1, none⟩ = some (.int .i64 f.riders) := cellN rfl rfl
  have c2 : (w.alloc (.cells #[.slice ra f.rules.length rc, .int .i64 f.riders, .slice la f.list.length lc] 25)).cell? ⟨w.heap.size, 2, none⟩ = some (.slice la f.list.length lc) := cellN rfl rfl
  go_enter Try.func34, Try.ntmps34
  go_wp2_with (go_at_call 68; with_reducible refine Key.out.mono ?_; rintro e w1 ⟨v, rfl, hO, hG, hN⟩)
  go_ret
  refine ⟨_, rfl, by simpa using hO, Hb1.out.grown hG Hb1.out.size (fun k hk => by cases hk)⟩
/-! What FineEnds asks. -/
theorem truth_parts {nr : Nat} : ∀ (offs : List Off) (i : Nat) (t : List Kn), IsTruth nr (i : Int) offs t → t.length = offs.length ∧ ∀ k, k < offs.length → (t.getD k ⟨0, 0, 0, 0⟩).number = ((i + k : Nat) : Int) ∧ (t.getD k ⟨0, 0, 0, 0⟩).kind = (offs.getD k ⟨0, 0, 0, 0⟩).kind ∧
    (∃ who : Nat, (t.getD k ⟨0, 0, 0, 0⟩).rider = (who : Int) ∧ who < nr ∧ (offs.getD k ⟨0, 0, 0, 0⟩).riders.toNat.testBit who = true) ∧ (offs.getD k ⟨0, 0, 0, 0⟩).lo ≤ (t.getD k ⟨0, 0, 0, 0⟩).hour ∧ (t.getD k ⟨0, 0, 0, 0⟩).hour ≤ (offs.getD k ⟨0, 0, 0, 0⟩).hi
  | [], i, [], _ => ⟨rfl, fun k hk => by simp at hk⟩
  | [], i, _ :: _, h => h.elim
  | _ :: _, i, [], h => h.elim
  | o :: t, i, x :: l, h => by
    obtain ⟨h0, h1⟩ := h
    have e : ((i : Int) + 1) = ((i + 1 : Nat) : Int) := by push_cast; rfl
    rw [e] at h1
    obtain ⟨g1, g2⟩ := truth_parts t (i + 1) l h1
    refine ⟨by simp [g1], fun k hk => ?_⟩
    cases k with
    | zero => simpa using h0
    | succ j =>
      have := g2 j (by simpa using hk)
      rw [show i + 1 + j = i + (j + 1) by omega] at this
      simpa using this
def prT (t : List Kn) : List Int × List Int := (t.map Kn.rider, t.map Kn.hour)
theorem getD_rider (t : List Kn) (k : Nat) (hk : k < t.length) : (t.map Kn.rider).getD k 0 = (t.getD k ⟨0, 0, 0, 0⟩).rider := by simp [List.getD, hk]
theorem getD_hour (t : List Kn) (k : Nat) (hk : k < t.length) : (t.map Kn.hour).getD k 0 = (t.getD k ⟨0, 0, 0, 0⟩).hour := by simp [List.getD, hk]
section
variable {f : Fns} (hg : goodFns f = true)
include hg
theorem mem_goT {p : List Int × List Int} : p ∈ goT f.riders.toNat f.list [] [] ↔ ∃ t, Truth f t ∧ p = prT t := by
  obtain ⟨_, h6, _⟩ := sound_of hg
  rw [goT_truths h6 f.list 0 [] [], List.mem_map]
  constructor
  · rintro ⟨t, ht, rfl⟩
    exact ⟨t, (mem_truthL h6 _ _ _).1 ht, by simp [prT]⟩
  · rintro ⟨t, ht, rfl⟩
    exact ⟨t, (mem_truthL h6 _ _ _).2 ht, by simp [prT]⟩
omit hg in
theorem truth_knTo {t : List Kn} (ht : Truth f t) : knTo f (t.map Kn.rider) (t.map Kn.hour) f.list.length = t := by
  obtain ⟨h1, h2⟩ := truth_parts f.list 0 t ht
  refine List.ext_getElem (by rw [knTo_len, h1]) fun k hk hk2 => ?_
  rw [knTo_get]
  have hkl : k < f.list.length := by omega
  obtain ⟨g1, g2, _⟩ := h2 k hkl
  rw [getD_rider t k hk2, getD_hour t k hk2]
  have e : t.getD k ⟨0, 0, 0, 0⟩ = t[k] := by simp [List.getD, hk2]
  rw [e] at g1 g2 ⊢
  rw [← g2]
  have : t[k].number = (k : Int) := by simpa using g1
  rw [← this]
omit hg in
theorem truth_true {t : List Kn} (ht : Truth f t) : TrueTo f f.riders.toNat (t.map Kn.rider) (t.map Kn.hour) ∧ (t.map Kn.rider).length = f.list.length := by
  obtain ⟨h1, h2⟩ := truth_parts f.list 0 t ht
  refine ⟨⟨by simp, by simp [h1], fun k hk => ?_⟩, by simp [h1]⟩
  have hk2 : k < t.length := by simpa using hk
  obtain ⟨g1, g2, g3, g4, g5⟩ := h2 k (by omega)
  rw [getD_rider t k hk2, getD_hour t k hk2]
  exact ⟨g3, g4, g5⟩
theorem ends_true {p : List Int × List Int} (h : p ∈ goT f.riders.toNat f.list [] []) : TrueTo f f.riders.toNat p.1 p.2 ∧ p.1.length = f.list.length := by
  obtain ⟨t, ht, rfl⟩ := (mem_goT hg).1 h
  exact truth_true ht
/-- What a truth comes to: the cost of an offence, a rider's fine, what the rider pays, the sum. -/
def vE (f : Fns) (o r : Nat) (j : Nat) (p : List Int × List Int) : Int :=
  if j < 2 then ((exactR f p.1 p.2).1).getD o 0 else if j < 4 then finT p.1 (exactR f p.1 p.2).1 r f.list.length else if j < 6 then paiT p.1 (exactR f p.1 p.2).1 r f.list.length else allT (exactR f p.1 p.2).1 f.list.length
def spE (f : Fns) (o r : Nat) (j : Nat) : Int × Int :=
  if j < 2 then costS f o else if j < 4 then sumR f (2 ^ r) (cFined r) else if j < 6 then sumR f (2 ^ r ||| 2 ^ (partner r).toNat) (cPaid r (partner r)) else sumR f (2 ^ f.riders.toNat - 1) cEach
/-- The ends that are asked for. -/
def endE (f : Fns) (o r : Nat) (j : Nat) : Int := if j % 2 = 0 then (spE f o r j).1 else (spE f o r j).2
theorem ends_at {o r : Nat} (ho : o < f.list.length) (hr : (r : Int) < f.riders) (j : Nat) (hj : j < 8) : ∃ p, p ∈ goT f.riders.toNat f.list [] [] ∧ vE f o r j p = endE f o r j := by
  obtain ⟨hs', h6, _⟩ := sound_of hg
  have hgr := good_riders hg
  have hr6 : r < 6 := by omega
  have pr : ∀ {t}, Truth f t → prT t ∈ goT f.riders.toNat f.list [] [] := fun ht => (mem_goT hg).2 ⟨_, ht, rfl⟩
  have key : (∃ t, Truth f t ∧ vE f o r j (prT t) = (spE f o r j).1) ∧ (∃ t, Truth f t ∧ vE f o r j (prT t) = (spE f o r j).2) := by
    by_cases h1 : j < 2
    · obtain ⟨⟨t1, a1, a2⟩, ⟨t2, a3, a4⟩, _⟩ := cost_ends hs' h6 ho
      have e : ∀ t, Truth f t → vE f o r j (prT t) = costT f t o := fun t ht => by
        have h := true_cost hg (truth_true ht).1 (truth_true ht).2 o ho
        rw [truth_knTo ht] at h
        unfold vE prT; rw [if_pos h1]; exact h
      unfold spE
      rw [if_pos h1]
      exact ⟨⟨t1, a1, (e t1 a1).trans a2.symm⟩, ⟨t2, a3, (e t2 a3).trans a4.symm⟩⟩
    · by_cases h2 : j < 4
      · have hlt : 2 ^ r < 64 := Nat.lt_of_lt_of_le (Nat.pow_lt_pow_right (by omega) hr6) (by decide)
        obtain ⟨⟨t1, a1, a2⟩, ⟨t2, a3, a4⟩, _⟩ := sum_ends hs' hlt (loc_fined f.riders.toNat r)
        have e : ∀ t, Truth f t → vE f o r j (prT t) = totT f (cFined r) t := fun t ht => by
          have h := fin_tot hg (truth_true ht).1 (truth_true ht).2 r
          rw [truth_knTo ht] at h
          unfold vE prT; rw [if_neg h1, if_pos h2]; exact h
        unfold spE
        rw [if_neg h1, if_pos h2]
        exact ⟨⟨t1, a1, (e t1 a1).trans a2.symm⟩, ⟨t2, a3, (e t2 a3).trans a4.symm⟩⟩
      · by_cases h3 : j < 6
        · obtain ⟨p, hp⟩ : ∃ p : Nat, partner (r : Int) = p := ⟨(partner (r : Int)).toNat, by unfold partner; split <;> omega⟩
          have hp6 : p < 6 := by have h9 := hp; unfold partner at h9; split at h9 <;> omega
          have hlt : 2 ^ r ||| 2 ^ p < 2 ^ 6 := Nat.or_lt_two_pow (Nat.pow_lt_pow_right (by omega) hr6) (Nat.pow_lt_pow_right (by omega) hp6)
          obtain ⟨⟨t1, a1, a2⟩, ⟨t2, a3, a4⟩, _⟩ := sum_ends hs' (hlt : 2 ^ r ||| 2 ^ p < 64) (loc_paid f.riders.toNat r p)
          have e : ∀ t, Truth f t → vE f o r j (prT t) = totT f (cPaid r p) t := fun t ht => by
            have h := pai_tot hg (truth_true ht).1 (truth_true ht).2 r
            rw [truth_knTo ht, hp] at h
            unfold vE prT; rw [if_neg h1, if_neg h2, if_pos h3]; exact h
          unfold spE
          rw [if_neg h1, if_neg h2, if_pos h3, hp]
          exact ⟨⟨t1, a1, (e t1 a1).trans a2.symm⟩, ⟨t2, a3, (e t2 a3).trans a4.symm⟩⟩
        · have hlt : 2 ^ f.riders.toNat - 1 < 64 := by
            have := Nat.pow_le_pow_right (show 0 < 2 by omega) h6
            omega
          obtain ⟨⟨t1, a1, a2⟩, ⟨t2, a3, a4⟩, _⟩ := sum_ends hs' hlt (loc_each f.riders.toNat)
          have e : ∀ t, Truth f t → vE f o r j (prT t) = totT f cEach t := fun t ht => by
            have h := all_tot hg (truth_true ht).1 (truth_true ht).2
            rw [truth_knTo ht] at h
            unfold vE prT; rw [if_neg h1, if_neg h2, if_neg h3]; exact h
          unfold spE
          rw [if_neg h1, if_neg h2, if_neg h3]
          exact ⟨⟨t1, a1, (e t1 a1).trans a2.symm⟩, ⟨t2, a3, (e t2 a3).trans a4.symm⟩⟩
  unfold endE
  split
  · obtain ⟨t, ht, e⟩ := key.1; exact ⟨_, pr ht, e⟩
  · obtain ⟨t, ht, e⟩ := key.2; exact ⟨_, pr ht, e⟩
omit hg in
/-- Which ends were found among the first truths. -/
def fndE (f : Fns) (o r : Nat) (k j : Nat) : Bool := ((goT f.riders.toNat f.list [] []).take k).any fun p => vE f o r j p == endE f o r j
omit hg in
theorem fndE_step {o r k : Nat} (hk : k < (goT f.riders.toNat f.list [] []).length) (j : Nat) : fndE f o r (k + 1) j = (fndE f o r k j || (vE f o r j ((goT f.riders.toNat f.list [] [])[k]) == endE f o r j)) := by
  unfold fndE
  rw [List.take_succ_eq_append_getElem hk, List.any_append]; simp
theorem fndE_all {o r : Nat} (ho : o < f.list.length) (hr : (r : Int) < f.riders) (j : Nat) (hj : j < 8) : fndE f o r (goT f.riders.toNat f.list [] []).length j = true := by
  obtain ⟨p, hp, e⟩ := ends_at hg ho hr j hj
  unfold fndE
  rw [List.take_length, List.any_eq_true]
  exact ⟨p, hp, by simp [e]⟩
end
end Go.Proofs.Ytjmobepipfbbnaa
