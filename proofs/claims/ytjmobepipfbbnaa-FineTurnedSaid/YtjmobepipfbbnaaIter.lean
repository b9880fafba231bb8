import Derived.Test.YtjmobepipfbbnaaIterA
import Derived.Test.YtjmobepipfbbnaaHeldC
import Derived.Deep.Cut
import Derived.Deep.CutRange
/- choices of package fine: the recursion. -/
set_option linter.unusedSimpArgs false
set_option linter.unusedVariables false
namespace Go.Proofs.Ytjmobepipfbbnaa
open Go.RowKit Go.Shelf
attribute [local go_sem] Oper.semAt_some
theorem bit_u64 (S k : Nat) (hS : U64 S) : (bits BinOp.and IntKind.u64 ((S : Int) / 2 ^ k) 1 == 0) = !S.testBit k := by
  have h1 : ((S : Int) / 2 ^ k) = ((S / 2 ^ k : Nat) : Int) := by push_cast; rfl
  have h3 := bits_and_u64 (a := S / 2 ^ k) (b := 1) (hS.div _) (by unfold U64; omega)
  have h4 : bits BinOp.and IntKind.u64 (((S / 2 ^ k : Nat)) : Int) 1 = ((S / 2 ^ k &&& 1 : Nat) : Int) := h3
  rw [h1, h4, Nat.and_one_is_mod, Nat.testBit_eq_decide_div_mod_eq]
  have h5 : S / 2 ^ k % 2 = 0 ∨ S / 2 ^ k % 2 = 1 := by omega
  rcases h5 with h | h <;> simp [h]
theorem hours_take (i : Int) (o : Off) (who h : Nat) (hh : (h : Int) < o.hi - o.lo + 1) : (hoursK i o who).take (h + 1) = (hoursK i o who).take h ++ [⟨i, o.kind, (who : Int), o.lo + (h : Int)⟩] := by
  have hl : h < (hoursK i o who).length := by simp [hoursK]; omega
  rw [List.take_succ_eq_append_getElem hl]
  simp [hoursK]
theorem hours_all (i : Int) (o : Off) (who h : Nat) (hh : o.hi - o.lo + 1 ≤ (h : Int)) : (hoursK i o who).take h = hoursK i o who := by
  rw [List.take_of_length_le]; simp [hoursK]; omega
/-- An offence within limits. -/
theorem off_ok {f : Fns} (h : goodFns f = true) {k : Nat} (hk : k < f.list.length) : (0 ≤ f.list[k].kind ∧ f.list[k].kind < f.rules.length) ∧ 1 ≤ f.list[k].riders ∧ 0 ≤ f.list[k].lo ∧ f.list[k].hi ≤ 144 ∧ f.list[k].hi - f.list[k].lo ≤ 2 := by
  unfold goodFns at h
  simp only [Bool.and_eq_true, List.all_eq_true] at h
  have := h.2 _ (List.getElem_mem hk)
  simp only [goodOff, inB, Bool.and_eq_true, decide_eq_true_eq] at this
  exact ⟨⟨this.1.1.1, by omega⟩, this.1.2.1, this.2.1.1.1, this.2.1.2, this.2.2⟩
/-- What is handed on can be read, and is a choice. -/
def VK (f : Fns) (x : Value × List Kn) (W : World) : Prop := IsKns W x.1 x.2 ∧ AccOk f f.list.length x.2
/-- What the recursion leaves. -/
def onPost (lo hi : Nat) (J : List (Value × List Kn) → World → Prop) (pre : List (Value × List Kn)) (acc : List Kn) (C : List (List Kn)) (W : World) (e : Ending) (W' : World) : Prop :=
  e = .returned (.bool true) ∧ ∃ xs : List (Value × List Kn), xs.map (·.2) = C.map (acc ++ ·) ∧ J (pre ++ xs) W' ∧ KpI lo hi W W'
/-- Who keeps J from one to the next. -/
def Keeps (f : Fns) (l b0 lo hi : Nat) (J : List (Value × List Kn) → World → Prop) : Prop := AbidesFrom b0 J ∧ ∀ pre x W1, J pre W1 → VK f x W1 → ∀ m, YieldAt Fence.wide m Try.prog l #[x.1] W1 fun e W' => e = .returned (.bool true) ∧ J (pre ++ [x]) W' ∧ KpI lo hi W1 W'
theorem yield_wide {m m' : Nat} {P : Program} {l : Nat} {args : Array Value} {W : World} {R : Ending → World → Prop} (h : YieldAt Fence.wide m P l args W R) : YieldAt Fence.wide m' P l args W R := by
  obtain ⟨fn, tmps, assign, body, hy, hr⟩ := h
  exact ⟨fn, tmps, assign, body, hy, hr.1, fun c cs _ => hr.2 c cs (room_wide _)⟩
theorem Keeps.grown {f : Fns} {l b0 lo hi : Nat} {J : List (Value × List Kn) → World → Prop} (h : Keeps f l b0 lo hi J) {pre : List (Value × List Kn)} {W W' : World} (hj : J pre W) (hb : Below W.heap.size W W') : J pre W' :=
  h.1 _ _ _ none hj (grown_of_below hb none) (fun r e => by cases e)
set_option maxRecDepth 100000 in
set_option maxHeartbeats 2000000 in
theorem on_end (f : Fns) (lo hi Fb Yb Kb Ob Rb B l b0 : Nat) (κ : Int) (R : Nat) (ra la : Option Addr) (rc lc : Nat) (J : List (Value × List Kn) → World → Prop) (hK : Keeps f l b0 lo hi J)
    (lv : Value) (acc : List Kn) (pre : List (Value × List Kn)) (W : World) (hj : J pre W) (hE : EnvOn W lo hi Fb Yb Kb Ob Rb B l κ R f ra la rc lc) (hA : AccAt W hi lv acc) (hO : AccOk f f.list.length acc) (nr : Nat) :
    Calls Try.prog 80 #[.int .i64 (f.list.length : Int), lv, .pointer (some ⟨Fb, 0, none⟩), .pointer (some ⟨Yb, 0, none⟩), .pointer (some ⟨Kb, 0, none⟩), .pointer (some ⟨Ob, 0, none⟩), .pointer (some ⟨Rb, 0, none⟩)] W (onPost lo hi J pre acc [[]] W) := by
  have HY := Lib.hid (hK.2 pre (lv, acc) W hj ⟨hA.kns, hO⟩ 2)
  have ef := hE.cf
  have ey := hE.cy
  have e2 := hE.ff.c2
  clear hE hK
  refine (callsIn_wide (n := 3)).1 ?_
  refine callsIn_of_wp Try.func80 rfl trivial ?_ rfl
  simp only [Try.ntmps80, List.size_toArray, List.length_cons, List.length_nil, Nat.reduceAdd, Nat.reduceSub, Array.replicate_succ, Array.replicate_zero, List.push_toArray, List.append_toArray, List.nil_append, List.cons_append]
  obtain ⟨fn, tmps, assign, body, hy, hRd⟩ := HY.out
  gi_wp2
  apply scopeIn
  gi_wp2
  refine hRd.mono ?_
  rintro e W3 ⟨rfl, hj3, hk3⟩
  gi_wp2
  simp only [Exit.noGoto]
  refine bodyPost_ret (results_tmp rfl _ _ _) rfl ⟨rfl, [(lv, acc)], by simp, hj3, hk3⟩
theorem drop_at {α : Type} {l : List α} {i : Nat} (h : i < l.length) : l.drop i = l[i] :: l.drop (i + 1) := List.drop_eq_getElem_cons h
set_option maxRecDepth 100000 in
set_option maxHeartbeats 4000000 in
theorem on_any (f : Fns) (hg : goodFns f = true) (nr : Nat) (hnr : f.riders = nr) (lo hi Fb Yb Kb Ob Rb B l b0 : Nat) (κ : Int) (R : Nat) (hR : R < 64) (ra la : Option Addr) (rc lc : Nat) (J : List (Value × List Kn) → World → Prop) (hK : Keeps f l b0 lo hi J) :
    ∀ (d i : Nat) (lv : Value) (acc : List Kn) (pre : List (Value × List Kn)) (W : World), i + d = f.list.length → J pre W → EnvOn W lo hi Fb Yb Kb Ob Rb B l κ R f ra la rc lc → AccAt W hi lv acc → AccOk f i acc →
    Calls Try.prog 80 #[.int .i64 (i : Int), lv, .pointer (some ⟨Fb, 0, none⟩), .pointer (some ⟨Yb, 0, none⟩), .pointer (some ⟨Kb, 0, none⟩), .pointer (some ⟨Ob, 0, none⟩), .pointer (some ⟨Rb, 0, none⟩)] W (onPost lo hi J pre acc (choL nr κ R i (f.list.drop i)) W) := by
  intro d
  induction d with
  | zero =>
    intro i lv acc pre W hix hj hE hA hO
    have e : i = f.list.length := by omega
    subst e
    rw [List.drop_length]
    exact on_end f lo hi Fb Yb Kb Ob Rb B l b0 κ R ra la rc lc J hK lv acc pre W hj hE hA hO nr
  | succ d ih =>
    intro i lv acc pre W hix hj hE hA hO
    have H := Lib.hid ih
    clear ih
    have hlt : i < f.list.length := by omega
    rw [drop_at hlt]
    obtain ⟨hS, hn6, hl5, hr4, hr2, hr6, _⟩ := sound_of hg
    obtain ⟨⟨hs1, hs2, hs3⟩, hs4⟩ := hS _ (List.getElem_mem hlt)
    have hgo := off_ok hg hlt
    obtain ⟨ob, oo, hla, p0, p1, p2, p3⟩ := IsOffs.get hE.ff.hl hlt
    subst hla
    obtain ⟨o, ho⟩ : ∃ o, f.list[i] = o := ⟨_, rfl⟩
    rw [ho] at p0 p1 p2 p3 hs1 hs2 hs3 hs4 hgo ⊢
    clear ho
    obtain ⟨okd, ori, olo, ohi⟩ := o
    dsimp only at p0 p1 p2 p3 hs1 hs2 hs3 hs4 hgo
    obtain ⟨⟨hk0, hk1⟩, hri, hlo, hhi, hwd⟩ := hgo
    obtain ⟨m, rfl⟩ : ∃ m : Nat, ori = m := ⟨ori.toNat, by omega⟩
    rw [Int.toNat_natCast] at hs1 hs2 hs4
    have HK := Lib.hid hK
    have HE := Lib.hid hE
    have HA := Lib.hid hA
    have HO := Lib.hid hO
    have Hj := Lib.hid hj
    have ef := hE.cf
    have ek := hE.ck
    have eo := hE.co
    have e2 := hE.ff.c2
    have d1 : decide (i = f.list.length) = false := decide_eq_false (by omega)
    have d2 : ((i : Int) == (f.list.length : Int)) = false := by simp; omega
    have i1 : (0 : Int) ≤ (i : Int) := by omega
    have i2 : (i : Int) < (f.list.length : Int) := by omega
    obtain ⟨Y, hY⟩ : ∃ Y, W.alloc (.cells #[.int .i64 okd, .int .i64 (m : Int), .int .i64 olo, .int .i64 ohi] 55) = Y := ⟨_, rfl⟩
    have hbY : Below W.heap.size W Y := by rw [← hY]; exact (Below.refl _ _).alloc (Nat.le_refl _) _
    have HkY := Lib.hid (KpI.below (lo := lo) (hi := hi) hbY)
    have HEY := Lib.hid (hE.kept HkY.out)
    have HAY := Lib.hid (hA.kept HkY.out)
    have HjY := Lib.hid (hK.grown hj hbY)
    have y0 : Y.cell? ⟨W.heap.size, 0, none⟩ = some (.int .i64 okd) := by rw [← hY]; exact cellN rfl rfl
    have y1 : Y.cell? ⟨W.heap.size, 1, none⟩ = some (.int .i64 (m : Int)) := by rw [← hY]; exact cellN rfl rfl
    have y2 : Y.cell? ⟨W.heap.size, 2, none⟩ = some (.int .i64 olo) := by rw [← hY]; exact cellN rfl rfl
    have y3 : Y.cell? ⟨W.heap.size, 3, none⟩ = some (.int .i64 ohi) := by rw [← hY]; exact cellN rfl rfl
    have z4 := HEY.out.ck
    have z5 := HEY.out.co
    have eadd : IntKind.i64.wrap ((i : Int) + 1) = ((i + 1 : Nat) : Int) := by rw [IntWalk.i64_in _ (by omega)]; push_cast; rfl
    have hY' := Lib.hid hY
    have hsz := hE.hs
    clear hE hA hO hj hK hbY hg hS
    by_cases hkk : okd = κ
    case neg =>
      have dk : (okd != κ) = true := by simpa using hkk
      have Hc := Lib.hid (show choL nr κ R i (⟨okd, m, olo, ohi⟩ :: f.list.drop (i + 1)) = choL nr κ R ((i + 1 : Nat) : Int) (f.list.drop (i + 1)) by rw [choL, if_neg hkk]; push_cast; rfl)
      have HC := Lib.hid (H.out (i + 1) lv acc pre Y (by omega) HjY.out HEY.out HAY.out (HO.out.mono (by omega)))
      clear hkk
      refine (callsIn_wide (n := 3)).1 ?_
      refine callsIn_of_wp Try.func80 rfl trivial ?_ rfl
      simp only [Try.ntmps80, List.size_toArray, List.length_cons, List.length_nil, Nat.reduceAdd, Nat.reduceSub, Array.replicate_succ, Array.replicate_zero, List.push_toArray, List.append_toArray, List.nil_append, List.cons_append]
      have hY := hY'.out
      subst hY
      gi_wp2
      apply scopeIn
      gi_wp2_with (refine ⟨trivial, ?_⟩; gi_at_call 80; refine (callsIn_wide.2 HC.out).mono ?_; rintro e W3 ⟨rfl, xs, hx1, hx2, hx3⟩)
      simp only [Exit.noGoto]
      exact bodyPost_ret (results_tmp rfl _ _ _) rfl ⟨rfl, xs, by rw [hx1, Hc.out], hx2, HkY.out.trans hx3⟩
    case pos =>
      subst hkk
      have dk : (okd != okd) = false := by simp
      have Hc := Lib.hid (show choL nr okd R i (⟨okd, m, olo, ohi⟩ :: f.list.drop (i + 1)) = chTo nr okd R i (f.list.drop (i + 1)) (optsTo R i ⟨okd, m, olo, ohi⟩ nr) by rw [choL, if_pos rfl]; rfl)
      obtain ⟨Tb, hTb⟩ : ∃ Tb, W.heap.size = Tb := ⟨_, rfl⟩
      have hTh : hi ≤ Tb := by omega
      rw [hTb] at y0 y1 y2 y3
      have um : U64 m := U64.of hs2 (by omega)
      have uR : U64 R := U64.of hR (by omega)
      obtain ⟨Dn, hDn⟩ : ∃ D, diff m R = D := ⟨_, rfl⟩
      have e4 : bits .andNot .u64 (m : Int) (R : Int) = (Dn : Int) := by rw [bits_andNot_u64 um uR, hDn]
      have econv : IntKind.u64.wrap (m : Int) = (m : Int) := IntWalk.u64_in _ (by omega)
      refine (callsIn_wide (n := 3)).1 ?_
      refine callsIn_of_wp Try.func80 rfl trivial ?_ rfl
      simp only [Try.ntmps80, List.size_toArray, List.length_cons, List.length_nil, Nat.reduceAdd, Nat.reduceSub, Array.replicate_succ, Array.replicate_zero, List.push_toArray, List.append_toArray, List.nil_append, List.cons_append]
      have hY := hY'.out
      have z5' : (W.alloc (.cells #[.int .i64 okd, .int .i64 (m : Int), .int .i64 olo, .int .i64 ohi] 55)).cell? ⟨Kb, 0, none⟩ = some (.int .i64 okd) := by rw [hY]; exact z4
      gi_wp2
      apply scopeIn
      gi_wp2_with fail
      clear z5' z4 z5
      try rw [hY]
      try rw [hTb]
      have Yd := Lib.hid (HEY.out.kept (KpI.below ((Below.refl Y.heap.size Y).drew)))
      have hS : Y.drew.cell? ⟨Tb, 1, none⟩ = some (.int .i64 (m : Int)) ∧ Y.drew.cell? ⟨Rb, 0, none⟩ = some (.int .u64 (R : Int)) ∧ Y.drew.cell? ⟨Ob, 0, none⟩ = some (.func (.func 80) #[] #[.pointer (some ⟨Fb, 0, none⟩), .pointer (some ⟨Yb, 0, none⟩), .pointer (some ⟨Kb, 0, none⟩), .pointer (some ⟨Ob, 0, none⟩), .pointer (some ⟨Rb, 0, none⟩)]) ∧ Y.drew.cell? ⟨Kb, 0, none⟩ = some (.int .i64 okd) := ⟨y1, Yd.out.cr, Yd.out.co, Yd.out.ck⟩
      clear hY p0 p1 p2 p3 ef ek eo e2
      refine heldRegion (fun X => X.cell? ⟨Tb, 1, none⟩ = some (.int .i64 (m : Int)) ∧ X.cell? ⟨Rb, 0, none⟩ = some (.int .u64 (R : Int)) ∧ X.cell? ⟨Ob, 0, none⟩ = some (.func (.func 80) #[] #[.pointer (some ⟨Fb, 0, none⟩), .pointer (some ⟨Yb, 0, none⟩), .pointer (some ⟨Kb, 0, none⟩), .pointer (some ⟨Ob, 0, none⟩), .pointer (some ⟨Rb, 0, none⟩)]) ∧ X.cell? ⟨Kb, 0, none⟩ = some (.int .i64 okd)) (by kernel_rfl) ?_
      refine heldTake 0 (fun _ => trivial) rfl (by kernel_rfl) (by kernel_rfl) (by kernel_rfl) (fun _ _ _ h => h) hS rfl (v := .pointer (some ⟨Tb, 1, none⟩)) ?x0 ?_
      case x0 => rintro w ⟨s0, s1, s2, s3⟩; first | (go_simp; done) | (go_simp; simp [IntKind.wrap_i64, wrap64]; done) | simp [execOp, go_sem, *]
      try simp only [Act.put, List.setIfInBounds_toArray, List.set_cons_zero, List.set_cons_succ, List.getElem_toArray, List.getElem_cons_succ, List.getElem_cons_zero]
      refine heldTake 1 (fun _ => trivial) rfl (by kernel_rfl) (by kernel_rfl) (by kernel_rfl) (fun _ _ _ h => h) hS rfl (v := .int .i64 (m : Int)) ?x1 ?_
      case x1 => rintro w ⟨s0, s1, s2, s3⟩; first | (go_simp; done) | (go_simp; simp [IntKind.wrap_i64, wrap64]; done) | simp [execOp, go_sem, *]
      try simp only [Act.put, List.setIfInBounds_toArray, List.set_cons_zero, List.set_cons_succ, List.getElem_toArray, List.getElem_cons_succ, List.getElem_cons_zero]
      refine heldTake 2 (fun _ => trivial) rfl (by kernel_rfl) (by kernel_rfl) (by kernel_rfl) (fun _ _ _ h => h) hS rfl (v := .int .u64 (m : Int)) ?x2 ?_
      case x2 => rintro w ⟨s0, s1, s2, s3⟩; first | (go_simp; done) | (go_simp; simp [IntKind.wrap_i64, wrap64]; done) | simp [execOp, go_sem, *]
      try simp only [Act.put, List.setIfInBounds_toArray, List.set_cons_zero, List.set_cons_succ, List.getElem_toArray, List.getElem_cons_succ, List.getElem_cons_zero]
      refine heldTake 3 (fun _ => trivial) rfl (by kernel_rfl) (by kernel_rfl) (by kernel_rfl) (fun _ _ _ h => h) hS rfl (v := .int .u64 (R : Int)) ?x3 ?_
      case x3 => rintro w ⟨s0, s1, s2, s3⟩; first | (go_simp; done) | (go_simp; simp [IntKind.wrap_i64, wrap64]; done) | simp [execOp, go_sem, *]
      try simp only [Act.put, List.setIfInBounds_toArray, List.set_cons_zero, List.set_cons_succ, List.getElem_toArray, List.getElem_cons_succ, List.getElem_cons_zero]
      refine heldTake 4 (fun _ => trivial) rfl (by kernel_rfl) (by kernel_rfl) (by kernel_rfl) (fun _ _ _ h => h) hS rfl (v := .int .u64 (Dn : Int)) ?x4 ?_
      case x4 => rintro w ⟨s0, s1, s2, s3⟩; first | (go_simp; done) | (go_simp; simp [IntKind.wrap_i64, wrap64]; done) | simp [execOp, go_sem, *]
      try simp only [Act.put, List.setIfInBounds_toArray, List.set_cons_zero, List.set_cons_succ, List.getElem_toArray, List.getElem_cons_succ, List.getElem_cons_zero]
      by_cases hD : Dn = 0
      · have dD : (((Dn : Nat) : Int) != 0) = false := by simp [hD]
        refine heldTake 5 (fun _ => trivial) rfl (by kernel_rfl) (by kernel_rfl) (by kernel_rfl) (fun _ _ _ h => h) hS rfl (v := .bool false) ?x5 ?_
        case x5 => rintro w ⟨s0, s1, s2, s3⟩; first | (go_simp; done) | (go_simp; simp [IntKind.wrap_i64, wrap64]; done) | simp [execOp, go_sem, *]
        try simp only [Act.put, List.setIfInBounds_toArray, List.set_cons_zero, List.set_cons_succ, List.getElem_toArray, List.getElem_cons_succ, List.getElem_cons_zero]
        refine heldTake 6 (fun _ => trivial) rfl (by kernel_rfl) (by kernel_rfl) (by kernel_rfl) (fun _ _ _ h => h) hS rfl (v := .bool false) ?x6 ?_
        case x6 => rintro w ⟨s0, s1, s2, s3⟩; first | (go_simp; done) | (go_simp; simp [IntKind.wrap_i64, wrap64]; done) | simp [execOp, go_sem, *]
        try simp only [Act.put, List.setIfInBounds_toArray, List.set_cons_zero, List.set_cons_succ, List.getElem_toArray, List.getElem_cons_succ, List.getElem_cons_zero]
        refine heldSkip 7 (fun _ => trivial) rfl (by kernel_rfl) (by kernel_rfl) (by kernel_rfl) (fun _ _ _ h => h) hS rfl ?_
        try simp only [Act.put, List.setIfInBounds_toArray, List.set_cons_zero, List.set_cons_succ, List.getElem_toArray, List.getElem_cons_succ, List.getElem_cons_zero]
        refine heldSkip 8 (fun _ => trivial) rfl (by kernel_rfl) (by kernel_rfl) (by kernel_rfl) (fun _ _ _ h => h) hS rfl ?_
        try simp only [Act.put, List.setIfInBounds_toArray, List.set_cons_zero, List.set_cons_succ, List.getElem_toArray, List.getElem_cons_succ, List.getElem_cons_zero]
        refine heldSkip 9 (fun _ => trivial) rfl (by kernel_rfl) (by kernel_rfl) (by kernel_rfl) (fun _ _ _ h => h) hS rfl ?_
        try simp only [Act.put, List.setIfInBounds_toArray, List.set_cons_zero, List.set_cons_succ, List.getElem_toArray, List.getElem_cons_succ, List.getElem_cons_zero]
        refine heldSkip 10 (fun _ => trivial) rfl (by kernel_rfl) (by kernel_rfl) (by kernel_rfl) (fun _ _ _ h => h) hS rfl ?_
        try simp only [Act.put, List.setIfInBounds_toArray, List.set_cons_zero, List.set_cons_succ, List.getElem_toArray, List.getElem_cons_succ, List.getElem_cons_zero]
        refine heldSkip 11 (fun _ => trivial) rfl (by kernel_rfl) (by kernel_rfl) (by kernel_rfl) (fun _ _ _ h => h) hS rfl ?_
        try simp only [Act.put, List.setIfInBounds_toArray, List.set_cons_zero, List.set_cons_succ, List.getElem_toArray, List.getElem_cons_succ, List.getElem_cons_zero]
        refine heldSkip 12 (fun _ => trivial) rfl (by kernel_rfl) (by kernel_rfl) (by kernel_rfl) (fun _ _ _ h => h) hS rfl ?_
        try simp only [Act.put, List.setIfInBounds_toArray, List.set_cons_zero, List.set_cons_succ, List.getElem_toArray, List.getElem_cons_succ, List.getElem_cons_zero]
        refine heldSkip 13 (fun _ => trivial) rfl (by kernel_rfl) (by kernel_rfl) (by kernel_rfl) (fun _ _ _ h => h) hS rfl ?_
        try simp only [Act.put, List.setIfInBounds_toArray, List.set_cons_zero, List.set_cons_succ, List.getElem_toArray, List.getElem_cons_succ, List.getElem_cons_zero]
        refine heldSkip 14 (fun _ => trivial) rfl (by kernel_rfl) (by kernel_rfl) (by kernel_rfl) (fun _ _ _ h => h) hS rfl ?_
        try simp only [Act.put, List.setIfInBounds_toArray, List.set_cons_zero, List.set_cons_succ, List.getElem_toArray, List.getElem_cons_succ, List.getElem_cons_zero]
        refine heldSkip 15 (fun _ => trivial) rfl (by kernel_rfl) (by kernel_rfl) (by kernel_rfl) (fun _ _ _ h => h) hS rfl ?_
        try simp only [Act.put, List.setIfInBounds_toArray, List.set_cons_zero, List.set_cons_succ, List.getElem_toArray, List.getElem_cons_succ, List.getElem_cons_zero]
        refine heldSkip 16 (fun _ => trivial) rfl (by kernel_rfl) (by kernel_rfl) (by kernel_rfl) (fun _ _ _ h => h) hS rfl ?_
        try simp only [Act.put, List.setIfInBounds_toArray, List.set_cons_zero, List.set_cons_succ, List.getElem_toArray, List.getElem_cons_succ, List.getElem_cons_zero]
        refine heldSkip 17 (fun _ => trivial) rfl (by kernel_rfl) (by kernel_rfl) (by kernel_rfl) (fun _ _ _ h => h) hS rfl ?_
        try simp only [Act.put, List.setIfInBounds_toArray, List.set_cons_zero, List.set_cons_succ, List.getElem_toArray, List.getElem_cons_succ, List.getElem_cons_zero]
        refine heldSkip 18 (fun _ => trivial) rfl (by kernel_rfl) (by kernel_rfl) (by kernel_rfl) (fun _ _ _ h => h) hS rfl ?_
        try simp only [Act.put, List.setIfInBounds_toArray, List.set_cons_zero, List.set_cons_succ, List.getElem_toArray, List.getElem_cons_succ, List.getElem_cons_zero]
        refine heldTake 19 (fun _ => trivial) rfl (by kernel_rfl) (by kernel_rfl) (by kernel_rfl) (fun _ _ _ h => h) hS rfl (v := .bool false) ?x19 ?_
        case x19 => rintro w ⟨s0, s1, s2, s3⟩; first | (go_simp; done) | (go_simp; simp [IntKind.wrap_i64, wrap64]; done) | simp [execOp, go_sem, *]
        try simp only [Act.put, List.setIfInBounds_toArray, List.set_cons_zero, List.set_cons_succ, List.getElem_toArray, List.getElem_cons_succ, List.getElem_cons_zero]
        refine heldDone (by kernel_rfl) ?_ _
        have H0 := Lib.hid (show ([] : List (Value × List Kn)).map (·.2) = (chTo nr okd R i (f.list.drop (i + 1)) (optsTo R i ⟨okd, m, olo, ohi⟩ 0)).map (acc ++ ·) ∧ J (pre ++ []) Y.drew ∧ KpI lo hi Y Y.drew from ⟨by
            unfold optsTo whoK
            rw [Int.toNat_natCast, hDn, if_pos hD]; rfl, by rw [List.append_nil]; exact HK.out.grown HjY.out (Below.refl _ _).drew, KpI.below (Below.refl _ _).drew⟩)
        have HE0 := Lib.hid Yd.out
        gi_wp2
        apply wpIn_label
        have n1 := HE0.out.cf
        have n2 := HE0.out.ff.c1
        rw [hnr] at n2
        gi_wp2
        gi_loopw [66] (fun u X => ∃ (who : Nat) (xs : List (Value × List Kn)), who ≤ nr ∧ u = .int .i64 who ∧ xs.map (·.2) = (chTo nr okd R i (f.list.drop (i + 1)) (optsTo R i ⟨okd, m, olo, ohi⟩ who)).map (acc ++ ·) ∧ J (pre ++ xs) X ∧ KpI lo hi Y X) (fun u _ => nr - (intOf u).toNat)
        case atStart => exact ⟨0, _, by omega, rfl, H0.out.1, H0.out.2.1, H0.out.2.2⟩
        case round =>
          obtain ⟨who, xs, hw, rfl, hx, hjx, hkx⟩ := hrel
          have HX := Lib.hid (And.intro hx (And.intro hjx hkx))
          have HEX := Lib.hid (HEY.out.kept hkx)
          have t1 := hkx.cell y1 (.inr hTh)
          have t2 := hkx.cell y2 (.inr hTh)
          have t3 := hkx.cell y3 (.inr hTh)
          have t4 := HEX.out.cr
          have hst := optsTo_step R i ⟨okd, m, olo, ohi⟩ who
          rw [Int.toNat_natCast] at hst
          have hbb := bit_u64 (m &&& R) who um.and
          rw [Nat.testBit_and] at hbb
          obtain ⟨bt, hbt⟩ : ∃ bt, (m.testBit who && R.testBit who) = bt := ⟨_, rfl⟩
          rw [hbt] at hbb hst
          have Hst := Lib.hid hst
          clear hx hjx hkx n1 n2 H0 HE0 hbt hst
          by_cases hlw : who < nr
          · cases bt
            · gi_wp2
              go_roundw
              case rel => exact ⟨who + 1, xs, by omega, by go_num, by rw [Hst.out]; simpa using HX.out.1, HX.out.2.1, HX.out.2.2⟩
              case measure => simp [intOf]; omega
            · gi_wp2
              clear hbb t1 t2 t3 t4
              have HX1 := Lib.hid (show xs.map (·.2) = (chTo nr okd R i (f.list.drop (i + 1)) (optsTo R i ⟨okd, m, olo, ohi⟩ who ++ (hoursK i ⟨okd, m, olo, ohi⟩ who).take 0)).map (acc ++ ·) ∧ J (pre ++ xs) wr ∧ KpI lo hi Y wr from by simpa using HX.out)
              obtain ⟨wo, rfl⟩ : ∃ wo : World, wo = wr := ⟨_, rfl⟩
              gi_loopw [12] (fun u X => ∃ (h : Nat) (xs : List (Value × List Kn)), (h : Int) ≤ ohi - olo + 1 ∧ u = .int .i64 (olo + (h : Int)) ∧ xs.map (·.2) = (chTo nr okd R i (f.list.drop (i + 1)) (optsTo R i ⟨okd, m, olo, ohi⟩ who ++ (hoursK i ⟨okd, m, olo, ohi⟩ who).take h)).map (acc ++ ·) ∧ J (pre ++ xs) X ∧ KpI lo hi Y X) (fun u _ => (ohi + 1 - intOf u).toNat)
              case atStart => exact ⟨0, xs, by omega, by simp, HX1.out.1, HX1.out.2.1, HX1.out.2.2⟩
              case round =>
                clear HX HX1 HEX
                obtain ⟨h, xs, hh, rfl, hx, hjx, hkx⟩ := hrel
                have HX := Lib.hid (And.intro hx (And.intro hjx hkx))
                have t3 := hkx.cell y3 (.inr hTh)
                have t1 := hkx.cell y1 (.inr hTh)
                obtain ⟨hr, hhr⟩ : ∃ hr, olo + (h : Int) = hr := ⟨_, rfl⟩
                rw [hhr]
                by_cases hlh : hr ≤ ohi
                · have Hht := Lib.hid (hours_take i ⟨okd, m, olo, ohi⟩ who h (by show (h : Int) < ohi - olo + 1; omega))
                  have Hhr := Lib.hid hhr
                  have hho : 0 ≤ hr ∧ hr ≤ 144 := by omega
                  have hEd := (HEY.out.kept hkx).kept (KpI.below (lo := lo) (hi := hi) ((Below.refl wr.heap.size wr).drew))
                  have hAd := (HAY.out.kept hkx).kept (KpI.below (lo := lo) (hi := hi) ((Below.refl wr.heap.size wr).drew))
                  have hJd := HK.out.grown hjx ((Below.refl wr.heap.size wr).drew)
                  have hS : wr.drew.cell? ⟨Tb, 1, none⟩ = some (.int .i64 (m : Int)) ∧ wr.drew.cell? ⟨Rb, 0, none⟩ = some (.int .u64 (R : Int)) ∧ wr.drew.cell? ⟨Ob, 0, none⟩ = some (.func (.func 80) #[] #[.pointer (some ⟨Fb, 0, none⟩), .pointer (some ⟨Yb, 0, none⟩), .pointer (some ⟨Kb, 0, none⟩), .pointer (some ⟨Ob, 0, none⟩), .pointer (some ⟨Rb, 0, none⟩)]) ∧ wr.drew.cell? ⟨Kb, 0, none⟩ = some (.int .i64 okd) := ⟨t1, hEd.cr, hEd.co, hEd.ck⟩
                  have HEd := Lib.hid hEd
                  have HAd := Lib.hid hAd
                  have HJd := Lib.hid hJd
                  have Hkd := Lib.hid (KpI.trans hkx (KpI.below (lo := lo) (hi := hi) ((Below.refl wr.heap.size wr).drew)))
                  clear hx hjx hkx hhr hEd hAd hJd t1
                  gi_wp2
                  clear t3
                  refine heldRegion (fun X => X.cell? ⟨Tb, 1, none⟩ = some (.int .i64 (m : Int)) ∧ X.cell? ⟨Rb, 0, none⟩ = some (.int .u64 (R : Int)) ∧ X.cell? ⟨Ob, 0, none⟩ = some (.func (.func 80) #[] #[.pointer (some ⟨Fb, 0, none⟩), .pointer (some ⟨Yb, 0, none⟩), .pointer (some ⟨Kb, 0, none⟩), .pointer (some ⟨Ob, 0, none⟩), .pointer (some ⟨Rb, 0, none⟩)]) ∧ X.cell? ⟨Kb, 0, none⟩ = some (.int .i64 okd)) (by kernel_rfl) ?_
                  obtain ⟨Xd, hXd⟩ : ∃ Xd, wr.drew = Xd := ⟨_, rfl⟩
                  rw [hXd] at HEd HAd HJd Hkd hS ⊢
                  clear hXd
                  obtain ⟨LC, hLC⟩ : ∃ LC, clipV lv = LC := ⟨_, rfl⟩
                  have hcl := fun X => clip_acc (HAd.out) X
                  rw [hLC] at hcl
                  have Hcl := Lib.hid hcl
                  have HLC := Lib.hid hLC
                  clear hcl hLC
                  refine heldTake 0 (fun _ => trivial) rfl (by kernel_rfl) (by kernel_rfl) (by kernel_rfl) (fun _ _ _ h => h) hS rfl (v := .func (.func 80) #[] #[.pointer (some ⟨Fb, 0, none⟩), .pointer (some ⟨Yb, 0, none⟩), .pointer (some ⟨Kb, 0, none⟩), .pointer (some ⟨Ob, 0, none⟩), .pointer (some ⟨Rb, 0, none⟩)]) ?x0 ?_
                  case x0 => rintro w ⟨s0, s1, s2, s3⟩; first | (go_simp; done) | (go_simp; simp [IntKind.wrap_i64, wrap64]; done) | simp [execOp, go_sem, *]
                  try simp only [Act.put, List.setIfInBounds_toArray, List.set_cons_zero, List.set_cons_succ, List.getElem_toArray, List.getElem_cons_succ, List.getElem_cons_zero]
                  refine heldTake 1 (fun _ => trivial) rfl (by kernel_rfl) (by kernel_rfl) (by kernel_rfl) (fun _ _ _ h => h) hS rfl (v := .int .i64 (i : Int)) ?x1 ?_
                  case x1 => rintro w ⟨s0, s1, s2, s3⟩; first | (go_simp; done) | (go_simp; simp [IntKind.wrap_i64, wrap64]; done) | simp [execOp, go_sem, *]
                  try simp only [Act.put, List.setIfInBounds_toArray, List.set_cons_zero, List.set_cons_succ, List.getElem_toArray, List.getElem_cons_succ, List.getElem_cons_zero]
                  refine heldTake 2 (fun _ => trivial) rfl (by kernel_rfl) (by kernel_rfl) (by kernel_rfl) (fun _ _ _ h => h) hS rfl (v := .int .i64 ((i + 1 : Nat) : Int)) ?x2 ?_
                  case x2 => rintro w ⟨s0, s1, s2, s3⟩; first | (go_simp; done) | (go_simp; simp [IntKind.wrap_i64, wrap64]; done) | simp [execOp, go_sem, *]
                  try simp only [Act.put, List.setIfInBounds_toArray, List.set_cons_zero, List.set_cons_succ, List.getElem_toArray, List.getElem_cons_succ, List.getElem_cons_zero]
                  refine heldTake 3 (fun _ => trivial) rfl (by kernel_rfl) (by kernel_rfl) (by kernel_rfl) (fun _ _ _ h => h) hS rfl (v := lv) ?x3 ?_
                  case x3 => rintro w ⟨s0, s1, s2, s3⟩; first | (go_simp; done) | (go_simp; simp [IntKind.wrap_i64, wrap64]; done) | simp [execOp, go_sem, *]
                  try simp only [Act.put, List.setIfInBounds_toArray, List.set_cons_zero, List.set_cons_succ, List.getElem_toArray, List.getElem_cons_succ, List.getElem_cons_zero]
                  refine heldTake 5 (fun _ => trivial) rfl (by kernel_rfl) (by kernel_rfl) (by kernel_rfl) (fun _ _ _ h => h) hS rfl (v := .int .i64 (i : Int)) ?x5 ?_
                  case x5 => rintro w ⟨s0, s1, s2, s3⟩; first | (go_simp; done) | (go_simp; simp [IntKind.wrap_i64, wrap64]; done) | simp [execOp, go_sem, *]
                  try simp only [Act.put, List.setIfInBounds_toArray, List.set_cons_zero, List.set_cons_succ, List.getElem_toArray, List.getElem_cons_succ, List.getElem_cons_zero]
                  refine heldTake 6 (fun _ => trivial) rfl (by kernel_rfl) (by kernel_rfl) (by kernel_rfl) (fun _ _ _ h => h) hS rfl (v := .int .i64 okd) ?x6 ?_
                  case x6 => rintro w ⟨s0, s1, s2, s3⟩; first | (go_simp; done) | (go_simp; simp [IntKind.wrap_i64, wrap64]; done) | simp [execOp, go_sem, *]
                  try simp only [Act.put, List.setIfInBounds_toArray, List.set_cons_zero, List.set_cons_succ, List.getElem_toArray, List.getElem_cons_succ, List.getElem_cons_zero]
                  refine heldTake 7 (fun _ => trivial) rfl (by kernel_rfl) (by kernel_rfl) (by kernel_rfl) (fun _ _ _ h => h) hS rfl (v := .int .i64 (who : Int)) ?x7 ?_
                  case x7 => rintro w ⟨s0, s1, s2, s3⟩; first | (go_simp; done) | (go_simp; simp [IntKind.wrap_i64, wrap64]; done) | simp [execOp, go_sem, *]
                  try simp only [Act.put, List.setIfInBounds_toArray, List.set_cons_zero, List.set_cons_succ, List.getElem_toArray, List.getElem_cons_succ, List.getElem_cons_zero]
                  refine heldTake 8 (fun _ => trivial) rfl (by kernel_rfl) (by kernel_rfl) (by kernel_rfl) (fun _ _ _ h => h) hS rfl (v := .int .i64 hr) ?x8 ?_
                  case x8 => rintro w ⟨s0, s1, s2, s3⟩; first | (go_simp; done) | (go_simp; simp [IntKind.wrap_i64, wrap64]; done) | simp [execOp, go_sem, *]
                  try simp only [Act.put, List.setIfInBounds_toArray, List.set_cons_zero, List.set_cons_succ, List.getElem_toArray, List.getElem_cons_succ, List.getElem_cons_zero]
                  refine heldCall 4 81 #[lv] (fun _ => trivial) (by simp [Fence.wide]) rfl (by kernel_rfl) (by kernel_rfl) (by kernel_rfl) (fun _ _ _ h => h) hS rfl (v := LC) ?y4 (fun w _ => callsIn_wide.2 (Hcl.out w)) ?_
                  case y4 => rintro w ⟨s0, s1, s2, s3⟩; first | (go_simp; done) | simp [execOp, go_sem, enters_of Try.func81 (by kernel_rfl) rfl]
                  try simp only [Act.put, List.setIfInBounds_toArray, List.set_cons_zero, List.set_cons_succ, List.getElem_toArray, List.getElem_cons_succ, List.getElem_cons_zero]
                  refine heldTake 9 (fun _ => trivial) rfl (by kernel_rfl) (by kernel_rfl) (by kernel_rfl) (fun _ _ _ h => h) hS rfl (v := .agg #[.int .i64 (i : Int), .int .i64 okd, .int .i64 (who : Int), .int .i64 hr]) ?x9 ?_
                  case x9 => rintro w ⟨s0, s1, s2, s3⟩; first | (go_simp; done) | (go_simp; simp [IntKind.wrap_i64, wrap64]; done) | simp [execOp, go_sem, *]
                  try simp only [Act.put, List.setIfInBounds_toArray, List.set_cons_zero, List.set_cons_succ, List.getElem_toArray, List.getElem_cons_succ, List.getElem_cons_zero]
                  refine heldNext 10 (by kernel_rfl) rfl rfl (fun K hK => ?_)
                  gi_wp2
                  obtain ⟨Ab, hAb⟩ : ∃ Ab, Xd.heap.size = Ab := ⟨_, rfl⟩
                  obtain ⟨Y1, hY1⟩ : ∃ Y1, Xd.alloc (.cells #[.int .i64 (i : Int), .int .i64 okd, .int .i64 (who : Int), .int .i64 hr] 103) = Y1 := ⟨_, rfl⟩
                  have hbY1 : Below Xd.heap.size Xd Y1 := by rw [← hY1]; exact (Below.refl _ _).alloc (Nat.le_refl _) _
                  have hcells : ∀ j, j < 4 → Y1.cell? ⟨Ab, j, none⟩ = some (.int .i64 (cKn (⟨i, okd, who, hr⟩) j)) := fun j hj => by
                    have hc : j = 0 ∨ j = 1 ∨ j = 2 ∨ j = 3 := by omega
                    rw [← hY1, ← hAb]
                    rcases hc with rfl | rfl | rfl | rfl <;> exact cellN rfl rfl
                  have hE1 := (HEd.out).kept (KpI.below (lo := lo) (hi := hi) hbY1)
                  have hA1 := (HAd.out).kept (KpI.below (lo := lo) (hi := hi) hbY1)
                  have hJ1 := HK.out.grown (HJd.out) hbY1
                  have hS1 : Y1.cell? ⟨Tb, 1, none⟩ = some (.int .i64 (m : Int)) ∧ Y1.cell? ⟨Rb, 0, none⟩ = some (.int .u64 (R : Int)) ∧ Y1.cell? ⟨Ob, 0, none⟩ = some (.func (.func 80) #[] #[.pointer (some ⟨Fb, 0, none⟩), .pointer (some ⟨Yb, 0, none⟩), .pointer (some ⟨Kb, 0, none⟩), .pointer (some ⟨Ob, 0, none⟩), .pointer (some ⟨Rb, 0, none⟩)]) ∧ Y1.cell? ⟨Kb, 0, none⟩ = some (.int .i64 okd) := ⟨Below.cellSome hbY1 hS.1, hE1.cr, hE1.co, hE1.ck⟩
                  try rw [hY1]
                  try rw [hAb]
                  refine hK _ _ (fun _ => hS1) ?_
                  clear hK K
                  try simp only [Act.put, List.setIfInBounds_toArray, List.set_cons_zero, List.set_cons_succ, List.getElem_toArray, List.getElem_cons_succ, List.getElem_cons_zero]
                  obtain ⟨v57, Z, hap, hA2, hbZ⟩ := append_kn hA1 (by have := HO.out.len; omega) hE1.hs LC HLC.out.symm (⟨i, okd, who, hr⟩) Ab hcells
                  have hE2 := hE1.kept (KpI.below (lo := lo) (hi := hi) hbZ)
                  have hJ2 := HK.out.grown hJ1 hbZ
                  have hS2 : Z.cell? ⟨Tb, 1, none⟩ = some (.int .i64 (m : Int)) ∧ Z.cell? ⟨Rb, 0, none⟩ = some (.int .u64 (R : Int)) ∧ Z.cell? ⟨Ob, 0, none⟩ = some (.func (.func 80) #[] #[.pointer (some ⟨Fb, 0, none⟩), .pointer (some ⟨Yb, 0, none⟩), .pointer (some ⟨Kb, 0, none⟩), .pointer (some ⟨Ob, 0, none⟩), .pointer (some ⟨Rb, 0, none⟩)]) ∧ Z.cell? ⟨Kb, 0, none⟩ = some (.int .i64 okd) := ⟨Below.cellSome hbZ hS1.1, hE2.cr, hE2.co, hE2.ck⟩
                  have HC := Lib.hid (H.out (i + 1) v57 (acc ++ [⟨i, okd, who, hr⟩]) (pre ++ xs) Z (by omega) hJ2 hE2 hA2 (HO.out.more (k := ⟨i, okd, who, hr⟩) rfl ⟨hk0, hk1⟩ hho))
                  have HkZ := Lib.hid ((KpI.below (lo := lo) (hi := hi) hbY1).trans (KpI.below (lo := lo) (hi := hi) hbZ))
                  have HE2 := Lib.hid hE2
                  refine heldNext 11 (by kernel_rfl) rfl rfl (fun K hK => ?_)
                  try simp only [List.getElem_toArray, List.getElem_cons_succ, List.getElem_cons_zero]
                  refine wpIn_append_run (fun _ => trivial) _ (.tmp 92) (.tmp 98) 101 101 rfl LC (.slice (some ⟨Ab, 0, none⟩) 1 1) rfl rfl hap ?_
                  refine hK _ _ (fun _ => hS2) ?_
                  clear hK K
                  try simp only [Act.put, List.setIfInBounds_toArray, List.set_cons_zero, List.set_cons_succ, List.getElem_toArray, List.getElem_cons_succ, List.getElem_cons_zero]
                  clear hap hA2 hbZ hE1 hA1 hJ1 hJ2 hS1 hbY1 hcells hE2 hAb hY1
                  refine heldNext 12 (by kernel_rfl) rfl rfl (fun K hK => ?_)
                  gi_wp2_with (refine ⟨trivial, ?_⟩; gi_at_call 80; refine (callsIn_wide.2 HC.out).mono ?_; rintro e W3 ⟨rfl, ys, hy1, hy2, hy3⟩)
                  have hE3 := HE2.out.kept hy3
                  have hS3 : W3.cell? ⟨Tb, 1, none⟩ = some (.int .i64 (m : Int)) ∧ W3.cell? ⟨Rb, 0, none⟩ = some (.int .u64 (R : Int)) ∧ W3.cell? ⟨Ob, 0, none⟩ = some (.func (.func 80) #[] #[.pointer (some ⟨Fb, 0, none⟩), .pointer (some ⟨Yb, 0, none⟩), .pointer (some ⟨Kb, 0, none⟩), .pointer (some ⟨Ob, 0, none⟩), .pointer (some ⟨Rb, 0, none⟩)]) ∧ W3.cell? ⟨Kb, 0, none⟩ = some (.int .i64 okd) := ⟨hy3.cell hS2.1 (.inr hTh), hE3.cr, hE3.co, hE3.ck⟩
                  have Hy := Lib.hid (And.intro hy1 (And.intro hy2 (HkZ.out.trans hy3)))
                  refine hK _ _ (fun _ => hS3) ?_
                  clear hK K
                  try simp only [Act.put, List.setIfInBounds_toArray, List.set_cons_zero, List.set_cons_succ, List.getElem_toArray, List.getElem_cons_succ, List.getElem_cons_zero]
                  clear hS2 hy1 hy2 hy3 HC HkZ HE2 hE3
                  refine heldTake 13 (fun _ => trivial) rfl (by kernel_rfl) (by kernel_rfl) (by kernel_rfl) (fun _ _ _ h => h) hS3 rfl (v := .bool false) ?x13 ?_
                  case x13 => rintro w ⟨s0, s1, s2, s3⟩; first | (go_simp; done) | (go_simp; simp [IntKind.wrap_i64, wrap64]; done) | simp [execOp, go_sem, *]
                  try simp only [Act.put, List.setIfInBounds_toArray, List.set_cons_zero, List.set_cons_succ, List.getElem_toArray, List.getElem_cons_succ, List.getElem_cons_zero]
                  refine heldDone (by kernel_rfl) ?_ _
                  clear hS hS3
                  gi_wp2
                  go_roundw
                  case rel => exact ⟨h + 1, xs ++ ys, by have := Hhr.out; omega, by have := Hhr.out; rw [← this]; push_cast; rw [Int.add_assoc], by
                    rw [Hht.out, ← List.append_assoc, Hhr.out, List.map_append]
                    exact chTo_one HX.out.1 (by rw [Hy.out.1]; push_cast; rfl), by rw [← List.append_assoc]; exact Hy.out.2.1, Hkd.out.trans Hy.out.2.2⟩
                  case measure => simp [intOf]; omega
                · have Hall := Lib.hid (hours_all i ⟨okd, m, olo, ohi⟩ who h (by show ohi - olo + 1 ≤ (h : Int); omega))
                  clear hx hjx hkx t1 hhr
                  gi_wp2
                  first
                    | (exact ⟨⟨_, _, _, .int .i64 ((who : Int) + 1), ⟨who + 1, by omega, by push_cast; rfl, xs, by rw [Hst.out]; have := HX.out.1; rw [Hall.out] at this; simpa using this, HX.out.2.1, HX.out.2.2⟩, rfl, rfl, rfl, rfl⟩, by simp [intOf]; omega⟩)
                    | (go_roundw
                       case rel => exact ⟨who + 1, xs, by omega, by go_num, by rw [Hst.out]; have := HX.out.1; rw [Hall.out] at this; simpa using this, HX.out.2.1, HX.out.2.2⟩
                       case measure => simp [intOf]; omega)
                    | exact ⟨⟨who + 1, xs, by omega, by push_cast; rfl, by rw [Hst.out]; have := HX.out.1; rw [Hall.out] at this; simpa using this, HX.out.2.1, HX.out.2.2⟩, by simp [intOf]; omega⟩
                    | fail
          · have hwn : who = nr := by omega
            subst hwn
            gi_wp2
            simp only [Exit.noGoto]
            exact bodyPost_ret (results_tmp rfl _ _ _) rfl ⟨rfl, xs, by rw [Hc.out]; exact HX.out.1, HX.out.2.1, HkY.out.trans HX.out.2.2⟩
      · have dD : (((Dn : Nat) : Int) != 0) = true := by simp; omega
        refine heldTake 5 (fun _ => trivial) rfl (by kernel_rfl) (by kernel_rfl) (by kernel_rfl) (fun _ _ _ h => h) hS rfl (v := .bool true) ?x5 ?_
        case x5 => rintro w ⟨s0, s1, s2, s3⟩; first | (go_simp; done) | (go_simp; simp [IntKind.wrap_i64, wrap64]; done) | simp [execOp, go_sem, *]
        try simp only [Act.put, List.setIfInBounds_toArray, List.set_cons_zero, List.set_cons_succ, List.getElem_toArray, List.getElem_cons_succ, List.getElem_cons_zero]
        refine heldTake 6 (fun _ => trivial) rfl (by kernel_rfl) (by kernel_rfl) (by kernel_rfl) (fun _ _ _ h => h) hS rfl (v := .bool true) ?x6 ?_
        case x6 => rintro w ⟨s0, s1, s2, s3⟩; first | (go_simp; done) | (go_simp; simp [IntKind.wrap_i64, wrap64]; done) | simp [execOp, go_sem, *]
        try simp only [Act.put, List.setIfInBounds_toArray, List.set_cons_zero, List.set_cons_succ, List.getElem_toArray, List.getElem_cons_succ, List.getElem_cons_zero]
        obtain ⟨Xd, hXd⟩ : ∃ Xd, Y.drew = Xd := ⟨_, rfl⟩
        have HAd := Lib.hid (HAY.out.kept (KpI.below (lo := lo) (hi := hi) ((Below.refl Y.heap.size Y).drew)))
        have HJd := Lib.hid (show J (pre ++ []) Y.drew by rw [List.append_nil]; exact HK.out.grown HjY.out (Below.refl _ _).drew)
        have Hkd := Lib.hid (KpI.below (lo := lo) (hi := hi) ((Below.refl Y.heap.size Y).drew))
        rw [hXd] at HAd HJd Hkd Yd hS ⊢
        clear hXd
        obtain ⟨LC, hLC⟩ : ∃ LC, clipV lv = LC := ⟨_, rfl⟩
        have hcl := fun X => clip_acc (HAd.out) X
        rw [hLC] at hcl
        have Hcl := Lib.hid hcl
        have HLC := Lib.hid hLC
        clear hcl hLC
        refine heldTake 7 (fun _ => trivial) rfl (by kernel_rfl) (by kernel_rfl) (by kernel_rfl) (fun _ _ _ h => h) hS rfl (v := .func (.func 80) #[] #[.pointer (some ⟨Fb, 0, none⟩), .pointer (some ⟨Yb, 0, none⟩), .pointer (some ⟨Kb, 0, none⟩), .pointer (some ⟨Ob, 0, none⟩), .pointer (some ⟨Rb, 0, none⟩)]) ?x7 ?_
        case x7 => rintro w ⟨s0, s1, s2, s3⟩; first | (go_simp; done) | (go_simp; simp [IntKind.wrap_i64, wrap64]; done) | simp [execOp, go_sem, *]
        try simp only [Act.put, List.setIfInBounds_toArray, List.set_cons_zero, List.set_cons_succ, List.getElem_toArray, List.getElem_cons_succ, List.getElem_cons_zero]
        refine heldTake 8 (fun _ => trivial) rfl (by kernel_rfl) (by kernel_rfl) (by kernel_rfl) (fun _ _ _ h => h) hS rfl (v := .int .i64 (i : Int)) ?x8 ?_
        case x8 => rintro w ⟨s0, s1, s2, s3⟩; first | (go_simp; done) | (go_simp; simp [IntKind.wrap_i64, wrap64]; done) | simp [execOp, go_sem, *]
        try simp only [Act.put, List.setIfInBounds_toArray, List.set_cons_zero, List.set_cons_succ, List.getElem_toArray, List.getElem_cons_succ, List.getElem_cons_zero]
        refine heldTake 9 (fun _ => trivial) rfl (by kernel_rfl) (by kernel_rfl) (by kernel_rfl) (fun _ _ _ h => h) hS rfl (v := .int .i64 ((i + 1 : Nat) : Int)) ?x9 ?_
        case x9 => rintro w ⟨s0, s1, s2, s3⟩; first | (go_simp; done) | (go_simp; simp [IntKind.wrap_i64, wrap64]; done) | simp [execOp, go_sem, *]
        try simp only [Act.put, List.setIfInBounds_toArray, List.set_cons_zero, List.set_cons_succ, List.getElem_toArray, List.getElem_cons_succ, List.getElem_cons_zero]
        refine heldTake 10 (fun _ => trivial) rfl (by kernel_rfl) (by kernel_rfl) (by kernel_rfl) (fun _ _ _ h => h) hS rfl (v := lv) ?x10 ?_
        case x10 => rintro w ⟨s0, s1, s2, s3⟩; first | (go_simp; done) | (go_simp; simp [IntKind.wrap_i64, wrap64]; done) | simp [execOp, go_sem, *]
        try simp only [Act.put, List.setIfInBounds_toArray, List.set_cons_zero, List.set_cons_succ, List.getElem_toArray, List.getElem_cons_succ, List.getElem_cons_zero]
        refine heldTake 12 (fun _ => trivial) rfl (by kernel_rfl) (by kernel_rfl) (by kernel_rfl) (fun _ _ _ h => h) hS rfl (v := .int .i64 (i : Int)) ?x12 ?_
        case x12 => rintro w ⟨s0, s1, s2, s3⟩; first | (go_simp; done) | (go_simp; simp [IntKind.wrap_i64, wrap64]; done) | simp [execOp, go_sem, *]
        try simp only [Act.put, List.setIfInBounds_toArray, List.set_cons_zero, List.set_cons_succ, List.getElem_toArray, List.getElem_cons_succ, List.getElem_cons_zero]
        refine heldTake 13 (fun _ => trivial) rfl (by kernel_rfl) (by kernel_rfl) (by kernel_rfl) (fun _ _ _ h => h) hS rfl (v := .int .i64 okd) ?x13 ?_
        case x13 => rintro w ⟨s0, s1, s2, s3⟩; first | (go_simp; done) | (go_simp; simp [IntKind.wrap_i64, wrap64]; done) | simp [execOp, go_sem, *]
        try simp only [Act.put, List.setIfInBounds_toArray, List.set_cons_zero, List.set_cons_succ, List.getElem_toArray, List.getElem_cons_succ, List.getElem_cons_zero]
        refine heldCall 11 81 #[lv] (fun _ => trivial) (by simp [Fence.wide]) rfl (by kernel_rfl) (by kernel_rfl) (by kernel_rfl) (fun _ _ _ h => h) hS rfl (v := LC) ?y11 (fun w _ => callsIn_wide.2 (Hcl.out w)) ?_
        case y11 => rintro w ⟨s0, s1, s2, s3⟩; first | (go_simp; done) | simp [execOp, go_sem, enters_of Try.func81 (by kernel_rfl) rfl]
        try simp only [Act.put, List.setIfInBounds_toArray, List.set_cons_zero, List.set_cons_succ, List.getElem_toArray, List.getElem_cons_succ, List.getElem_cons_zero]
        refine heldTake 14 (fun _ => trivial) rfl (by kernel_rfl) (by kernel_rfl) (by kernel_rfl) (fun _ _ _ h => h) hS rfl (v := .agg #[.int .i64 (i : Int), .int .i64 okd, .int .i64 (-1), .int .i64 0]) ?x14 ?_
        case x14 => rintro w ⟨s0, s1, s2, s3⟩; first | (go_simp; done) | (go_simp; simp [IntKind.wrap_i64, wrap64]; done) | simp [execOp, go_sem, *]
        try simp only [Act.put, List.setIfInBounds_toArray, List.set_cons_zero, List.set_cons_succ, List.getElem_toArray, List.getElem_cons_succ, List.getElem_cons_zero]
        refine heldNext 15 (by kernel_rfl) rfl rfl (fun K hK => ?_)
        gi_wp2
        obtain ⟨Ab, hAb⟩ : ∃ Ab, Xd.heap.size = Ab := ⟨_, rfl⟩
        obtain ⟨Y1, hY1⟩ : ∃ Y1, Xd.alloc (.cells #[.int .i64 (i : Int), .int .i64 okd, .int .i64 (-1), .int .i64 0] 103) = Y1 := ⟨_, rfl⟩
        have hbY1 : Below Xd.heap.size Xd Y1 := by rw [← hY1]; exact (Below.refl _ _).alloc (Nat.le_refl _) _
        have hcells : ∀ j, j < 4 → Y1.cell? ⟨Ab, j, none⟩ = some (.int .i64 (cKn (⟨i, okd, -1, 0⟩) j)) := fun j hj => by
          have hc : j = 0 ∨ j = 1 ∨ j = 2 ∨ j = 3 := by omega
          rw [← hY1, ← hAb]
          rcases hc with rfl | rfl | rfl | rfl <;> exact cellN rfl rfl
        have hE1 := (Yd.out).kept (KpI.below (lo := lo) (hi := hi) hbY1)
        have hA1 := (HAd.out).kept (KpI.below (lo := lo) (hi := hi) hbY1)
        have hJ1 := HK.out.grown (HJd.out) hbY1
        have hS1 : Y1.cell? ⟨Tb, 1, none⟩ = some (.int .i64 (m : Int)) ∧ Y1.cell? ⟨Rb, 0, none⟩ = some (.int .u64 (R : Int)) ∧ Y1.cell? ⟨Ob, 0, none⟩ = some (.func (.func 80) #[] #[.pointer (some ⟨Fb, 0, none⟩), .pointer (some ⟨Yb, 0, none⟩), .pointer (some ⟨Kb, 0, none⟩), .pointer (some ⟨Ob, 0, none⟩), .pointer (some ⟨Rb, 0, none⟩)]) ∧ Y1.cell? ⟨Kb, 0, none⟩ = some (.int .i64 okd) := ⟨Below.cellSome hbY1 hS.1, hE1.cr, hE1.co, hE1.ck⟩
        try rw [hY1]
        try rw [hAb]
        refine hK _ _ (fun _ => hS1) ?_
        clear hK K
        try simp only [Act.put, List.setIfInBounds_toArray, List.set_cons_zero, List.set_cons_succ, List.getElem_toArray, List.getElem_cons_succ, List.getElem_cons_zero]
        obtain ⟨v57, Z, hap, hA2, hbZ⟩ := append_kn hA1 (by have := HO.out.len; omega) hE1.hs LC HLC.out.symm (⟨i, okd, -1, 0⟩) Ab hcells
        have hE2 := hE1.kept (KpI.below (lo := lo) (hi := hi) hbZ)
        have hJ2 := HK.out.grown hJ1 hbZ
        have hS2 : Z.cell? ⟨Tb, 1, none⟩ = some (.int .i64 (m : Int)) ∧ Z.cell? ⟨Rb, 0, none⟩ = some (.int .u64 (R : Int)) ∧ Z.cell? ⟨Ob, 0, none⟩ = some (.func (.func 80) #[] #[.pointer (some ⟨Fb, 0, none⟩), .pointer (some ⟨Yb, 0, none⟩), .pointer (some ⟨Kb, 0, none⟩), .pointer (some ⟨Ob, 0, none⟩), .pointer (some ⟨Rb, 0, none⟩)]) ∧ Z.cell? ⟨Kb, 0, none⟩ = some (.int .i64 okd) := ⟨Below.cellSome hbZ hS1.1, hE2.cr, hE2.co, hE2.ck⟩
        have HC := Lib.hid (H.out (i + 1) v57 (acc ++ [⟨i, okd, -1, 0⟩]) (pre ++ []) Z (by omega) hJ2 hE2 hA2 (HO.out.more (k := ⟨i, okd, -1, 0⟩) rfl ⟨hk0, hk1⟩ ⟨Int.le_refl 0, by show (0 : Int) ≤ 144; omega⟩))
        have HkZ := Lib.hid ((KpI.below (lo := lo) (hi := hi) hbY1).trans (KpI.below (lo := lo) (hi := hi) hbZ))
        have HE2 := Lib.hid hE2
        refine heldNext 16 (by kernel_rfl) rfl rfl (fun K hK => ?_)
        try simp only [List.getElem_toArray, List.getElem_cons_succ, List.getElem_cons_zero]
        refine wpIn_append_run (fun _ => trivial) _ (.tmp 52) (.tmp 56) 101 101 rfl LC (.slice (some ⟨Ab, 0, none⟩) 1 1) rfl rfl hap ?_
        refine hK _ _ (fun _ => hS2) ?_
        clear hK K
        try simp only [Act.put, List.setIfInBounds_toArray, List.set_cons_zero, List.set_cons_succ, List.getElem_toArray, List.getElem_cons_succ, List.getElem_cons_zero]
        clear hap hA2 hbZ hE1 hA1 hJ1 hJ2 hS1 hbY1 hcells hE2 hAb hY1
        refine heldNext 17 (by kernel_rfl) rfl rfl (fun K hK => ?_)
        gi_wp2_with (refine ⟨trivial, ?_⟩; gi_at_call 80; refine (callsIn_wide.2 HC.out).mono ?_; rintro e W3 ⟨rfl, ys, hy1, hy2, hy3⟩)
        have hE3 := HE2.out.kept hy3
        have hS3 : W3.cell? ⟨Tb, 1, none⟩ = some (.int .i64 (m : Int)) ∧ W3.cell? ⟨Rb, 0, none⟩ = some (.int .u64 (R : Int)) ∧ W3.cell? ⟨Ob, 0, none⟩ = some (.func (.func 80) #[] #[.pointer (some ⟨Fb, 0, none⟩), .pointer (some ⟨Yb, 0, none⟩), .pointer (some ⟨Kb, 0, none⟩), .pointer (some ⟨Ob, 0, none⟩), .pointer (some ⟨Rb, 0, none⟩)]) ∧ W3.cell? ⟨Kb, 0, none⟩ = some (.int .i64 okd) := ⟨hy3.cell hS2.1 (.inr hTh), hE3.cr, hE3.co, hE3.ck⟩
        have Hy := Lib.hid (And.intro hy1 (And.intro hy2 (HkZ.out.trans hy3)))
        refine hK _ _ (fun _ => hS3) ?_
        clear hK K
        try simp only [Act.put, List.setIfInBounds_toArray, List.set_cons_zero, List.set_cons_succ, List.getElem_toArray, List.getElem_cons_succ, List.getElem_cons_zero]
        clear hS2 hy1 hy2 hy3 HC HkZ HE2 hE3
        refine heldTake 18 (fun _ => trivial) rfl (by kernel_rfl) (by kernel_rfl) (by kernel_rfl) (fun _ _ _ h => h) hS3 rfl (v := .bool false) ?x18 ?_
        case x18 => rintro w ⟨s0, s1, s2, s3⟩; first | (go_simp; done) | (go_simp; simp [IntKind.wrap_i64, wrap64]; done) | simp [execOp, go_sem, *]
        try simp only [Act.put, List.setIfInBounds_toArray, List.set_cons_zero, List.set_cons_succ, List.getElem_toArray, List.getElem_cons_succ, List.getElem_cons_zero]
        refine heldTake 19 (fun _ => trivial) rfl (by kernel_rfl) (by kernel_rfl) (by kernel_rfl) (fun _ _ _ h => h) hS3 rfl (v := .bool false) ?x19 ?_
        case x19 => rintro w ⟨s0, s1, s2, s3⟩; first | (go_simp; done) | (go_simp; simp [IntKind.wrap_i64, wrap64]; done) | simp [execOp, go_sem, *]
        try simp only [Act.put, List.setIfInBounds_toArray, List.set_cons_zero, List.set_cons_succ, List.getElem_toArray, List.getElem_cons_succ, List.getElem_cons_zero]
        refine heldDone (by kernel_rfl) ?_ _
        clear hS
        have H0 := Lib.hid (show (([] : List (Value × List Kn)) ++ ys).map (·.2) = (chTo nr okd R i (f.list.drop (i + 1)) (optsTo R i ⟨okd, m, olo, ohi⟩ 0)).map (acc ++ ·) ∧ J (pre ++ ([] ++ ys)) W3 ∧ KpI lo hi Y W3 from ⟨by
          unfold optsTo whoK
          rw [Int.toNat_natCast, hDn, if_neg hD]
          have := chTo_one (nr := nr) (κ := okd) (R := R) (i := (i : Int)) (t := f.list.drop (i + 1)) (acc := acc) (ks := []) (k := ⟨i, okd, -1, 0⟩) (xs := []) (ys := ys.map (·.2)) rfl (by rw [Hy.out.1]; push_cast; rfl)
          simpa using this, by rw [← List.append_assoc]; exact Hy.out.2.1, Hkd.out.trans Hy.out.2.2⟩)
        have HE0 := Lib.hid (HEY.out.kept H0.out.2.2)
        clear hS3
        gi_wp2
        apply wpIn_label
        have n1 := HE0.out.cf
        have n2 := HE0.out.ff.c1
        rw [hnr] at n2
        gi_wp2
        gi_loopw [66] (fun u X => ∃ (who : Nat) (xs : List (Value × List Kn)), who ≤ nr ∧ u = .int .i64 who ∧ xs.map (·.2) = (chTo nr okd R i (f.list.drop (i + 1)) (optsTo R i ⟨okd, m, olo, ohi⟩ who)).map (acc ++ ·) ∧ J (pre ++ xs) X ∧ KpI lo hi Y X) (fun u _ => nr - (intOf u).toNat)
        case atStart => exact ⟨0, _, by omega, rfl, H0.out.1, H0.out.2.1, H0.out.2.2⟩
        case round =>
          obtain ⟨who, xs, hw, rfl, hx, hjx, hkx⟩ := hrel
          have HX := Lib.hid (And.intro hx (And.intro hjx hkx))
          have HEX := Lib.hid (HEY.out.kept hkx)
          have t1 := hkx.cell y1 (.inr hTh)
          have t2 := hkx.cell y2 (.inr hTh)
          have t3 := hkx.cell y3 (.inr hTh)
          have t4 := HEX.out.cr
          have hst := optsTo_step R i ⟨okd, m, olo, ohi⟩ who
          rw [Int.toNat_natCast] at hst
          have hbb := bit_u64 (m &&& R) who um.and
          rw [Nat.testBit_and] at hbb
          obtain ⟨bt, hbt⟩ : ∃ bt, (m.testBit who && R.testBit who) = bt := ⟨_, rfl⟩
          rw [hbt] at hbb hst
          have Hst := Lib.hid hst
          clear hx hjx hkx n1 n2 H0 HE0 hbt hst
          by_cases hlw : who < nr
          · cases bt
            · gi_wp2
              go_roundw
              case rel => exact ⟨who + 1, xs, by omega, by go_num, by rw [Hst.out]; simpa using HX.out.1, HX.out.2.1, HX.out.2.2⟩
              case measure => simp [intOf]; omega
            · gi_wp2
              clear hbb t1 t2 t3 t4
              have HX1 := Lib.hid (show xs.map (·.2) = (chTo nr okd R i (f.list.drop (i + 1)) (optsTo R i ⟨okd, m, olo, ohi⟩ who ++ (hoursK i ⟨okd, m, olo, ohi⟩ who).take 0)).map (acc ++ ·) ∧ J (pre ++ xs) wr ∧ KpI lo hi Y wr from by simpa using HX.out)
              obtain ⟨wo, rfl⟩ : ∃ wo : World, wo = wr := ⟨_, rfl⟩
              gi_loopw [12] (fun u X => ∃ (h : Nat) (xs : List (Value × List Kn)), (h : Int) ≤ ohi - olo + 1 ∧ u = .int .i64 (olo + (h : Int)) ∧ xs.map (·.2) = (chTo nr okd R i (f.list.drop (i + 1)) (optsTo R i ⟨okd, m, olo, ohi⟩ who ++ (hoursK i ⟨okd, m, olo, ohi⟩ who).take h)).map (acc ++ ·) ∧ J (pre ++ xs) X ∧ KpI lo hi Y X) (fun u _ => (ohi + 1 - intOf u).toNat)
              case atStart => exact ⟨0, xs, by omega, by simp, HX1.out.1, HX1.out.2.1, HX1.out.2.2⟩
              case round =>
                clear HX HX1 HEX
                obtain ⟨h, xs, hh, rfl, hx, hjx, hkx⟩ := hrel
                have HX := Lib.hid (And.intro hx (And.intro hjx hkx))
                have t3 := hkx.cell y3 (.inr hTh)
                have t1 := hkx.cell y1 (.inr hTh)
                obtain ⟨hr, hhr⟩ : ∃ hr, olo + (h : Int) = hr := ⟨_, rfl⟩
                rw [hhr]
                by_cases hlh : hr ≤ ohi
                · have Hht := Lib.hid (hours_take i ⟨okd, m, olo, ohi⟩ who h (by show (h : Int) < ohi - olo + 1; omega))
                  have Hhr := Lib.hid hhr
                  have hho : 0 ≤ hr ∧ hr ≤ 144 := by omega
                  have hEd := (HEY.out.kept hkx).kept (KpI.below (lo := lo) (hi := hi) ((Below.refl wr.heap.size wr).drew))
                  have hAd := (HAY.out.kept hkx).kept (KpI.below (lo := lo) (hi := hi) ((Below.refl wr.heap.size wr).drew))
                  have hJd := HK.out.grown hjx ((Below.refl wr.heap.size wr).drew)
                  have hS : wr.drew.cell? ⟨Tb, 1, none⟩ = some (.int .i64 (m : Int)) ∧ wr.drew.cell? ⟨Rb, 0, none⟩ = some (.int .u64 (R : Int)) ∧ wr.drew.cell? ⟨Ob, 0, none⟩ = some (.func (.func 80) #[] #[.pointer (some ⟨Fb, 0, none⟩), .pointer (some ⟨Yb, 0, none⟩), .pointer (some ⟨Kb, 0, none⟩), .pointer (some ⟨Ob, 0, none⟩), .pointer (some ⟨Rb, 0, none⟩)]) ∧ wr.drew.cell? ⟨Kb, 0, none⟩ = some (.int .i64 okd) := ⟨t1, hEd.cr, hEd.co, hEd.ck⟩
                  have HEd := Lib.hid hEd
                  have HAd := Lib.hid hAd
                  have HJd := Lib.hid hJd
                  have Hkd := Lib.hid (KpI.trans hkx (KpI.below (lo := lo) (hi := hi) ((Below.refl wr.heap.size wr).drew)))
                  clear hx hjx hkx hhr hEd hAd hJd t1
                  gi_wp2
                  clear t3
                  refine heldRegion (fun X => X.cell? ⟨Tb, 1, none⟩ = some (.int .i64 (m : Int)) ∧ X.cell? ⟨Rb, 0, none⟩ = some (.int .u64 (R : Int)) ∧ X.cell? ⟨Ob, 0, none⟩ = some (.func (.func 80) #[] #[.pointer (some ⟨Fb, 0, none⟩), .pointer (some ⟨Yb, 0, none⟩), .pointer (some ⟨Kb, 0, none⟩), .pointer (some ⟨Ob, 0, none⟩), .pointer (some ⟨Rb, 0, none⟩)]) ∧ X.cell? ⟨Kb, 0, none⟩ = some (.int .i64 okd)) (by kernel_rfl) ?_
                  obtain ⟨Xd, hXd⟩ : ∃ Xd, wr.drew = Xd := ⟨_, rfl⟩
                  rw [hXd] at HEd HAd HJd Hkd hS ⊢
                  clear hXd
                  obtain ⟨LC, hLC⟩ : ∃ LC, clipV lv = LC := ⟨_, rfl⟩
                  have hcl := fun X => clip_acc (HAd.out) X
                  rw [hLC] at hcl
                  have Hcl := Lib.hid hcl
                  have HLC := Lib.hid hLC
                  clear hcl hLC
                  refine heldTake 0 (fun _ => trivial) rfl (by kernel_rfl) (by kernel_rfl) (by kernel_rfl) (fun _ _ _ h => h) hS rfl (v := .func (.func 80) #[] #[.pointer (some ⟨Fb, 0, none⟩), .pointer (some ⟨Yb, 0, none⟩), .pointer (some ⟨Kb, 0, none⟩), .pointer (some ⟨Ob, 0, none⟩), .pointer (some ⟨Rb, 0, none⟩)]) ?x0 ?_
                  case x0 => rintro w ⟨s0, s1, s2, s3⟩; first | (go_simp; done) | (go_simp; simp [IntKind.wrap_i64, wrap64]; done) | simp [execOp, go_sem, *]
                  try simp only [Act.put, List.setIfInBounds_toArray, List.set_cons_zero, List.set_cons_succ, List.getElem_toArray, List.getElem_cons_succ, List.getElem_cons_zero]
                  refine heldTake 1 (fun _ => trivial) rfl (by kernel_rfl) (by kernel_rfl) (by kernel_rfl) (fun _ _ _ h => h) hS rfl (v := .int .i64 (i : Int)) ?x1 ?_
                  case x1 => rintro w ⟨s0, s1, s2, s3⟩; first | (go_simp; done) | (go_simp; simp [IntKind.wrap_i64, wrap64]; done) | simp [execOp, go_sem, *]
                  try simp only [Act.put, List.setIfInBounds_toArray, List.set_cons_zero, List.set_cons_succ, List.getElem_toArray, List.getElem_cons_succ, List.getElem_cons_zero]
                  refine heldTake 2 (fun _ => trivial) rfl (by kernel_rfl) (by kernel_rfl) (by kernel_rfl) (fun _ _ _ h => h) hS rfl (v := .int .i64 ((i + 1 : Nat) : Int)) ?x2 ?_
                  case x2 => rintro w ⟨s0, s1, s2, s3⟩; first | (go_simp; done) | (go_simp; simp [IntKind.wrap_i64, wrap64]; done) | simp [execOp, go_sem, *]
                  try simp only [Act.put, List.setIfInBounds_toArray, List.set_cons_zero, List.set_cons_succ, List.getElem_toArray, List.getElem_cons_succ, List.getElem_cons_zero]
                  refine heldTake 3 (fun _ => trivial) rfl (by kernel_rfl) (by kernel_rfl) (by kernel_rfl) (fun _ _ _ h => h) hS rfl (v := lv) ?x3 ?_
                  case x3 => rintro w ⟨s0, s1, s2, s3⟩; first | (go_simp; done) | (go_simp; simp [IntKind.wrap_i64, wrap64]; done) | simp [execOp, go_sem, *]
                  try simp only [Act.put, List.setIfInBounds_toArray, List.set_cons_zero, List.set_cons_succ, List.getElem_toArray, List.getElem_cons_succ, List.getElem_cons_zero]
                  refine heldTake 5 (fun _ => trivial) rfl (by kernel_rfl) (by kernel_rfl) (by kernel_rfl) (fun _ _ _ h => h) hS rfl (v := .int .i64 (i : Int)) ?x5 ?_
                  case x5 => rintro w ⟨s0, s1, s2, s3⟩; first | (go_simp; done) | (go_simp; simp [IntKind.wrap_i64, wrap64]; done) | simp [execOp, go_sem, *]
                  try simp only [Act.put, List.setIfInBounds_toArray, List.set_cons_zero, List.set_cons_succ, List.getElem_toArray, List.getElem_cons_succ, List.getElem_cons_zero]
                  refine heldTake 6 (fun _ => trivial) rfl (by kernel_rfl) (by kernel_rfl) (by kernel_rfl) (fun _ _ _ h => h) hS rfl (v := .int .i64 okd) ?x6 ?_
                  case x6 => rintro w ⟨s0, s1, s2, s3⟩; first | (go_simp; done) | (go_simp; simp [IntKind.wrap_i64, wrap64]; done) | simp [execOp, go_sem, *]
                  try simp only [Act.put, List.setIfInBounds_toArray, List.set_cons_zero, List.set_cons_succ, List.getElem_toArray, List.getElem_cons_succ, List.getElem_cons_zero]
                  refine heldTake 7 (fun _ => trivial) rfl (by kernel_rfl) (by kernel_rfl) (by kernel_rfl) (fun _ _ _ h => h) hS rfl (v := .int .i64 (who : Int)) ?x7 ?_
                  case x7 => rintro w ⟨s0, s1, s2, s3⟩; first | (go_simp; done) | (go_simp; simp [IntKind.wrap_i64, wrap64]; done) | simp [execOp, go_sem, *]
                  try simp only [Act.put, List.setIfInBounds_toArray, List.set_cons_zero, List.set_cons_succ, List.getElem_toArray, List.getElem_cons_succ, List.getElem_cons_zero]
                  refine heldTake 8 (fun _ => trivial) rfl (by kernel_rfl) (by kernel_rfl) (by kernel_rfl) (fun _ _ _ h => h) hS rfl (v := .int .i64 hr) ?x8 ?_
                  case x8 => rintro w ⟨s0, s1, s2, s3⟩; first | (go_simp; done) | (go_simp; simp [IntKind.wrap_i64, wrap64]; done) | simp [execOp, go_sem, *]
                  try simp only [Act.put, List.setIfInBounds_toArray, List.set_cons_zero, List.set_cons_succ, List.getElem_toArray, List.getElem_cons_succ, List.getElem_cons_zero]
                  refine heldCall 4 81 #[lv] (fun _ => trivial) (by simp [Fence.wide]) rfl (by kernel_rfl) (by kernel_rfl) (by kernel_rfl) (fun _ _ _ h => h) hS rfl (v := LC) ?y4 (fun w _ => callsIn_wide.2 (Hcl.out w)) ?_
                  case y4 => rintro w ⟨s0, s1, s2, s3⟩; first | (go_simp; done) | simp [execOp, go_sem, enters_of Try.func81 (by kernel_rfl) rfl]
                  try simp only [Act.put, List.setIfInBounds_toArray, List.set_cons_zero, List.set_cons_succ, List.getElem_toArray, List.getElem_cons_succ, List.getElem_cons_zero]
                  refine heldTake 9 (fun _ => trivial) rfl (by kernel_rfl) (by kernel_rfl) (by kernel_rfl) (fun _ _ _ h => h) hS rfl (v := .agg #[.int .i64 (i : Int), .int .i64 okd, .int .i64 (who : Int), .int .i64 hr]) ?x9 ?_
                  case x9 => rintro w ⟨s0, s1, s2, s3⟩; first | (go_simp; done) | (go_simp; simp [IntKind.wrap_i64, wrap64]; done) | simp [execOp, go_sem, *]
                  try simp only [Act.put, List.setIfInBounds_toArray, List.set_cons_zero, List.set_cons_succ, List.getElem_toArray, List.getElem_cons_succ, List.getElem_cons_zero]
                  refine heldNext 10 (by kernel_rfl) rfl rfl (fun K hK => ?_)
                  gi_wp2
                  obtain ⟨Ab, hAb⟩ : ∃ Ab, Xd.heap.size = Ab := ⟨_, rfl⟩
                  obtain ⟨Y1, hY1⟩ : ∃ Y1, Xd.alloc (.cells #[.int .i64 (i : Int), .int .i64 okd, .int .i64 (who : Int), .int .i64 hr] 103) = Y1 := ⟨_, rfl⟩
                  have hbY1 : Below Xd.heap.size Xd Y1 := by rw [← hY1]; exact (Below.refl _ _).alloc (Nat.le_refl _) _
                  have hcells : ∀ j, j < 4 → Y1.cell? ⟨Ab, j, none⟩ = some (.int .i64 (cKn (⟨i, okd, who, hr⟩) j)) := fun j hj => by
                    have hc : j = 0 ∨ j = 1 ∨ j = 2 ∨ j = 3 := by omega
                    rw [← hY1, ← hAb]
                    rcases hc with rfl | rfl | rfl | rfl <;> exact cellN rfl rfl
                  have hE1 := (HEd.out).kept (KpI.below (lo := lo) (hi := hi) hbY1)
                  have hA1 := (HAd.out).kept (KpI.below (lo := lo) (hi := hi) hbY1)
                  have hJ1 := HK.out.grown (HJd.out) hbY1
                  have hS1 : Y1.cell? ⟨Tb, 1, none⟩ = some (.int .i64 (m : Int)) ∧ Y1.cell? ⟨Rb, 0, none⟩ = some (.int .u64 (R : Int)) ∧ Y1.cell? ⟨Ob, 0, none⟩ = some (.func (.func 80) #[] #[.pointer (some ⟨Fb, 0, none⟩), .pointer (some ⟨Yb, 0, none⟩), .pointer (some ⟨Kb, 0, none⟩), .pointer (some ⟨Ob, 0, none⟩), .pointer (some ⟨Rb, 0, none⟩)]) ∧ Y1.cell? ⟨Kb, 0, none⟩ = some (.int .i64 okd) := ⟨Below.cellSome hbY1 hS.1, hE1.cr, hE1.co, hE1.ck⟩
                  try rw [hY1]
                  try rw [hAb]
                  refine hK _ _ (fun _ => hS1) ?_
                  clear hK K
                  try simp only [Act.put, List.setIfInBounds_toArray, List.set_cons_zero, List.set_cons_succ, List.getElem_toArray, List.getElem_cons_succ, List.getElem_cons_zero]
                  obtain ⟨v57, Z, hap, hA2, hbZ⟩ := append_kn hA1 (by have := HO.out.len; omega) hE1.hs LC HLC.out.symm (⟨i, okd, who, hr⟩) Ab hcells
                  have hE2 := hE1.kept (KpI.below (lo := lo) (hi := hi) hbZ)
                  have hJ2 := HK.out.grown hJ1 hbZ
                  have hS2 : Z.cell? ⟨Tb, 1, none⟩ = some (.int .i64 (m : Int)) ∧ Z.cell? ⟨Rb, 0, none⟩ = some (.int .u64 (R : Int)) ∧ Z.cell? ⟨Ob, 0, none⟩ = some (.func (.func 80) #[] #[.pointer (some ⟨Fb, 0, none⟩), .pointer (some ⟨Yb, 0, none⟩), .pointer (some ⟨Kb, 0, none⟩), .pointer (some ⟨Ob, 0, none⟩), .pointer (some ⟨Rb, 0, none⟩)]) ∧ Z.cell? ⟨Kb, 0, none⟩ = some (.int .i64 okd) := ⟨Below.cellSome hbZ hS1.1, hE2.cr, hE2.co, hE2.ck⟩
                  have HC := Lib.hid (H.out (i + 1) v57 (acc ++ [⟨i, okd, who, hr⟩]) (pre ++ xs) Z (by omega) hJ2 hE2 hA2 (HO.out.more (k := ⟨i, okd, who, hr⟩) rfl ⟨hk0, hk1⟩ hho))
                  have HkZ := Lib.hid ((KpI.below (lo := lo) (hi := hi) hbY1).trans (KpI.below (lo := lo) (hi := hi) hbZ))
                  have HE2 := Lib.hid hE2
                  refine heldNext 11 (by kernel_rfl) rfl rfl (fun K hK => ?_)
                  try simp only [List.getElem_toArray, List.getElem_cons_succ, List.getElem_cons_zero]
                  refine wpIn_append_run (fun _ => trivial) _ (.tmp 92) (.tmp 98) 101 101 rfl LC (.slice (some ⟨Ab, 0, none⟩) 1 1) rfl rfl hap ?_
                  refine hK _ _ (fun _ => hS2) ?_
                  clear hK K
                  try simp only [Act.put, List.setIfInBounds_toArray, List.set_cons_zero, List.set_cons_succ, List.getElem_toArray, List.getElem_cons_succ, List.getElem_cons_zero]
                  clear hap hA2 hbZ hE1 hA1 hJ1 hJ2 hS1 hbY1 hcells hE2 hAb hY1
                  refine heldNext 12 (by kernel_rfl) rfl rfl (fun K hK => ?_)
                  gi_wp2_with (refine ⟨trivial, ?_⟩; gi_at_call 80; refine (callsIn_wide.2 HC.out).mono ?_; rintro e W3 ⟨rfl, ys, hy1, hy2, hy3⟩)
                  have hE3 := HE2.out.kept hy3
                  have hS3 : W3.cell? ⟨Tb, 1, none⟩ = some (.int .i64 (m : Int)) ∧ W3.cell? ⟨Rb, 0, none⟩ = some (.int .u64 (R : Int)) ∧ W3.cell? ⟨Ob, 0, none⟩ = some (.func (.func 80) #[] #[.pointer (some ⟨Fb, 0, none⟩), .pointer (some ⟨Yb, 0, none⟩), .pointer (some ⟨Kb, 0, none⟩), .pointer (some ⟨Ob, 0, none⟩), .pointer (some ⟨Rb, 0, none⟩)]) ∧ W3.cell? ⟨Kb, 0, none⟩ = some (.int .i64 okd) := ⟨hy3.cell hS2.1 (.inr hTh), hE3.cr, hE3.co, hE3.ck⟩
                  have Hy := Lib.hid (And.intro hy1 (And.intro hy2 (HkZ.out.trans hy3)))
                  refine hK _ _ (fun _ => hS3) ?_
                  clear hK K
                  try simp only [Act.put, List.setIfInBounds_toArray, List.set_cons_zero, List.set_cons_succ, List.getElem_toArray, List.getElem_cons_succ, List.getElem_cons_zero]
                  clear hS2 hy1 hy2 hy3 HC HkZ HE2 hE3
                  refine heldTake 13 (fun _ => trivial) rfl (by kernel_rfl) (by kernel_rfl) (by kernel_rfl) (fun _ _ _ h => h) hS3 rfl (v := .bool false) ?x13 ?_
                  case x13 => rintro w ⟨s0, s1, s2, s3⟩; first | (go_simp; done) | (go_simp; simp [IntKind.wrap_i64, wrap64]; done) | simp [execOp, go_sem, *]
                  try simp only [Act.put, List.setIfInBounds_toArray, List.set_cons_zero, List.set_cons_succ, List.getElem_toArray, List.getElem_cons_succ, List.getElem_cons_zero]
                  refine heldDone (by kernel_rfl) ?_ _
                  clear hS hS3
                  gi_wp2
                  go_roundw
                  case rel => exact ⟨h + 1, xs ++ ys, by have := Hhr.out; omega, by have := Hhr.out; rw [← this]; push_cast; rw [Int.add_assoc], by
                    rw [Hht.out, ← List.append_assoc, Hhr.out, List.map_append]
                    exact chTo_one HX.out.1 (by rw [Hy.out.1]; push_cast; rfl), by rw [← List.append_assoc]; exact Hy.out.2.1, Hkd.out.trans Hy.out.2.2⟩
                  case measure => simp [intOf]; omega
                · have Hall := Lib.hid (hours_all i ⟨okd, m, olo, ohi⟩ who h (by show ohi - olo + 1 ≤ (h : Int); omega))
                  clear hx hjx hkx t1 hhr
                  gi_wp2
                  first
                    | (exact ⟨⟨_, _, _, .int .i64 ((who : Int) + 1), ⟨who + 1, by omega, by push_cast; rfl, xs, by rw [Hst.out]; have := HX.out.1; rw [Hall.out] at this; simpa using this, HX.out.2.1, HX.out.2.2⟩, rfl, rfl, rfl, rfl⟩, by simp [intOf]; omega⟩)
                    | (go_roundw
                       case rel => exact ⟨who + 1, xs, by omega, by go_num, by rw [Hst.out]; have := HX.out.1; rw [Hall.out] at this; simpa using this, HX.out.2.1, HX.out.2.2⟩
                       case measure => simp [intOf]; omega)
                    | exact ⟨⟨who + 1, xs, by omega, by push_cast; rfl, by rw [Hst.out]; have := HX.out.1; rw [Hall.out] at this; simpa using this, HX.out.2.1, HX.out.2.2⟩, by simp [intOf]; omega⟩
                    | fail
          · have hwn : who = nr := by omega
            subst hwn
            gi_wp2
            simp only [Exit.noGoto]
            exact bodyPost_ret (results_tmp rfl _ _ _) rfl ⟨rfl, xs, by rw [Hc.out]; exact HX.out.1, HX.out.2.1, HkY.out.trans HX.out.2.2⟩
end Go.Proofs.Ytjmobepipfbbnaa
