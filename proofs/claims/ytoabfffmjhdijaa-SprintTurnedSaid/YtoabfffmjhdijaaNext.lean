import Derived.Test.YtoabfffmjhdijaaLook
import Derived.Test.YtoabfffmjhdijaaCard
import Derived.Test.YtoabfffmjhdijaaHeld
import Derived.RangeFuncNested
import Derived.RangeFuncBound
import Derived.RangeFuncCalls
import Derived.RangeFuncLeaves
import Derived.Shelf.Abstract
import Derived.Shelf.RegionOpen
import Derived.TacticsInMore
import Derived.LoopNIn
import Derived.LoopIn
import Derived.Sort.QuietIn
/- next of package sprint: all pairs that can come on the next place. -/
set_option linter.unusedSimpArgs false
set_option linter.unusedVariables false
namespace Go.Proofs.Ytoabfffmjhdijaa
open Go.RowKit Go.Shelf
attribute [local go_sem] Oper.semAt_some

/-- Whether a pair can come next. -/
def okN (places before : Nat → Nat) (come p : Nat) : Bool := !come.testBit p && decide (diff (before p) come = 0) && (places p).testBit (card come)
/-- Who can come next, of the first k pairs. -/
def cand (places before : Nat → Nat) (come k : Nat) : List Nat := (List.range k).filter (okN places before come)
theorem cand_step (places before : Nat → Nat) (come k : Nat) : cand places before come (k + 1) = if okN places before come k then cand places before come k ++ [k] else cand places before come k := by
  unfold cand; rw [List.range_succ, List.filter_append]
  cases h : okN places before come k <;> simp [h]
theorem cand_prefix (places before : Nat → Nat) (come : Nat) {k m : Nat} (h : k ≤ m) : cand places before come k <+: cand places before come m := by
  unfold cand
  obtain ⟨d, rfl⟩ : ∃ d, m = k + d := ⟨m - k, by omega⟩
  rw [List.range_add, List.filter_append]
  exact List.prefix_append _ _

/-- Those who can come next. -/
abbrev Can (places before : Nat → Nat) (come pairs : Nat) : Type := { p : Nat // p < pairs ∧ okN places before come p = true }
/-- What next's iterator has captured. -/
structure NextAt (w : World) (N B come : Nat) : Prop where
  r : w.cell? ⟨N, 0, none⟩ = some (.pointer (some ⟨B, 0, none⟩))
  c : w.cell? ⟨N + 1, 0, none⟩ = some (.int .u64 come)
  p : w.cell? ⟨N + 1 + 1, 0, none⟩ = some (.int .i64 (card come))
/-- The world behind next. -/
def nextW (w : World) (B come : Nat) : World := ((w.alloc (.cells #[.pointer (some ⟨B, 0, none⟩)] 79)).alloc (.cells #[.int .u64 come] 87)).alloc (.cells #[.int .i64 (card come)] 3)
theorem nextW_below (w : World) (B come : Nat) : Below w.heap.size w (nextW w B come) := (((Below.refl _ _).alloc (Nat.le_refl _) _).alloc (by simp) _).alloc (by simp; omega) _
theorem nextW_size (w : World) (B come : Nat) : (nextW w B come).heap.size = w.heap.size + 1 + 1 + 1 := by simp [nextW]
theorem nextW_at (w : World) (B come : Nat) : NextAt (nextW w B come) w.heap.size B come :=
  ⟨cellP (cellP (cellN rfl rfl) _) _, cellP (cellN (by simp) rfl) _, cellN (by simp) rfl⟩

theorem next_any (B come : Nat) (hc : come < 64) (w : World) :
    Calls Try.prog 58 #[.pointer (some ⟨B, 0, none⟩), .int .u64 come] w fun e w' => e = .returned (.func (.func 89) #[] #[.pointer (some ⟨w.heap.size, 0, none⟩), .pointer (some ⟨w.heap.size + 1, 0, none⟩), .pointer (some ⟨w.heap.size + 1 + 1, 0, none⟩)]) ∧
      nextW w B come = w' := by
  have hmf : ∀ (fn : Fn) (first cap : Array Value) (w : World), (Instr.makeFunc fn first cap).run Try.prog w = .ok (.func fn first cap) w := fun _ _ _ _ => rfl
  go_enter Try.func58, Try.ntmps58
  go_wp2_with (go_at_call 88; refine (ones_any come (by omega) _).mono ?_; rintro e w' ⟨rfl, rfl⟩)
  go_ret
  exact ⟨rfl, rfl⟩

/-- What a round keeps: the cells of four blocks. -/
def Kp4 (N B : Nat) (W W' : World) : Prop := W.heap.size ≤ W'.heap.size ∧ ∀ a : Addr, (a.block = N ∨ a.block = N + 1 ∨ a.block = N + 1 + 1 ∨ a.block = B) → W'.cell? a = W.cell? a
theorem Kp4.trans {N B : Nat} {X Y Z : World} (h : Kp4 N B X Y) (k : Kp4 N B Y Z) : Kp4 N B X Z := ⟨Nat.le_trans h.1 k.1, fun a ha => (k.2 a ha).trans (h.2 a ha)⟩
theorem Kp4.refl (N B : Nat) (X : World) : Kp4 N B X X := ⟨Nat.le_refl _, fun _ _ => rfl⟩
theorem kp4_putObj {N B : Nat} (W : World) {l : Nat} (o' : Obj) (h1 : N + 1 + 1 < l) (h2 : B < l) : Kp4 N B W (W.putObj l o') :=
  ⟨by simp [World.putObj], fun a ha => World.cell?_of_block (World.putObj_heap_other (by omega))⟩
/-- What next's iterator reads. -/
structure RunR (w : World) (B : Nat) (pairs : Nat) (places before : Nat → Nat) : Prop where
  c3 : w.cell? ⟨B, 3, none⟩ = some (.int .i64 pairs)
  pl : ∀ i, i < 6 → w.cell? ⟨B, 10 + i, none⟩ = some (.int .u64 (places i))
  be : ∀ i, i < 6 → w.cell? ⟨B, 16 + i, none⟩ = some (.int .u64 (before i))
theorem RunR.kept {w w' : World} {N B pairs : Nat} {places before : Nat → Nat} (h : RunR w B pairs places before) (hk : Kp4 N B w w') : RunR w' B pairs places before :=
  ⟨(hk.2 _ (by simp)).trans h.c3, fun i hi => (hk.2 _ (by simp)).trans (h.pl i hi), fun i hi => (hk.2 _ (by simp)).trans (h.be i hi)⟩
theorem NextAt.kept {w w' : World} {N B come : Nat} (h : NextAt w N B come) (hk : Kp4 N B w w') : NextAt w' N B come :=
  ⟨(hk.2 _ (by simp)).trans h.r, (hk.2 _ (by simp)).trans h.c, (hk.2 _ (by simp)).trans h.p⟩
theorem Kp4.below {N B n : Nat} {w w' : World} (h : Below n w w') (h1 : N + 1 + 1 < n) (h2 : B < n) : Kp4 N B w w' :=
  ⟨h.size, fun a ha => h.cell (p := a) (by omega)⟩
theorem Kp4.drew {N B : Nat} {w : World} : Kp4 N B w w.drew := ⟨Nat.le_refl _, fun _ _ => rfl⟩

theorem Kp4.drewN {N B : Nat} {w : World} (n : Nat) : Kp4 N B w (w.drewN n) := ⟨Nat.le_refl _, fun _ _ => rfl⟩
theorem World.grownBy_drewN (w : World) (n : Nat) (row : Option Nat) : w.grownBy (w.drewN n) row := ⟨rfl, rfl, rfl, Nat.le_refl _, fun _ _ _ => rfl⟩
theorem cand_length (places before : Nat → Nat) (come k : Nat) : (cand places before come k).length ≤ k := by
  unfold cand
  exact Nat.le_trans (List.length_filter_le _ _) (by simp)

set_option maxRecDepth 100000 in
set_option maxHeartbeats 1000000 in
theorem next_stops (n : Nat) (hn : 1 ≤ n) (N B come pairs : Nat) (hp : pairs ≤ 6) (hc : come < 64) (places before : Nat → Nat) (hpl : ∀ i, U64 (places i)) (hbe : ∀ i, U64 (before i)) (w : World)
    (hA : NextAt w N B come) (hR : RunR w B pairs places before) (hBN : B < N) :
    SeqStopsK Fence.wide n Try.prog 89 #[.pointer (some ⟨N, 0, none⟩), .pointer (some ⟨N + 1, 0, none⟩), .pointer (some ⟨N + 1 + 1, 0, none⟩)] (fun p : Can places before come pairs => #[.int .i64 p.1]) (Kp4 N B)
      (fun xs => xs.map (·.1) = cand places before come pairs) (fun pre => ∃ k, k < pairs ∧ okN places before come k = true ∧ pre.map (·.1) = cand places before come (k + 1)) 6 w := by
  intro l J Jx W hW hJ hJx hY h0
  have hN := lt_of_cell hA.p
  have hK : Kp4 N B w W := Kp4.below hW hN (by omega)
  replace hA := hA.kept hK
  replace hR := hR.kept hK
  have huc : U64 come := U64.of hc (by omega)
  have hcd : card come < 64 := Nat.lt_of_le_of_lt (card_le hc) (by omega)
  refine callsIn_of_wp Try.func89 rfl trivial ?_ rfl
  simp only [Try.ntmps89, List.size_toArray, List.length_cons, List.length_nil, Nat.reduceAdd, Nat.reduceSub, Array.replicate_succ, Array.replicate_zero, List.push_toArray, List.append_toArray, List.nil_append, List.cons_append]
  obtain ⟨a1, a2, a3⟩ := hA
  have r3 := hR.c3
  apply scopeIn
  apply wpIn_seq_k
  intro _ _
  apply wpIn_label
  gi_wp2
  gi_loopw [10] (fun i wr => ∃ (k : Nat) (pre : List (Can places before come pairs)), k ≤ pairs ∧ i = .int .i64 k ∧ pre.map (·.1) = cand places before come k ∧ J pre wr ∧ Kp4 N B W wr ∧ W.heap.size ≤ wr.heap.size) (fun i _ => pairs - (intOf i).toNat)
  case atStart => exact ⟨0, [], Nat.zero_le _, rfl, rfl, h0, Kp4.refl _ _ _, Nat.le_refl _⟩
  case round =>
    obtain ⟨k, pre, hk, rfl, hpre, hj, hkp, hsz⟩ := hrel
    have Hpre := Lib.hid hpre; clear hpre
    have b1 := (hkp.2 ⟨N, 0, none⟩ (by simp)).trans a1
    have b2 := (hkp.2 ⟨N + 1, 0, none⟩ (by simp)).trans a2
    have b3 := (hkp.2 ⟨N + 1 + 1, 0, none⟩ (by simp)).trans a3
    have Hkp := Lib.hid hkp; clear hkp
    by_cases hlt : k < pairs
    · have hpk := (hR.kept Hkp.out).pl k (by omega)
      have hbk := (hR.kept Hkp.out).be k (by omega)
      have hk6 : (k : Int) < 6 := by omega
      have hupk := hpl k
      have hubk := hbe k
      cases t1 : come.testBit k
      · by_cases t2 : diff (before k) come = 0
        · have t2' : (((diff (before k) come : Nat) : Int) != 0) = false := by simp [t2]
          cases t3 : (places k).testBit (card come)
          · have Hst := Lib.hid (show cand places before come (k + 1) = cand places before come k by rw [cand_step]; simp [okN, t3])
            clear t2
            gi_wp2
            gi_quiet (fail)
            gi_wp2
            go_roundw
            case rel => exact ⟨k + 1, pre, by omega, by go_num, by rw [Hst.out]; exact Hpre.out, hJ _ _ _ none hj (World.grownBy_drewN _ _ _) (by simp), Hkp.out.trans (Kp4.drewN _), hsz⟩
            case measure => simp [intOf]; omega
          · have hok : okN places before come k = true := by simp [okN, t1, t2, t3]
            have Hst := Lib.hid (show cand places before come (k + 1) = cand places before come k ++ [k] by rw [cand_step, hok]; rfl)
            have Hok := Lib.hid hok; clear hok t2
            have hlen : pre.length < 6 := by
              have := cand_length places before come k
              rw [← Hpre.out, List.length_map] at this; omega
            have HY := Lib.hid (fun nq => hY pre ⟨k, hlt, Hok.out⟩ (wr.drewN nq) (hJ _ _ _ none hj (World.grownBy_drewN _ _ _) (by simp)) hlen)
            gi_wp2
            gi_quiet (fail)
            obtain ⟨fn, tmps, assign, body, hy, hRd⟩ := HY.out nq
            gi_wp2
            refine hRd.mono ?_
            rintro e W3 (⟨rfl, hj3, hk3⟩ | ⟨rfl, hjx3⟩)
            · gi_wp2
              go_roundw
              case rel => exact ⟨k + 1, pre ++ [⟨k, hlt, Hok.out⟩], by omega, by go_num, by rw [Hst.out, List.map_append, Hpre.out]; rfl, hj3, (Hkp.out.trans (Kp4.drewN nq)).trans hk3, Nat.le_trans hsz hk3.1⟩
              case measure => simp [intOf]; omega
            · gi_wp2
              simp only [Exit.noGoto]
              refine bodyPost_ret (results_none rfl _ _ _) rfl ?_
              exact ⟨⟨_, rfl⟩, .inr ⟨_, ⟨k, hlt, Hok.out, by rw [Hst.out, List.map_append, Hpre.out]; rfl⟩, hjx3⟩⟩
        · have t2' : (((diff (before k) come : Nat) : Int) != 0) = true := by simp [t2]
          have Hst := Lib.hid (show cand places before come (k + 1) = cand places before come k by rw [cand_step]; simp [okN, t2])
          clear t2
          gi_wp2
          gi_quiet (fail)
          gi_wp2
          go_roundw
          case rel => exact ⟨k + 1, pre, by omega, by go_num, by rw [Hst.out]; exact Hpre.out, hJ _ _ _ none hj (World.grownBy_drewN _ _ _) (by simp), Hkp.out.trans (Kp4.drewN _), hsz⟩
          case measure => simp [intOf]; omega
      · have Hst := Lib.hid (show cand places before come (k + 1) = cand places before come k by rw [cand_step]; simp [okN, t1])
        gi_wp2
        gi_quiet (fail)
        gi_wp2
        go_roundw
        case rel => exact ⟨k + 1, pre, by omega, by go_num, by rw [Hst.out]; exact Hpre.out, hJ _ _ _ none hj (World.grownBy_drewN _ _ _) (by simp), Hkp.out.trans (Kp4.drewN _), hsz⟩
        case measure => simp [intOf]; omega
    · obtain rfl : k = pairs := by omega
      clear hlt hk
      gi_wp2
      simp only [Exit.noGoto]
      go_end0
      exact ⟨⟨_, rfl⟩, .inl ⟨_, Hpre.out, hj⟩⟩
/-- A loop over a function with one loop variable, that is assigned to one temporary. -/
theorem rangeG {α : Type} {F : Fence} {n : Nat} {P : Program} (p d : Nat) {g : Operand} {assign body : Code} {Q : Exit → Act → World → Prop} {a : Act} {w : World}
    (hro : F.round = none) (h1 : 1 ≤ n) {gf : Nat} {lb : Array Value} (hg : a.eval g = .func (.func gf) #[] lb) (hFg : F.fn gf) (eg : ∀ args w, (callFunc gf args).run P w = .ok (.enter gf args) w)
    {enc : α → Value} {Kp : World → World → Prop} {S Sp : List α → Prop} {N : Nat} {w0 : World} (hseq : SeqStopsK F (n - 1) P gf lb (fun x => #[enc x]) Kp S Sp N w0)
    (hKt : ∀ {A B C : World}, Kp A B → Kp B C → Kp A C) (hKb : ∀ (W : World) (l : Nat) (o o' : Obj), w.heap.size ≤ l → W.heap[l]? = some o → o.isCells = false → o.isWalk = false → Kp W (W.putObj l o')) (hb0 : Below w0.heap.size w0 w)
    (I : List α → World → Prop) (Ix : Code → List α → World → Prop) (hI : OwnFrom w.heap.size I) (hIx : ∀ c, OwnFrom w.heap.size (Ix c)) (h0 : I [] w)
    (hassign : ∀ (l : Nat) (x : α) (W : World) (K : Act → World → Prop), K { tmps := (a.tmps.setIfInBounds p (enc x)).setIfInBounds d (enc x), defers := [] } W →
      assign.wpIn (F.inRound l) (n - 1 - 1) P (Exit.then K (fun _ _ _ => False)) { tmps := a.tmps.setIfInBounds p (enc x), defers := [] } W)
    (hbody : ∀ (l : Nat) (pre : List α) (x : α) (W : World), I pre W → pre.length < N → body.wpIn (F.inRound l) (n - 1 - 1) P (ownPostG w.heap.size Kp I Ix (pre ++ [x]) W) { tmps := (a.tmps.setIfInBounds p (enc x)).setIfInBounds d (enc x), defers := [] } W)
    (hdone : ∀ (D : Nat) (xs : List α) (W : World), w.heap.size ≤ D → S xs → I xs W → W.heap[D]? = some (.deferred (some [])) → Q .normal { a with defers := { target := .collected D, args := #[] } :: a.defers } W)
    (hstop : ∀ (D : Nat) (c : Code) (pre : List α) (W : World), w.heap.size ≤ D → Sp pre → Ix c pre W → W.heap[D]? = some (.deferred (some [])) → c.wpIn F n P Q { a with defers := { target := .collected D, args := #[] } :: a.defers } W) :
    (Code.rangeFunc g #[p] assign body).wpIn F n P Q a w :=
  wpIn_rangeFunc_ownG hro h1 hg hFg eg hseq hKt hKb hb0 (fun _ => rfl) I Ix hI hIx h0 (fun x => { tmps := (a.tmps.setIfInBounds p (enc x)).setIfInBounds d (enc x), defers := [] }) (fun l x W K hK => by simpa using hassign l x W K hK) hbody hdone hstop
end Go.Proofs.Ytoabfffmjhdijaa
