import Derived.Test.YtoabfffmjhdijaaEnds3
import Derived.OneCell
/- runs of package sprint: all sprints, looked at. -/
set_option linter.unusedSimpArgs false
set_option linter.unusedVariables false
namespace Go.Proofs.Ytoabfffmjhdijaa
open Go.RowKit Go.Shelf

/-- A run in memory, as far as it is asked later. -/
structure RunL (w : World) (B : Nat) (s : Sps) (x : Spr) : Prop where
  r : RunW w B s.pairs.toNat (worthK s.points x.double s.points.length) (placeK s.pairs.toNat (every x) x.ahead.length x.places x.places.length) (beforeK (every x) x.ahead x.ahead.length)
  c : ∃ a n c, w.cell? ⟨B, 0, none⟩ = some (.slice a n c)
theorem IsRun.toL {w : World} {B : Nat} {s : Sps} {x : Spr} (h : IsRun w B s x (every x)) (hg : Good s) : RunL w B s x := by
  obtain ⟨a1, c1, a2, c2, hR, _, _⟩ := h
  have hp := hg.p1
  have hpn : s.pairs = (s.pairs.toNat : Int) := by omega
  have hR' := hR
  rw [hpn] at hR'
  exact ⟨⟨hR'.r, hR'.wo⟩, _, _, _, hR.c0⟩
theorem RunL.lt {w : World} {B : Nat} {s : Sps} {x : Spr} (h : RunL w B s x) : B < w.heap.size := lt_of_cell h.r.r.c3
theorem RunL.block {w w' : World} {B : Nat} {s : Sps} {x : Spr} (h : RunL w B s x) (hb : w'.heap[B]? = w.heap[B]?) : RunL w' B s x := by
  have hc : ∀ {o : Nat} {v : Value}, w.cell? ⟨B, o, none⟩ = some v → w'.cell? ⟨B, o, none⟩ = some v := fun {o v} h => by rw [World.cell?_of_block hb]; exact h
  obtain ⟨⟨⟨h1, h2, h3⟩, h4⟩, a, n, c, h5⟩ := h
  exact ⟨⟨⟨hc h1, fun i hi => hc (h2 i hi), fun i hi => hc (h3 i hi)⟩, fun i hi => hc (h4 i hi)⟩, a, n, c, hc h5⟩
theorem RunL.below {w w' : World} {B : Nat} {s : Sps} {x : Spr} (h : RunL w B s x) (hb : Below w.heap.size w w') : RunL w' B s x := h.block (hb.block B h.lt)
theorem RunL.ends {w : World} {B : Nat} {s : Sps} {x : Spr} (h : RunL w B s x) (hg : Good s) (hx : GoodX s x) {va : Value} {f : Nat → Int → Int} (hva : Asks va f)
    (hf : ∀ p c, 0 ≤ c ∧ c ≤ 100 → -100 ≤ f p c ∧ f p c ≤ 100) :
    Calls Try.prog 90 #[.pointer (some ⟨B, 0, none⟩), va] w fun e w' => e = .returned (pairV (endsX f s x (every x))) ∧ Below w.heap.size w w' := by
  have hp := hg.p1
  have hp6 := hg.p6
  refine ends_any s.pairs.toNat (by omega) _ _ (fun i => placeK_u64 _ _ _ (by omega) _ _ _) (fun i => beforeK_u64 _ _ (fun j hj => ?_) _ (Nat.le_refl _) _) f _ (fun i => worthK_bound hg.gp _ _ i) (fun p i => hf p _ (worthK_bound hg.gp _ _ i)) va hva B w h.r
  have := hx.ah j hj
  omega

/-- Runs in a slice. -/
def ptrs (Bs : Nat → Nat) (k : Nat) : List Value := (List.range k).map fun i => .pointer (some ⟨Bs i, 0, none⟩)
theorem ptrs_length (Bs : Nat → Nat) (k : Nat) : (ptrs Bs k).length = k := by simp [ptrs]
theorem ptrs_snoc (Bs : Nat → Nat) (k B : Nat) : ptrs Bs k ++ [.pointer (some ⟨B, 0, none⟩)] = ptrs (fun i => if i = k then B else Bs i) (k + 1) := by
  unfold ptrs
  rw [List.range_succ, List.map_append]
  simp only [List.map_cons, List.map_nil, if_true]
  congr 1
  refine List.map_congr_left fun i hi => ?_
  have := List.mem_range.1 hi
  rw [if_neg (by omega)]
structure RunsAt (w : World) (base : Nat) (v : Value) (s : Sps) (k : Nat) (Bs : Nat → Nat) : Prop where
  own : w.ownsRow base 79 1 v k (ptrs Bs k)
  run : ∀ i (h : i < s.list.length), i < k → RunL w (Bs i) s s.list[i]
  ne : ∀ i, i < k → v.ownBlock ≠ some (Bs i)
theorem RunsAt.below {w w' : World} {base : Nat} {v : Value} {s : Sps} {k : Nat} {Bs : Nat → Nat} (h : RunsAt w base v s k Bs) (hb : Below w.heap.size w w') : RunsAt w' base v s k Bs :=
  ⟨h.own.kept (row := none) ⟨hb.os, hb.tape, hb.output, hb.size, fun k hk _ => hb.block k hk⟩ (by
      cases v.ownBlock with
      | none => exact .inl rfl
      | some b => exact .inr (by simp)), fun i h1 h2 => (h.run i h1 h2).below hb, h.ne⟩
theorem RunsAt.push {w w' : World} {base : Nat} {v v' : Value} {s : Sps} {k B : Nat} {Bs : Nat → Nat} (h : RunsAt w base v s k Bs) (hr : ∀ h : k < s.list.length, RunL w B s s.list[k]) (hk : k < s.list.length) (hne : v.ownBlock ≠ some B)
    (hown : w'.ownsRow base 79 1 v' (k + 1) (ptrs Bs k ++ [.pointer (some ⟨B, 0, none⟩)])) (hg : w.grownBy w' v.ownBlock) : RunsAt w' base v' s (k + 1) (fun i => if i = k then B else Bs i) := by
  have hrun : ∀ i (h : i < s.list.length), i < k + 1 → RunL w' (if i = k then B else Bs i) s s.list[i] := by
    intro i hi hik
    by_cases e : i = k
    · subst e
      rw [if_pos rfl]
      exact (hr hi).block (hg.block B (hr hi).lt (fun e => hne e.symm))
    · rw [if_neg e]
      have h1 := h.run i hi (by omega)
      exact h1.block (hg.block _ h1.lt (fun e' => h.ne i (by omega) e'.symm))
  refine ⟨by rw [← ptrs_snoc]; exact hown, hrun, fun i hi he => ?_⟩
  obtain ⟨a, n, c, hc⟩ := (hrun i (by omega) hi).c
  obtain ⟨a', n', c', hc0⟩ := (hrun 0 (by omega) (by omega)).c
  have h0 := hown.cells he 0
  have hne0 : ptrs Bs k ++ [.pointer (some ⟨B, 0, none⟩)] = ptrs (fun i => if i = k then B else Bs i) (k + 1) := ptrs_snoc _ _ _
  rw [hne0] at h0
  have h1 := h0 (.pointer (some ⟨if 0 = k then B else Bs 0, 0, none⟩)) (by simp [ptrs])
  have e0 : (⟨(if i = k then B else Bs i), 0, none⟩ : Addr).add 0 = ⟨(if i = k then B else Bs i), 0, none⟩ := by simp [Addr.add]
  rw [e0, hc] at h1
  cases h1

theorem ptrInfo : (Try.prog.info? 79).map (fun i => (i.zero, i.size, i.bytes)) = some (some (.pointer none), 1, 8) := by kernel_rfl
theorem und98 : Try.prog.underlying 98 = some (.slice 79) := by kernel_rfl

/-- Has some sprint no order? -/
def noOrder (s : Sps) (x : Spr) : Bool := waysX s x (every x) == 0
def clash (s : Sps) : Bool := s.list.any (noOrder s)
def runsPost (s : Sps) (b : Bool) (w : World) (e : Ending) (w' : World) : Prop :=
  Below w.heap.size w w' ∧ (goodSps s = false ∧ e = .panicked (fail 1) ∨ goodSps s = true ∧ b = false ∧ e = .panicked (fail 2) ∨ goodSps s = true ∧ b = true ∧ clash s = true ∧ e = .panicked (fail 10) ∨
    goodSps s = true ∧ b = true ∧ clash s = false ∧ ∃ v Bs, e = .returned v ∧ RunsAt w' (w.heap.size + 1) v s s.list.length Bs)
theorem any_step {α : Type} (f : α → Bool) (l : List α) (k : Nat) (h : k < l.length) : (l.drop k).any f = (f l[k] || (l.drop (k + 1)).any f) := by
  rw [List.drop_eq_getElem_cons h, List.any_cons]

set_option maxRecDepth 100000 in
set_option maxHeartbeats 1000000 in
theorem runs_any (s : Sps) (b : Bool) (v : Value) (f : Nat) (cap : Array Value) (w : World) (hs : IsSps w v s)
    (hf : ∀ w', Below w.heap.size w w' → goodSps s = true → Calls Try.prog f cap w' fun e w'' => e = .returned (.bool b) ∧ Below w'.heap.size w' w'')
    (hen : ∀ args w, (callFunc f args).run Try.prog w = .ok (.enter f args) w) :
    Calls Try.prog 67 #[v, .func (.func f) #[] cap] w (runsPost s b w) := by
  have hsp := hs
  obtain ⟨vp, vl, rfl, hpts, hlst⟩ := hs
  obtain ⟨pa, pc, rfl, hp1, hp2⟩ := IsRows.slice hpts
  obtain ⟨la, lc, rfl, hl1, hl2⟩ := IsRows.slice hlst.choose_spec.choose_spec.1
  have hb1 : ∀ o, Below w.heap.size w (w.alloc o) := fun o => (Below.refl _ _).alloc (Nat.le_refl _) o
  have HV := Lib.hid (fun o => valid_any s b _ f cap (w.alloc o) (hsp.below (hb1 o)) (fun w' hb hg => hf w' ((hb1 o).trans (hb.mono (by simp))) hg) hen)
  obtain ⟨i0, hi, hz0, hz1, hz2⟩ := info_parts ptrInfo
  clear hf hen
  have Hz0 := Lib.hid hz0; clear hz0
  have Hz1 := Lib.hid hz1; clear hz1
  have Hz2 := Lib.hid hz2; clear hz2
  have Hi := Lib.hid hi; clear hi
  have Hcl := Lib.hid (show clash s = s.list.any (noOrder s) from rfl)
  go_enter Try.func67, Try.ntmps67
  go_wp2_with (go_at_call 84; refine (HV.out _).mono ?_)
  rintro e w' ⟨h, hb2⟩
  have hb : Below w.heap.size w w' := (hb1 _).trans (hb2.mono (by simp))
  have k0 : w'.cell? ⟨w.heap.size, 0, none⟩ = some (.int .i64 s.pairs) := Below.cellSome hb2 (cellN rfl rfl)
  have k1 : w'.cell? ⟨w.heap.size, 1, none⟩ = some (.slice pa s.points.length pc) := Below.cellSome hb2 (cellN rfl rfl)
  have k2 : w'.cell? ⟨w.heap.size, 2, none⟩ = some (.slice la s.list.length lc) := Below.cellSome hb2 (cellN rfl rfl)
  have hz : w.heap.size < w'.heap.size := by have := hb2.size; simp at this; omega
  rcases h with ⟨hg, hbb, rfl⟩ | ⟨hg, hbb, rfl⟩ | ⟨hg, rfl⟩
  case inr.inl => exact ⟨rfl, hb, .inr (.inl ⟨hg, hbb, rfl⟩)⟩
  case inr.inr => exact ⟨rfl, hb, .inl ⟨hg, rfl⟩⟩
  have hG := good_of hg
  have Hg := Lib.hid hg; clear hg
  have Hbb := Lib.hid hbb; clear hbb
  clear hb1 HV hb2
  go_wp2
  go_loopw [4, 13] (fun l i wr => ∃ (k : Nat) (Bs : Nat → Nat), k ≤ s.list.length ∧ i = .int .i64 k ∧ RunsAt wr (w.heap.size + 1) l s k Bs ∧ clash s = (s.list.drop k).any (noOrder s) ∧ Below w.heap.size w wr ∧ w.heap.size < wr.heap.size ∧
      wr.cell? ⟨w.heap.size, 0, none⟩ = some (.int .i64 s.pairs) ∧ wr.cell? ⟨w.heap.size, 1, none⟩ = some (.slice pa s.points.length pc) ∧ wr.cell? ⟨w.heap.size, 2, none⟩ = some (.slice la s.list.length lc)) (fun _ i _ => s.list.length - (intOf i).toNat)
  case atStart =>
    exact ⟨0, fun _ => 0, Nat.zero_le _, rfl, ⟨World.ownsRow_nil _ _ _ _, fun i _ h => by omega, fun i h => by omega⟩, Hcl.out, hb, hz, k0, k1, k2⟩
  case round =>
    clear k0 k1 k2 hb hz
    obtain ⟨k, Bs, hk, rfl, hRuns, hcl, hb, hz, k0, k1, k2⟩ := hrel
    have HC := Lib.hid hcl; clear hcl
    by_cases hlt : k < s.list.length
    · have HW := Lib.hid (whole_any s k _ wr (hsp.below hb) Hg.out hlt)
      have HX := Lib.hid (any_step (noOrder s) s.list k hlt)
      go_wp2_with (go_at_call 86; refine HW.out.mono ?_)
      rintro e w1 ⟨B, rfl, hB, hrun, hb1⟩
      go_wp2_with fail
      refine (hrun.count hG (hG.x hlt)).mono ?_
      rintro e w2 ⟨rfl, hb2⟩
      have hL := (IsRun.toL hrun hG).below hb2
      have hbw2 : Below wr.heap.size wr w2 := hb1.trans (hb2.mono hb1.size)
      have hRuns2 := hRuns.below hbw2
      obtain ⟨c, hc⟩ : ∃ c, waysX s s.list[k] (every s.list[k]) = c := ⟨_, rfl⟩
      rw [hc]
      have Hc := Lib.hid hc; clear hc
      by_cases hc0 : 0 < c
      · have hd : decide ((0 : Int) < (c : Int)) = true := by simp; omega
        have hl4 := hG.lst
        have hwz := hbw2.size
        go_wp2_with (first | (go_at_call 57; (with_reducible refine (must_yes _ _).mono ?_); rintro e w' ⟨rfl, rfl⟩) | (at_builtin; refine wpList_append_own _ rfl _ _ 98 rfl (w.heap.size + 1) 79 i0 (.pointer none) 1 8 und98 Hi.out Hz0.out Hz1.out Hz2.out rfl (by decide) _ k _ rfl (hRuns2.own.alloc _) ⟨w2.heap.size, 0, none⟩ 1 1 [.pointer (some ⟨B, 0, none⟩)] rfl rfl ?c1 ?c2 ?c3 ?c4 ?c5 ?_))
        case c1 => exact cell_one_new _ _ _
        case c2 => intro u hu; simp at hu; subst hu; rfl
        case c3 => unfold maxLen; omega
        case c4 => omega
        case c5 => simp; omega
        intro v' w3 hown hgrow _
        have hlB : w2.heap.size ≤ w2.heap.size + 1 := by omega
        have hRa : RunsAt (w2.alloc (.cells #[.pointer (some ⟨B, 0, none⟩)] 79)) (w.heap.size + 1) u4 s k Bs := hRuns2.below ((Below.refl _ _).alloc (Nat.le_refl _) _)
        have hneB : u4.ownBlock ≠ some B := fun e => by
          have := (hRuns.own.lt B e).2
          omega
        have hR3 := hRa.push (fun _ => hL.below ((Below.refl _ _).alloc (Nat.le_refl _) _)) hlt hneB hown hgrow
        have hgb : Below (w.heap.size + 1) w2 w3 := (((Below.refl _ _).alloc (by omega) _)).grown hgrow (by simp; omega) (fun j e => (hRa.own.lt j e).1)
        clear hown hgrow hRa hRuns2 hRuns
        have hb3 : Below w.heap.size w w3 := hb.trans (((hbw2.mono (by omega))).trans (hgb.mono (by omega)))
        have k0' : w3.cell? ⟨w.heap.size, 0, none⟩ = some (.int .i64 s.pairs) := by rw [hgb.cell (p := ⟨w.heap.size, 0, none⟩) (by simp), hbw2.cell (p := ⟨w.heap.size, 0, none⟩) hz]; exact k0
        have k1' : w3.cell? ⟨w.heap.size, 1, none⟩ = some (.slice pa s.points.length pc) := by rw [hgb.cell (p := ⟨w.heap.size, 1, none⟩) (by simp), hbw2.cell (p := ⟨w.heap.size, 1, none⟩) hz]; exact k1
        have k2' : w3.cell? ⟨w.heap.size, 2, none⟩ = some (.slice la s.list.length lc) := by rw [hgb.cell (p := ⟨w.heap.size, 2, none⟩) (by simp), hbw2.cell (p := ⟨w.heap.size, 2, none⟩) hz]; exact k2
        have hz3 : w.heap.size < w3.heap.size := by have := hgb.size; omega
        clear k0 k1 k2 hgb hbw2 hb2 hb1 hrun hL hb hz
        go_wp2
        go_roundw
        case rel =>
          refine ⟨k + 1, _, by omega, by go_num, hR3, ?_, hb3, hz3, k0', k1', k2'⟩
          rw [HC.out, HX.out, noOrder, Hc.out]
          have : (c == 0) = false := by simp; omega
          rw [this, Bool.false_or]
        case measure => simp [intOf]; omega
      · have hd : decide ((0 : Int) < (c : Int)) = false := by simp; omega
        go_wp2_with (go_at_call 57; (with_reducible refine (must_no _ _).mono ?_); rintro e w' ⟨rfl, rfl⟩)
        refine ⟨rfl, hb.trans (hbw2.mono hb.size), .inr (.inr (.inl ⟨Hg.out, Hbb.out, ?_, rfl⟩))⟩
        rw [HC.out, HX.out, noOrder, Hc.out]
        have : c = 0 := by omega
        simp [this]
    · obtain rfl : k = s.list.length := by omega
      clear hlt hk
      go_wp2
      go_ret
      refine ⟨hb, .inr (.inr (.inr ⟨Hg.out, Hbb.out, ?_, _, Bs, rfl, ?_⟩))⟩
      · rw [HC.out]; simp
      · exact hRuns
end Go.Proofs.Ytoabfffmjhdijaa
