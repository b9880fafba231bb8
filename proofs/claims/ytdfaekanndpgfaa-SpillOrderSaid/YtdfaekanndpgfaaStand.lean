import Derived.Test.YtdfaekanndpgfaaFalls
import Derived.Test.YtdfaekanndpgfaaMaps
/- standing: what stands of a journal. -/
set_option linter.unusedSimpArgs false
set_option linter.unusedVariables false
namespace Go.Proofs.Ytdfaekanndpgfaa
open Go.RowKit Go.Shelf
theorem und98 : Try.prog.underlying 98 = some (.map 3 44) := by kernel_rfl
theorem und3 : Try.prog.underlying 3 = some (.int .i64) := by kernel_rfl
theorem zero44 (w : World) : (zeroValue 44).run Try.prog w = .ok (repV rep0) w := by kernel_rfl
structure StI (w : World) (M G : Nat) (m : List Rep) (D : Int → Option Rep) (X : World) : Prop where
  b : Below w.heap.size w X
  mp : MapIs X M .i64 (fun n => (D n).map repV)
  rd : ∀ k j, k < m.length → j < 8 → X.cell? ⟨G, k * 8 + j, none⟩ = some (rowRep m k j)
  hM : w.heap.size ≤ M
  hG : M < G
theorem StI.below {w X Y : World} {M G : Nat} {m : List Rep} {D : Int → Option Rep} (h : StI w M G m D X) (hb : Below X.heap.size X Y) : StI w M G m D Y :=
  ⟨h.b.trans (hb.mono h.b.size), h.mp.kept (hb.block M h.mp.lt), fun k j hk hj => Below.cellSome hb (h.rd k j hk hj), h.hM, h.hG⟩
theorem StI.put {w X : World} {M G : Nat} {m : List Rep} {D D' : Int → Option Rep} (h : StI w M G m D X) {o : Obj} (hm : MapIs (X.putObj M o) M .i64 (fun n => (D' n).map repV)) : StI w M G m D' (X.putObj M o) :=
  ⟨Below.grown h.b (grownBy_putObj' X M o) h.b.size (fun k e => by cases e; exact h.hM), hm, fun k j hk hj => by
    rw [World.cell?_of_block (World.putObj_heap_other (by have := h.hG; show G ≠ M; omega))]; exact h.rd k j hk hj, h.hM, h.hG⟩
theorem StI.at {w X : World} {M G : Nat} {m : List Rep} {D : Int → Option Rep} (h : StI w M G m D X) {k : Nat} (hk : k < m.length) : RepAt X G (k * 8) m[k] := by
  have hc : ∀ j, j < 8 → X.cell? ⟨G, k * 8 + j, none⟩ = some (.int .i64 (cRep m[k] j)) := fun j hj => by rw [h.rd k j hk hj]; simp [rowRep, List.getD, hk]
  exact ⟨hc 0 (by omega), hc 1 (by omega), hc 2 (by omega), hc 3 (by omega), hc 4 (by omega), hc 5 (by omega), hc 6 (by omega), hc 7 (by omega)⟩
theorem StI.look {w X : World} {M G : Nat} {m : List Rep} {D : Int → Option Rep} (h : StI w M G m D X) (n : Int) :
    (Instr.lookup 98 (.map (some M)) (.int .i64 n) true).run Try.prog X = .ok (.tuple #[repV ((D n).getD rep0), .bool (D n).isSome]) X := by
  have := run_lookup_int h.mp und98 und3 (zero44 X) n
  rw [this]
  cases D n <;> rfl
theorem StI.update {w X : World} {M G : Nat} {m : List Rep} {D : Int → Option Rep} (h : StI w M G m D X) (r : Rep) (D' : Int → Option Rep) (hD : ∀ n, D' n = if n = r.id then some r else D n) :
    ∃ o, (Instr.mapUpdate 98 (.map (some M)) (.int .i64 r.id) (repV r)).run Try.prog X = .ok () (X.putObj M o) ∧ StI w M G m D' (X.putObj M o) := by
  obtain ⟨o, h1, h2, _⟩ := run_mapUpdate_int h.mp und98 und3 r.id (repV r)
  refine ⟨o, h1, h.put (h2.congr fun n => ?_)⟩
  rw [hD n]
  by_cases e : n = r.id
  · rw [if_pos e, if_pos e]; rfl
  · rw [if_neg e, if_neg e]
/-- What stands of the first k reports. -/
def bestTo (m : List Rep) (k : Nat) (n : Int) : Option Rep := bestR (m.take k) n
theorem bestTo_step {m : List Rep} {k : Nat} (hk : k < m.length) (n : Int) : bestTo m (k + 1) n = if m[k].id = n then better (bestTo m k n) m[k] else bestTo m k n := by
  unfold bestTo bestR
  rw [List.take_succ_eq_append_getElem hk, List.foldl_append]
  rfl
theorem better_yes {o r : Rep} (h : lessR o r = true) : better (some o) r = some r := by unfold better; simp [h]
theorem better_no {o r : Rep} (h : lessR o r = false) : better (some o) r = some o := by unfold better; simp [h]
theorem map_not_own {w : World} {M base e sz n : Nat} {K : IntKind} {D : Int → Option Value} {v : Value} {xs : List Value} (hm : MapIs w M K D) (h : w.ownsRow base e sz v n xs) : v.ownBlock ≠ some M := by
  obtain ⟨es, c, h1, _⟩ := hm
  rcases h.2 with ⟨rfl, _⟩ | ⟨g, cap, cur, rfl, _, hg, _⟩
  · simp [Value.ownBlock]
  · intro e
    simp only [Value.ownBlock, Option.some.injEq] at e
    subst e
    rw [hg] at h1; cases h1
/-- What stands of the Ids below k. -/
def standTo (m : List Rep) (k : Nat) : List Rep := (List.range k).filterMap fun (i : Nat) => bestR m (i : Int)
theorem standTo_step (m : List Rep) (k : Nat) : standTo m (k + 1) = standTo m k ++ (bestR m (k : Int)).toList := by
  unfold standTo
  rw [List.range_succ, List.filterMap_append]
  cases h : bestR m (k : Int) <;> simp [h]
theorem standTo_len (m : List Rep) (k : Nat) : (standTo m k).length ≤ k := by
  have := List.length_filterMap_le (fun (i : Nat) => bestR m (i : Int)) (List.range k)
  simpa [standTo] using this
/-- The second loop: the map, and the journal so far. -/
structure StJ (w : World) (M : Nat) (m : List Rep) (k : Nat) (u : Value) (X : World) : Prop where
  j : JnI w (standTo m k) u X
  mp : MapIs X M .i64 (fun n => (bestR m n).map repV)
  hM : w.heap.size ≤ M
theorem StJ.below {w X Y : World} {M k : Nat} {m : List Rep} {u : Value} (h : StJ w M m k u X) (hb : Below X.heap.size X Y) : StJ w M m k u Y := ⟨h.j.below hb, h.mp.kept (hb.block M h.mp.lt), h.hM⟩
theorem StJ.look {w X : World} {M k : Nat} {m : List Rep} {u : Value} (h : StJ w M m k u X) (n : Int) :
    (Instr.lookup 98 (.map (some M)) (.int .i64 n) true).run Try.prog X = .ok (.tuple #[repV ((bestR m n).getD rep0), .bool (bestR m n).isSome]) X := by
  have := run_lookup_int h.mp und98 und3 (zero44 X) n
  rw [this]
  cases bestR m n <;> rfl
theorem StJ.step {w X Y Z : World} {M k : Nat} {m : List Rep} {u u' : Value} {r : Rep} (h : StJ w M m k u X) (hr : bestR m (k : Int) = some r) (hY : Below X.heap.size X Y) (hg : Y.grownBy Z u.ownBlock) (ho : OwnJ Z w.heap.size u' (standTo m k ++ [r])) : StJ w M m (k + 1) u' Z := by
  have hy := h.below hY
  refine ⟨?_, hy.mp.kept (hg.block M hy.mp.lt (fun e => map_not_own hy.mp hy.j.o e.symm)), h.hM⟩
  have e := standTo_step m k
  rw [hr] at e
  rw [e]
  exact h.j.grown hY hg ho
set_option maxRecDepth 20000 in
set_option maxHeartbeats 2000000 in
theorem standing_any (l : List Rep) (hl : l.length ≤ 200) (hk : ∀ r, r ∈ l → 0 ≤ r.kind ∧ r.kind ≤ 2) (v : Value) (w : World) (h : IsReps w v l) :
    Calls Try.prog 50 #[v] w fun e w' => ∃ u, e = .returned u ∧ JnI w (standR l) u w' := by
  obtain ⟨a, cap, rfl, _⟩ := IsRows.slice h
  obtain ⟨W, hW⟩ : ∃ W, w.alloc (.map #[] 0) = W := ⟨_, rfl⟩
  obtain ⟨M, hM⟩ : ∃ M, w.heap.size = M := ⟨_, rfl⟩
  have hbW : Below w.heap.size w W := by rw [← hW]; exact (Below.refl _ _).alloc (Nat.le_refl _) _
  have hmp : MapIs W M .i64 (fun _ => none) := by rw [← hW, ← hM]; exact MapIs.new w .i64
  have hWs : W.heap.size = M + 1 := by rw [← hW, ← hM]; simp
  have HC := Lib.hid (changed_any l hl hk _ W (h.below hbW))
  have Hs := Lib.hid (And.intro hbW (And.intro hmp hWs))
  clear h hbW hmp hWs
  obtain ⟨m, hm⟩ : ∃ m, l.map plainR = m := ⟨_, rfl⟩
  have Hm := Lib.hid hm
  have hml : m.length = l.length := by rw [← hm]; simp
  have Hml := Lib.hid hml
  clear hm hml
  have hmm := @run_makeMap Try.prog
  go_enter Try.func50, Try.ntmps50
  go_wp2_with (go_at_call 85; with_reducible refine HC.out.mono ?_; rintro e w' ⟨G, rfl, hch⟩)
  have hI : StI w M G m (bestTo m 0) w' := by
    obtain ⟨hbW, hmp, hWs⟩ := Hs.out
    rw [Hm.out] at hch
    exact ⟨hbW.trans (hch.b.mono hbW.size), (hmp.kept (hch.b.block M (by omega))).congr fun n => rfl, hch.c, by omega, by have := hch.lo; omega⟩
  have HI := Lib.hid hI
  clear hI hch HC hW hmm Hs
  go_loopw [15] (fun i X => ∃ k : Nat, k ≤ m.length ∧ i = .int .i64 (k : Int) ∧ StI w M G m (bestTo m k) X) (fun i _ => m.length - (intOf i).toNat)
  case atStart => exact ⟨0, by omega, rfl, HI.out⟩
  case round =>
    clear HI
    obtain ⟨k, hk, rfl, hI⟩ := hrel
    have HI := Lib.hid hI
    clear hI
    by_cases hlt : k < m.length
    · have hltI : (k : Int) < (l.length : Int) := by have := Hml.out; omega
      obtain ⟨c0, c1, c2, c3, c4, c5, c6, c7⟩ := HI.out.at hlt
      obtain ⟨r, hr⟩ : ∃ r, m[k] = r := ⟨_, rfl⟩
      rw [hr] at c0 c1 c2 c3 c4 c5 c6 c7
      have Hst := Lib.hid (bestTo_step hlt)
      rw [hr] at Hst
      clear hr
      have HI5 := Lib.hid (HI.out.below ((Below.refl _ wr).alloc (Nat.le_refl _) (.cells (repC r) 44)))
      cases hb : bestTo m k r.id with
      | none =>
        have hlk := HI5.out.look r.id
        rw [hb] at hlk
        have hlk : (Instr.lookup 98 (.map (some M)) (.int .i64 r.id) true).run Try.prog (wr.alloc (.cells (repC r) 44)) = .ok (.tuple #[repV rep0, .bool false]) (wr.alloc (.cells (repC r) 44)) := hlk
        have HI6 := Lib.hid (HI5.out.below ((Below.refl _ _).alloc (Nat.le_refl _) (.cells (repC rep0) 44)))
        obtain ⟨o, hup, hI7⟩ := HI6.out.update r (bestTo m (k + 1)) (fun n => by
          rw [Hst.out n]
          by_cases e : r.id = n
          · subst e; rw [if_pos rfl, if_pos rfl, hb]; rfl
          · rw [if_neg e, if_neg (Ne.symm e)])
        have HI7 := Lib.hid hI7
        clear hI7 hb
        go_wp2_with fail
        go_roundw
        case rel => exact ⟨k + 1, by omega, by go_num, HI7.out⟩
        case measure => simp [intOf]; omega
      | some o =>
        have hlk := HI5.out.look r.id
        rw [hb] at hlk
        have hlk : (Instr.lookup 98 (.map (some M)) (.int .i64 r.id) true).run Try.prog (wr.alloc (.cells (repC r) 44)) = .ok (.tuple #[repV o, .bool true]) (wr.alloc (.cells (repC r) 44)) := hlk
        have HI6 := Lib.hid (HI5.out.below ((Below.refl _ _).alloc (Nat.le_refl _) (.cells (repC o) 44)))
        have HL := Lib.hid (fun X => less_any o r X)
        obtain ⟨c, hc⟩ : ∃ c, cmpL (prs o r) = c := ⟨_, rfl⟩
        have hls := prs_less o r
        rw [hc] at HL hls
        have Hls := Lib.hid hls
        have Hb := Lib.hid hb
        clear hb hc hls
        by_cases hcn : c < 0
        · have hlt2 : lessR o r = true := by rw [← Hls.out]; exact decide_eq_true hcn
          have Hlt2 := Lib.hid hlt2
          clear hlt2
          go_upto_region 6 with fail
          clear hlk
          go_wp2_with fail
          with_reducible refine (HL.out _).mono ?_
          rintro e w9 ⟨rfl, hb9⟩
          have d0 : w9.cell? ⟨wr.heap.size, 0, none⟩ = some (.int .i64 r.id) := Below.cellSome hb9 (cellP (cellN rfl rfl) _)
          have d1 : w9.cell? ⟨wr.heap.size, 1, none⟩ = some (.int .i64 r.version) := Below.cellSome hb9 (cellP (cellN rfl rfl) _)
          have d2 : w9.cell? ⟨wr.heap.size, 2, none⟩ = some (.int .i64 r.kind) := Below.cellSome hb9 (cellP (cellN rfl rfl) _)
          have d3 : w9.cell? ⟨wr.heap.size, 3, none⟩ = some (.int .i64 r.alo) := Below.cellSome hb9 (cellP (cellN rfl rfl) _)
          have d4 : w9.cell? ⟨wr.heap.size, 4, none⟩ = some (.int .i64 r.ahi) := Below.cellSome hb9 (cellP (cellN rfl rfl) _)
          have d5 : w9.cell? ⟨wr.heap.size, 5, none⟩ = some (.int .i64 r.llo) := Below.cellSome hb9 (cellP (cellN rfl rfl) _)
          have d6 : w9.cell? ⟨wr.heap.size, 6, none⟩ = some (.int .i64 r.lhi) := Below.cellSome hb9 (cellP (cellN rfl rfl) _)
          have d7 : w9.cell? ⟨wr.heap.size, 7, none⟩ = some (.int .i64 r.pair) := Below.cellSome hb9 (cellP (cellN rfl rfl) _)
          obtain ⟨ob, hup, hI7⟩ := (HI6.out.below hb9).update r (bestTo m (k + 1)) (fun n => by
            rw [Hst.out n]
            by_cases e : r.id = n
            · subst e; rw [if_pos rfl, if_pos rfl, Hb.out, better_yes Hlt2.out]
            · rw [if_neg e, if_neg (Ne.symm e)])
          have HI7 := Lib.hid hI7
          clear hI7 hb9 HL HI5 HI6 HI c0 c1 c2 c3 c4 c5 c6 c7
          go_wp2_with fail
          go_roundw
          case rel => exact ⟨k + 1, by omega, by go_num, HI7.out⟩
          case measure => simp [intOf]; omega
        · have hlt2 : lessR o r = false := by rw [← Hls.out]; exact decide_eq_false hcn
          have Hlt2 := Lib.hid hlt2
          clear hlt2
          go_upto_region 6 with fail
          clear hlk
          go_wp2_with fail
          with_reducible refine (HL.out _).mono ?_
          rintro e w9 ⟨rfl, hb9⟩
          have hI7 : StI w M G m (bestTo m (k + 1)) w9 := by
            have h9 := HI6.out.below hb9
            refine ⟨h9.b, h9.mp.congr fun n => ?_, h9.rd, h9.hM, h9.hG⟩
            rw [Hst.out n]
            by_cases e : r.id = n
            · subst e; rw [if_pos rfl, Hb.out, better_no Hlt2.out]
            · rw [if_neg e]
          have HI7 := Lib.hid hI7
          clear hI7 hb9 HL HI5 HI6 HI c0 c1 c2 c3 c4 c5 c6 c7
          go_wp2_with fail
          go_roundw
          case rel => exact ⟨k + 1, by omega, by go_num, HI7.out⟩
          case measure => simp [intOf]; omega
    · have hke : k = l.length := by have := Hml.out; omega
      subst hke
      have hI := HI.out
      have eD : ∀ n, bestTo m l.length n = bestR m n := fun n => by unfold bestTo; rw [← Hml.out, List.take_length]
      have hJ : StJ w M m 0 (.slice none 0 0) wr := ⟨⟨hI.b, OwnJ.nil _ _⟩, hI.mp.congr fun n => by rw [eD n], hI.hM⟩
      have HJ := Lib.hid hJ
      clear hJ hI HI eD hlt
      go_wp2_with fail
      rename World => w1
      go_loopw [2, 39] (fun u i X => ∃ k : Nat, k ≤ 32 ∧ i = .int .i64 (k : Int) ∧ StJ w M m k u X) (fun _ i _ => 32 - (intOf i).toNat)
      case atStart => exact ⟨0, by omega, rfl, HJ.out⟩
      case round =>
        clear HJ
        obtain ⟨k, hk, rfl, hJ⟩ := hrel
        obtain ⟨ua, uc, rfl⟩ := hJ.j.o.slice
        have HJ := Lib.hid hJ
        clear hJ
        by_cases hlt : k < 32
        · have hltI : (k : Int) < 32 := by omega
          have hlk := HJ.out.look (k : Int)
          cases hb : bestR m (k : Int) with
          | none =>
            rw [hb] at hlk
            have hlk : (Instr.lookup 98 (.map (some M)) (.int .i64 (k : Int)) true).run Try.prog wr = .ok (.tuple #[repV rep0, .bool false]) wr := hlk
            have HJ1 := Lib.hid (HJ.out.below ((Below.refl _ wr).alloc (Nat.le_refl _) (.cells (repC rep0) 44)))
            have Hb := Lib.hid hb
            clear hb
            go_wp2_with fail
            go_roundw
            case rel =>
              refine ⟨k + 1, by omega, by go_num, ⟨?_, HJ1.out.mp, HJ1.out.hM⟩⟩
              have e := standTo_step m k
              rw [Hb.out] at e
              simp only [Option.toList_none, List.append_nil] at e
              rw [e]
              exact HJ1.out.j
            case measure => simp [intOf]; omega
          | some r =>
            rw [hb] at hlk
            have hlk : (Instr.lookup 98 (.map (some M)) (.int .i64 (k : Int)) true).run Try.prog wr = .ok (.tuple #[repV r, .bool true]) wr := hlk
            have hb1 : Below wr.heap.size wr (wr.alloc (.cells (repC r) 44)) := (Below.refl _ wr).alloc (Nat.le_refl _) _
            have h1 := HJ.out.below hb1
            obtain ⟨v', Z, hap, ho, hg, _⟩ := append_one 69 und69 h1.j.o (by have := standTo_len m k; omega) h1.j.b.size r (wr.heap.size + 1) (by simp)
            have Hap := Lib.hid hap
            have HJ1 := Lib.hid (HJ.out.step hb (hb1.alloc (by simp) (.cells (repC r) 44)) hg ho)
            clear hb hap ho hg h1 hb1
            go_wp2_with (at_builtin; refine wpList_append_run rfl (.tmp 49) (.tmp 51) 69 rfl _ _ rfl rfl Hap.out ?_)
            go_roundw
            case rel => exact ⟨k + 1, by omega, by go_num, HJ1.out⟩
            case measure => simp [intOf]; omega
        · have hke : k = 32 := by omega
          subst hke
          have Hf := Lib.hid (show standTo m 32 = standR l by unfold standTo standR; rw [Hm.out])
          go_wp2_with fail
          go_ret
          refine ⟨_, rfl, ?_⟩
          have h := HJ.out.j
          rw [← Hf.out]
          exact h
end Go.Proofs.Ytdfaekanndpgfaa
