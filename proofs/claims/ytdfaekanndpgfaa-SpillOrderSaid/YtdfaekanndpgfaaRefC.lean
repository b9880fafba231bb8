import Derived.Test.YtdfaekanndpgfaaRefA
import Derived.Test.YtdfaekanndpgfaaRefB
/- The document's Stand. -/
set_option linter.unusedSimpArgs false
set_option linter.unusedVariables false
namespace Go.Proofs.Ytdfaekanndpgfaa
open Go.RowKit Go.Shelf
/-- The reports that stand so far, and the best of an Id in a block of its own. -/
structure BI (w : World) (B : Nat) (j : List Rep) (v : Value) (b : Option Rep) (X : World) : Prop where
  j : JnI w j v X
  c : RepAt X B 0 (b.getD rep0)
  z : ∀ o, X.frozen? ⟨B, o, none⟩ = false
  ne : v.ownBlock ≠ some B
  lo : w.heap.size ≤ B
theorem RepAt.below {w w' : World} {b o : Nat} {r : Rep} (h : RepAt w b o r) (hb : Below w.heap.size w w') : RepAt w' b o r :=
  ⟨Below.cellSome hb h.c0, Below.cellSome hb h.c1, Below.cellSome hb h.c2, Below.cellSome hb h.c3, Below.cellSome hb h.c4, Below.cellSome hb h.c5, Below.cellSome hb h.c6, Below.cellSome hb h.c7⟩
theorem BI.lt {w X : World} {B : Nat} {j : List Rep} {v : Value} {b : Option Rep} (h : BI w B j v b X) : B < X.heap.size := lt_of_cell h.c.c0
theorem BI.below {w X Y : World} {B : Nat} {j : List Rep} {v : Value} {b : Option Rep} (h : BI w B j v b X) (hb : Below X.heap.size X Y) : BI w B j v b Y :=
  ⟨h.j.below hb, h.c.below hb, fun o => (frozen_below hb h.lt).trans (h.z o), h.ne, h.lo⟩
theorem BI.new {w X : World} {j : List Rep} {v : Value} (h : JnI w j v X) : BI w X.heap.size j v none (X.alloc (.cells (repC rep0) 44)) :=
  ⟨h.below ((Below.refl _ _).alloc (Nat.le_refl _) _), ⟨cellN rfl rfl, cellN rfl rfl, cellN rfl rfl, cellN rfl rfl, cellN rfl rfl, cellN rfl rfl, cellN rfl rfl, cellN rfl rfl⟩, fun o => World.frozen?_alloc_at _ _ _ _ rfl,
    fun e => by have := (h.o.lt _ e).2; omega, h.b.size⟩
theorem BI.put {w X : World} {B : Nat} {j : List Rep} {v : Value} {b : Option Rep} (h : BI w B j v b X) (r : Rep) : BI w B j v (some r) (X.setCells B 0 (repC r).toList) := by
  have hk : Blk w B X := ⟨h.j.b, h.lo, fun q hq => by
    obtain rfl | rfl | rfl | rfl | rfl | rfl | rfl | rfl : q = 0 ∨ q = 1 ∨ q = 2 ∨ q = 3 ∨ q = 4 ∨ q = 5 ∨ q = 6 ∨ q = 7 := by omega
    · exact ⟨_, h.c.c0⟩
    · exact ⟨_, h.c.c1⟩
    · exact ⟨_, h.c.c2⟩
    · exact ⟨_, h.c.c3⟩
    · exact ⟨_, h.c.c4⟩
    · exact ⟨_, h.c.c5⟩
    · exact ⟨_, h.c.c6⟩
    · exact ⟨_, h.c.c7⟩, h.z⟩
  obtain ⟨h1, h2⟩ := hk.set r
  refine ⟨⟨h2, ?_⟩, h1, fun o => by rw [World.frozen?_setCells]; exact h.z o, h.ne, h.lo⟩
  rw [← eight_sets0]
  have ho : OwnJ X w.heap.size v j := h.j.o
  exact own_set (own_set (own_set (own_set (own_set (own_set (own_set (own_set ho h.ne) h.ne) h.ne) h.ne) h.ne) h.ne) h.ne) h.ne
set_option maxRecDepth 20000 in
set_option maxHeartbeats 4000000 in
theorem rstand_any (l : List Rep) (hl : l.length ≤ 1000) (v : Value) (w : World) (h : IsReps w v l) : Calls Try.prog 42 #[v] w fun e w' => ∃ u, e = .returned u ∧ JnI w (standR l) u w' := by
  obtain ⟨a, cap, rfl, _⟩ := IsRows.slice h
  have H := Lib.hid h
  have HPl := Lib.hid rplain_any
  have HBf := Lib.hid before_any
  clear h
  obtain ⟨m, hm⟩ : ∃ m, l.map plainR = m := ⟨_, rfl⟩
  have hml : m.length = l.length := by rw [← hm]; simp
  have Hm := Lib.hid hm
  have Hml := Lib.hid hml
  clear hm hml
  go_enter Try.func42, Try.ntmps42
  go_wp2_with fail
  go_loopw [3, 4] (fun u i X => ∃ n : Nat, n ≤ 32 ∧ i = .int .i64 (n : Int) ∧ JnI w (standTo m n) u X) (fun _ i _ => 32 - (intOf i).toNat)
  case atStart => exact ⟨0, by omega, rfl, JnI.start w⟩
  case round =>
    obtain ⟨n, hn, rfl, hI⟩ := hrel
    obtain ⟨ua, uc, rfl⟩ := hI.o.slice
    have HI := Lib.hid hI
    clear hI
    by_cases hlt : n < 32
    · have hltI : (n : Int) ≤ 31 := by omega
      have HB0 := Lib.hid (BI.new HI.out)
      obtain ⟨B, hB⟩ : ∃ B, wr.heap.size = B := ⟨_, rfl⟩
      rw [hB] at HB0
      obtain ⟨k0, hk0⟩ : ∃ k0, (standTo m n).length = k0 := ⟨_, rfl⟩
      rw [hk0]
      rw [hk0] at HI HB0
      have Hk0 := Lib.hid hk0
      clear hk0 HI
      go_wp2_with fail
      go_loopw [6, 7] (fun s i X => ∃ k : Nat, k ≤ l.length ∧ i = .int .i64 (k : Int) ∧ s = .bool (bestTo m k (n : Int)).isSome ∧ BI w B (standTo m n) (.slice ua k0 uc) (bestTo m k (n : Int)) X) (fun _ i _ => l.length - (intOf i).toNat)
      case atStart => exact ⟨0, by omega, rfl, rfl, HB0.out⟩
      case round =>
        clear HB0 hB
        obtain ⟨k, hk, rfl, rfl, hI⟩ := hrel
        have HI := Lib.hid hI
        clear hI
        by_cases hkl : k < l.length
        · have hklI : (k : Int) < (l.length : Int) := by omega
          obtain ⟨b1, o1, rfl, p0, p1, p2, p3, p4, p5, p6, p7⟩ := IsReps.get (IsRows.below H.out HI.out.j.b) hkl
          obtain ⟨x, hx⟩ : ∃ x, l[k] = x := ⟨_, rfl⟩
          rw [hx] at p0 p1 p2 p3 p4 p5 p6 p7
          have hkm : k < m.length := by have := Hml.out; omega
          have hst := bestTo_step hkm (n : Int)
          have hmk : m[k] = plainR x := by simp only [← Hm.out, List.getElem_map, hx]
          rw [hmk] at hst
          clear hmk hx
          go_wp2_with fail
          with_reducible refine (HPl.out _ _).mono ?_
          rintro e X1 ⟨rfl, hb1⟩
          have hbA : Below X1.heap.size X1 (X1.alloc (.cells (repC (plainR x)) 44)) := (Below.refl _ _).alloc (Nat.le_refl _) _
          have hI1 := (HI.out.below hb1).below hbA
          obtain ⟨q, hq⟩ : ∃ q, plainR x = q := ⟨_, rfl⟩
          rw [hq] at hst hbA hI1
          simp only [hq]
          clear p0 p1 p2 p3 p4 p5 p6 p7 hb1 hbA hq HI
          have HI1 := Lib.hid hI1
          have Hst := Lib.hid hst
          clear hI1 hst
          have d0 : (X1.alloc (.cells (repC q) 44)).cell? ⟨X1.heap.size, 0, none⟩ = some (.int .i64 q.id) := cellN rfl rfl
          have d1 : (X1.alloc (.cells (repC q) 44)).cell? ⟨X1.heap.size, 1, none⟩ = some (.int .i64 q.version) := cellN rfl rfl
          have d2 : (X1.alloc (.cells (repC q) 44)).cell? ⟨X1.heap.size, 2, none⟩ = some (.int .i64 q.kind) := cellN rfl rfl
          have d3 : (X1.alloc (.cells (repC q) 44)).cell? ⟨X1.heap.size, 3, none⟩ = some (.int .i64 q.alo) := cellN rfl rfl
          have d4 : (X1.alloc (.cells (repC q) 44)).cell? ⟨X1.heap.size, 4, none⟩ = some (.int .i64 q.ahi) := cellN rfl rfl
          have d5 : (X1.alloc (.cells (repC q) 44)).cell? ⟨X1.heap.size, 5, none⟩ = some (.int .i64 q.llo) := cellN rfl rfl
          have d6 : (X1.alloc (.cells (repC q) 44)).cell? ⟨X1.heap.size, 6, none⟩ = some (.int .i64 q.lhi) := cellN rfl rfl
          have d7 : (X1.alloc (.cells (repC q) 44)).cell? ⟨X1.heap.size, 7, none⟩ = some (.int .i64 q.pair) := cellN rfl rfl
          obtain ⟨q0, q1, q2, q3, q4, q5, q6, q7⟩ := HI1.out.c
          simp only [Nat.zero_add] at q1 q2 q3 q4 q5 q6 q7
          have z0 := HI1.out.z 0
          have z1 := HI1.out.z 1
          have z2 := HI1.out.z 2
          have z3 := HI1.out.z 3
          have z4 := HI1.out.z 4
          have z5 := HI1.out.z 5
          have z6 := HI1.out.z 6
          have z7 := HI1.out.z 7
          by_cases hid : q.id = (n : Int)
          · have hidb : (q.id == (n : Int)) = true := by simpa using hid
            have Hid2 := Lib.hid hid
            have Hst1 := Lib.hid (Hst.out.trans (if_pos hid))
            clear hid Hst
            cases hb : bestTo m k (n : Int) with
            | none =>
              rw [hb] at q0 q1 q2 q3 q4 q5 q6 q7 HI1 Hst1
              simp only [Option.getD_none] at q0 q1 q2 q3 q4 q5 q6 q7
              have HP := Lib.hid (HI1.out.put q)
              have Hst2 := Lib.hid (show bestTo m (k + 1) (n : Int) = some q from Hst1.out)
              clear hb
              go_wp2_with fail
              rw [eight_sets0]
              go_roundw
              case rel => exact ⟨k + 1, by omega, by go_num, by rw [Hst2.out]; rfl, by rw [Hst2.out]; exact HP.out⟩
              case measure => simp [intOf]; omega
            | some o =>
              rw [hb] at q0 q1 q2 q3 q4 q5 q6 q7 HI1 Hst1
              simp only [Option.getD_some] at q0 q1 q2 q3 q4 q5 q6 q7
              obtain ⟨lb, hlb⟩ : ∃ lb, lessR o q = lb := ⟨_, rfl⟩
              have HB2 := Lib.hid (fun X => hlb ▸ HBf.out o q X)
              have Hlb := Lib.hid hlb
              clear hb hlb
              go_wp2_with fail
              with_reducible refine (HB2.out _).mono ?_
              rintro e X2 ⟨rfl, hb2⟩
              have HI2 := Lib.hid (HI1.out.below hb2)
              have d0 := Below.cellSome hb2 d0
              have d1 := Below.cellSome hb2 d1
              have d2 := Below.cellSome hb2 d2
              have d3 := Below.cellSome hb2 d3
              have d4 := Below.cellSome hb2 d4
              have d5 := Below.cellSome hb2 d5
              have d6 := Below.cellSome hb2 d6
              have d7 := Below.cellSome hb2 d7
              obtain ⟨q0, q1, q2, q3, q4, q5, q6, q7⟩ := HI2.out.c
              simp only [Nat.zero_add, Option.getD_some] at q0 q1 q2 q3 q4 q5 q6 q7
              have z0 := HI2.out.z 0
              have z1 := HI2.out.z 1
              have z2 := HI2.out.z 2
              have z3 := HI2.out.z 3
              have z4 := HI2.out.z 4
              have z5 := HI2.out.z 5
              have z6 := HI2.out.z 6
              have z7 := HI2.out.z 7
              clear hb2 HI1 HB2
              cases lb
              · have Hst2 := Lib.hid (Hst1.out.trans (better_no Hlb.out))
                go_wp2_with fail
                go_roundw
                case rel => exact ⟨k + 1, by omega, by go_num, by rw [Hst2.out]; rfl, by rw [Hst2.out]; exact HI2.out⟩
                case measure => simp [intOf]; omega
              · have Hst2 := Lib.hid (Hst1.out.trans (better_yes Hlb.out))
                have HP := Lib.hid (HI2.out.put q)
                go_wp2_with fail
                rw [eight_sets0]
                go_roundw
                case rel => exact ⟨k + 1, by omega, by go_num, by rw [Hst2.out]; rfl, by rw [Hst2.out]; exact HP.out⟩
                case measure => simp [intOf]; omega
          · have hidb : (q.id == (n : Int)) = false := by simpa using hid
            have Hst1 := Lib.hid (Hst.out.trans (if_neg hid))
            clear hid Hst
            go_wp2_with fail
            go_roundw
            case rel => exact ⟨k + 1, by omega, by go_num, by rw [Hst1.out], by rw [Hst1.out]; exact HI1.out⟩
            case measure => simp [intOf]; omega
        · have hklI : ¬ (k : Int) < (l.length : Int) := by omega
          have hall : bestTo m k (n : Int) = bestR m (n : Int) := by unfold bestTo; rw [List.take_of_length_le (by have := Hml.out; omega)]
          rw [hall] at HI ⊢
          have Hsn := Lib.hid (standTo_step m n)
          clear hall
          cases hb : bestR m (n : Int) with
          | none =>
            rw [hb] at HI Hsn
            have Hs2 := Lib.hid (Hsn.out.trans (List.append_nil _))
            clear hb
            go_wp2_with fail
            go_roundw
            case rel => exact ⟨n + 1, by omega, by go_num, by rw [Hs2.out]; exact HI.out.j⟩
            case measure => simp [intOf]; omega
          | some o =>
            rw [hb] at HI Hsn
            obtain ⟨q0, q1, q2, q3, q4, q5, q6, q7⟩ := HI.out.c
            simp only [Nat.zero_add, Option.getD_some] at q0 q1 q2 q3 q4 q5 q6 q7
            have hlen := standTo_len m n
            obtain ⟨v', Z, hap, ho, hg, _⟩ := append_one 22 und22 HI.out.j.o (by omega) HI.out.j.b.size o wr.heap.size rfl
            have Hap := Lib.hid hap
            have HJ := Lib.hid (HI.out.j.grown ((Below.refl _ wr).alloc (Nat.le_refl _) (.cells (repC o) 44)) hg ho)
            have Hs2 := Lib.hid (show standTo m (n + 1) = standTo m n ++ [o] from Hsn.out)
            clear hap ho hg hb hlen
            go_wp2_with (at_builtin; refine wpList_append_run rfl (.tmp 40) (.tmp 42) 22 rfl _ _ rfl rfl Hap.out ?_)
            go_roundw
            case rel => exact ⟨n + 1, by omega, by go_num, by rw [Hs2.out]; exact HJ.out⟩
            case measure => simp [intOf]; omega
    · have hltI : ¬ (n : Int) ≤ 31 := by omega
      obtain rfl : n = 32 := by omega
      have Hf := Lib.hid (show standTo m 32 = standR l by unfold standTo standR; rw [Hm.out])
      go_wp2_with fail
      go_ret
      exact ⟨_, rfl, by rw [← Hf.out]; exact HI.out⟩
end Go.Proofs.Ytdfaekanndpgfaa
