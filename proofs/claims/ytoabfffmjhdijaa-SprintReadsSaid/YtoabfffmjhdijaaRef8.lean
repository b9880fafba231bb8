import Derived.Test.YtoabfffmjhdijaaRef7
import Derived.Test.YtoabfffmjhdijaaHeld
/- The document's answer: one. -/
set_option linter.unusedSimpArgs false
set_option linter.unusedVariables false
namespace Go.Proofs.Ytoabfffmjhdijaa
open Go.RowKit Go.Shelf

theorem numB_of (s : Sps) (n : Int) (h : Good s) : numB s.list.length n = isNum s n := by
  have := h.lst
  unfold numB isNum inB; rw [IntWalk.wrap64_in _ (by omega)]
/-- The error of what is told of one sprint. -/
def oneE (s : Sps) (n : Int) (b : Bool) : Int := if goodSps s = false then 1 else if (isNum s n && b) = false then 2 else if waysX s (sprOf s n) (every (sprOf s n)) = 0 then 10 else 0
theorem isNum_nat {s : Sps} {n : Int} (h : isNum s n = true) : ∃ k : Nat, n = k ∧ k < s.list.length := by
  simp [isNum] at h
  exact ⟨n.toNat, by omega, by omega⟩
theorem checkE_num (s : Sps) (n : Int) (b : Bool) : checkE s (numB s.list.length n && b) = 0 ∧ goodSps s = true ∧ isNum s n = true ∧ b = true ∨ checkE s (numB s.list.length n && b) ≠ 0 ∧ (goodSps s = false ∧ checkE s (numB s.list.length n && b) = 1 ∨ goodSps s = true ∧ (isNum s n && b) = false ∧ checkE s (numB s.list.length n && b) = 2) := by
  unfold checkE
  cases hg : goodSps s
  · simp
  · rw [numB_of s n (good_of hg)]
    cases isNum s n <;> cases b <;> simp
theorem oneE_of {s : Sps} {n : Int} {b : Bool} (h : checkE s (numB s.list.length n && b) ≠ 0) : oneE s n b = checkE s (numB s.list.length n && b) := by
  rcases checkE_num s n b with ⟨h0, _⟩ | ⟨_, ⟨hg, h1⟩ | ⟨hg, hn, h1⟩⟩
  · exact absurd h0 h
  · rw [h1]; simp [oneE, hg]
  · rw [h1]; simp only [oneE, hg, hn]; rfl
def onePost (s : Sps) (n : Int) (b : Bool) (w : World) (e : Ending) (w' : World) : Prop :=
  ∃ v', e = .returned (.tuple #[v', .int .i64 (oneE s n b)]) ∧ Below w.heap.size w w' ∧ (oneE s n b ≠ 0 → v' = .slice none 0 0) ∧ (oneE s n b = 0 → OrdsAt w' w.heap.size v' (ordsX s (sprOf s n) (every (sprOf s n))))

set_option maxRecDepth 100000 in
set_option maxHeartbeats 1000000 in
theorem rone_any (s : Sps) (n : Int) (b : Bool) (v : Value) (w : World) (hsp : IsSps w v s) :
    Calls Try.prog 59 #[v, .int .i64 n, .bool b] w (onePost s n b w) := by
  have hsp' := hsp
  obtain ⟨vp, vl, rfl, hpts, hlst⟩ := hsp
  obtain ⟨la, lc, rfl, hl1, hl2⟩ := IsRows.slice hlst.choose_spec.choose_spec.1
  have HW0 := Lib.hid (OrdW.new w s.pairs vp (.slice la s.list.length lc))
  have HC := Lib.hid (fun (x : Bool) w' (hb : Below w.heap.size w w') => rcheck_any s x _ w' (hsp'.below hb))
  have HN := Lib.hid (fun w' => rnumber_any s.pairs n vp la s.list.length lc w')
  have HO := Lib.hid (fun (k : Nat) w' (hb : Below w.heap.size w w') (hg : Good s) (hk : k < s.list.length) => rorders_any s k _ w' (hsp'.below hb) hg hk)
  have q0 : ((w.alloc (.cells #[.int .i64 s.pairs, vp, .slice la s.list.length lc] 25)).drew).cell? ⟨w.heap.size, 0, none⟩ = some (.int .i64 s.pairs) := cellN (w := w) rfl rfl
  have q1 : ((w.alloc (.cells #[.int .i64 s.pairs, vp, .slice la s.list.length lc] 25)).drew).cell? ⟨w.heap.size, 1, none⟩ = some vp := cellN (w := w) rfl rfl
  have q2 : ((w.alloc (.cells #[.int .i64 s.pairs, vp, .slice la s.list.length lc] 25)).drew).cell? ⟨w.heap.size, 2, none⟩ = some (.slice la s.list.length lc) := cellN (w := w) rfl rfl
  have hS0 := And.intro q0 (And.intro q1 q2)
  have hb1 : Below w.heap.size w ((w.alloc (.cells #[.int .i64 s.pairs, vp, .slice la s.list.length lc] 25)).drew) := HW0.out.b.drew
  have HB1 := Lib.hid hb1
  have HCE := Lib.hid (checkE_num s n b)
  have HOE := Lib.hid (oneE_of (s := s) (n := n) (b := b))
  obtain ⟨q, hq⟩ : ∃ q, numB s.list.length n = q := ⟨_, rfl⟩
  rw [hq] at HN HCE HOE
  clear hb1 hsp' hpts hlst hq
  cases q
  · have hE : checkE s false ≠ 0 := by
      rcases HCE.out with ⟨_, _, h1, h2⟩ | ⟨h, _⟩
      · unfold checkE; split <;> simp
      · exact h
    have HE := Lib.hid (HOE.out hE)
    have hd : (checkE s false != 0) = true := by simpa using hE
    go_enter Try.func59, Try.ntmps59
    go_wp2
    refine (wpIn_wide (n := 1)).1 ?_
    refine heldRegion (fun X => X.cell? ⟨w.heap.size, 0, none⟩ = some (.int .i64 s.pairs) ∧ X.cell? ⟨w.heap.size, 1, none⟩ = some vp ∧ X.cell? ⟨w.heap.size, 2, none⟩ = some (.slice la s.list.length lc)) (by kernel_rfl) ?_
    refine heldTake 0 (fun _ => trivial) rfl (by kernel_rfl) (by kernel_rfl) (by kernel_rfl) (fun _ _ _ h => h) hS0 rfl (v := .agg #[.int .i64 s.pairs, vp, .slice la s.list.length lc]) ?x0 ?_
    case x0 => rintro w ⟨s1, s2, s3⟩; first | (go_simp; done) | (go_simp; simp [IntKind.wrap_i64, wrap64]; done) | simp [execOp, go_sem, *]
    try simp only [Act.put, List.setIfInBounds_toArray, List.set_cons_zero, List.set_cons_succ, List.getElem_toArray, List.getElem_cons_succ, List.getElem_cons_zero]
    refine heldTake 1 (fun _ => trivial) rfl (by kernel_rfl) (by kernel_rfl) (by kernel_rfl) (fun _ _ _ h => h) hS0 rfl (v := .agg #[.int .i64 s.pairs, vp, .slice la s.list.length lc]) ?x1 ?_
    case x1 => rintro w ⟨s1, s2, s3⟩; first | (go_simp; done) | (go_simp; simp [IntKind.wrap_i64, wrap64]; done) | simp [execOp, go_sem, *]
    try simp only [Act.put, List.setIfInBounds_toArray, List.set_cons_zero, List.set_cons_succ, List.getElem_toArray, List.getElem_cons_succ, List.getElem_cons_zero]
    refine heldTake 2 (fun _ => trivial) rfl (by kernel_rfl) (by kernel_rfl) (by kernel_rfl) (fun _ _ _ h => h) hS0 rfl (v := .int .i64 n) ?x2 ?_
    case x2 => rintro w ⟨s1, s2, s3⟩; first | (go_simp; done) | (go_simp; simp [IntKind.wrap_i64, wrap64]; done) | simp [execOp, go_sem, *]
    try simp only [Act.put, List.setIfInBounds_toArray, List.set_cons_zero, List.set_cons_succ, List.getElem_toArray, List.getElem_cons_succ, List.getElem_cons_zero]
    refine heldNext 3 (by kernel_rfl) rfl rfl (fun K hK => ?_)
    gi_wp2_with (refine ⟨trivial, ?_⟩; gi_at_call 54; refine (callsIn_wide.2 (HN.out _)).mono ?_; rintro e w2 ⟨rfl, hb2⟩)
    have hS2 : w2.cell? ⟨w.heap.size, 0, none⟩ = some (.int .i64 s.pairs) ∧ w2.cell? ⟨w.heap.size, 1, none⟩ = some vp ∧ w2.cell? ⟨w.heap.size, 2, none⟩ = some (.slice la s.list.length lc) := ⟨Below.cellSome hb2 q0, Below.cellSome hb2 q1, Below.cellSome hb2 q2⟩
    have hbw2 : Below w.heap.size w w2 := HB1.out.trans (hb2.mono (by simp))
    clear hb2
    refine hK _ _ (fun _ => hS2) ?_
    clear hK K
    try simp only [Act.put, List.setIfInBounds_toArray, List.set_cons_zero, List.set_cons_succ, List.getElem_toArray, List.getElem_cons_succ, List.getElem_cons_zero]
    refine heldNext 4 (by kernel_rfl) rfl rfl (fun K hK => ?_)
    gi_wp2
    refine hK _ _ (fun _ => hS2) ?_
    clear hK K
    try simp only [Act.put, List.setIfInBounds_toArray, List.set_cons_zero, List.set_cons_succ, List.getElem_toArray, List.getElem_cons_succ, List.getElem_cons_zero]
    refine heldSkip 5 (fun _ => trivial) rfl (by kernel_rfl) (by kernel_rfl) (by kernel_rfl) (fun _ _ _ h => h) hS2 rfl ?_
    try simp only [Act.put, List.setIfInBounds_toArray, List.set_cons_zero, List.set_cons_succ, List.getElem_toArray, List.getElem_cons_succ, List.getElem_cons_zero]
    refine heldNext 6 (by kernel_rfl) rfl rfl (fun K hK => ?_)
    gi_wp2
    refine hK _ _ (fun _ => hS2) ?_
    clear hK K
    try simp only [Act.put, List.setIfInBounds_toArray, List.set_cons_zero, List.set_cons_succ, List.getElem_toArray, List.getElem_cons_succ, List.getElem_cons_zero]
    refine heldNext 7 (by kernel_rfl) rfl rfl (fun K hK => ?_)
    gi_wp2_with (refine ⟨trivial, ?_⟩; gi_at_call 53; refine (callsIn_wide.2 (HC.out false _ hbw2)).mono ?_; rintro e w3 ⟨rfl, hb3⟩)
    have hS3 : w3.cell? ⟨w.heap.size, 0, none⟩ = some (.int .i64 s.pairs) ∧ w3.cell? ⟨w.heap.size, 1, none⟩ = some vp ∧ w3.cell? ⟨w.heap.size, 2, none⟩ = some (.slice la s.list.length lc) := ⟨Below.cellSome hb3 hS2.1, Below.cellSome hb3 hS2.2.1, Below.cellSome hb3 hS2.2.2⟩
    have hbw3 : Below w.heap.size w w3 := hbw2.trans (hb3.mono hbw2.size)
    clear hb3
    refine hK _ _ (fun _ => hS3) ?_
    clear hK K
    try simp only [Act.put, List.setIfInBounds_toArray, List.set_cons_zero, List.set_cons_succ, List.getElem_toArray, List.getElem_cons_succ, List.getElem_cons_zero]
    refine heldNext 8 (by kernel_rfl) rfl rfl (fun K hK => ?_)
    gi_wp2
    refine hK _ _ (fun _ => hS3) ?_
    clear hK K
    try simp only [Act.put, List.setIfInBounds_toArray, List.set_cons_zero, List.set_cons_succ, List.getElem_toArray, List.getElem_cons_succ, List.getElem_cons_zero]
    refine heldDone (by kernel_rfl) ?_ _
    rw [show (false && b) = false from rfl] at HE
    generalize checkE s false = E at *
    go_wp2
    refine bodyPost_ret (v := .tuple #[.slice none 0 0, .int .i64 E]) (by simp [results, Try.results59, go_sem]) rfl ⟨_, by rw [HE.out], hbw3, fun _ => rfl, fun h => absurd (HE.out ▸ h) hE⟩
  · rw [Bool.true_and] at HCE HOE
    by_cases hE : checkE s b = 0
    case neg =>
      have HE := Lib.hid (HOE.out hE)
      have hd : (checkE s b != 0) = true := by simpa using hE
      go_enter Try.func59, Try.ntmps59
      go_wp2
      refine (wpIn_wide (n := 1)).1 ?_
      refine heldRegion (fun X => X.cell? ⟨w.heap.size, 0, none⟩ = some (.int .i64 s.pairs) ∧ X.cell? ⟨w.heap.size, 1, none⟩ = some vp ∧ X.cell? ⟨w.heap.size, 2, none⟩ = some (.slice la s.list.length lc)) (by kernel_rfl) ?_
      refine heldTake 0 (fun _ => trivial) rfl (by kernel_rfl) (by kernel_rfl) (by kernel_rfl) (fun _ _ _ h => h) hS0 rfl (v := .agg #[.int .i64 s.pairs, vp, .slice la s.list.length lc]) ?x0 ?_
      case x0 => rintro w ⟨s1, s2, s3⟩; first | (go_simp; done) | (go_simp; simp [IntKind.wrap_i64, wrap64]; done) | simp [execOp, go_sem, *]
      try simp only [Act.put, List.setIfInBounds_toArray, List.set_cons_zero, List.set_cons_succ, List.getElem_toArray, List.getElem_cons_succ, List.getElem_cons_zero]
      refine heldTake 1 (fun _ => trivial) rfl (by kernel_rfl) (by kernel_rfl) (by kernel_rfl) (fun _ _ _ h => h) hS0 rfl (v := .agg #[.int .i64 s.pairs, vp, .slice la s.list.length lc]) ?x1 ?_
      case x1 => rintro w ⟨s1, s2, s3⟩; first | (go_simp; done) | (go_simp; simp [IntKind.wrap_i64, wrap64]; done) | simp [execOp, go_sem, *]
      try simp only [Act.put, List.setIfInBounds_toArray, List.set_cons_zero, List.set_cons_succ, List.getElem_toArray, List.getElem_cons_succ, List.getElem_cons_zero]
      refine heldTake 2 (fun _ => trivial) rfl (by kernel_rfl) (by kernel_rfl) (by kernel_rfl) (fun _ _ _ h => h) hS0 rfl (v := .int .i64 n) ?x2 ?_
      case x2 => rintro w ⟨s1, s2, s3⟩; first | (go_simp; done) | (go_simp; simp [IntKind.wrap_i64, wrap64]; done) | simp [execOp, go_sem, *]
      try simp only [Act.put, List.setIfInBounds_toArray, List.set_cons_zero, List.set_cons_succ, List.getElem_toArray, List.getElem_cons_succ, List.getElem_cons_zero]
      refine heldNext 3 (by kernel_rfl) rfl rfl (fun K hK => ?_)
      gi_wp2_with (refine ⟨trivial, ?_⟩; gi_at_call 54; refine (callsIn_wide.2 (HN.out _)).mono ?_; rintro e w2 ⟨rfl, hb2⟩)
      have hS2 : w2.cell? ⟨w.heap.size, 0, none⟩ = some (.int .i64 s.pairs) ∧ w2.cell? ⟨w.heap.size, 1, none⟩ = some vp ∧ w2.cell? ⟨w.heap.size, 2, none⟩ = some (.slice la s.list.length lc) := ⟨Below.cellSome hb2 q0, Below.cellSome hb2 q1, Below.cellSome hb2 q2⟩
      have hbw2 : Below w.heap.size w w2 := HB1.out.trans (hb2.mono (by simp))
      clear hb2
      refine hK _ _ (fun _ => hS2) ?_
      clear hK K
      try simp only [Act.put, List.setIfInBounds_toArray, List.set_cons_zero, List.set_cons_succ, List.getElem_toArray, List.getElem_cons_succ, List.getElem_cons_zero]
      refine heldNext 4 (by kernel_rfl) rfl rfl (fun K hK => ?_)
      gi_wp2
      refine hK _ _ (fun _ => hS2) ?_
      clear hK K
      try simp only [Act.put, List.setIfInBounds_toArray, List.set_cons_zero, List.set_cons_succ, List.getElem_toArray, List.getElem_cons_succ, List.getElem_cons_zero]
      refine heldNext 5 (by kernel_rfl) rfl rfl (fun K hK => ?_)
      gi_wp2
      refine hK _ _ (fun _ => hS2) ?_
      clear hK K
      try simp only [Act.put, List.setIfInBounds_toArray, List.set_cons_zero, List.set_cons_succ, List.getElem_toArray, List.getElem_cons_succ, List.getElem_cons_zero]
      refine heldNext 6 (by kernel_rfl) rfl rfl (fun K hK => ?_)
      gi_wp2
      refine hK _ _ (fun _ => hS2) ?_
      clear hK K
      try simp only [Act.put, List.setIfInBounds_toArray, List.set_cons_zero, List.set_cons_succ, List.getElem_toArray, List.getElem_cons_succ, List.getElem_cons_zero]
      refine heldNext 7 (by kernel_rfl) rfl rfl (fun K hK => ?_)
      gi_wp2_with (refine ⟨trivial, ?_⟩; gi_at_call 53; refine (callsIn_wide.2 (HC.out b _ hbw2)).mono ?_; rintro e w3 ⟨rfl, hb3⟩)
      have hS3 : w3.cell? ⟨w.heap.size, 0, none⟩ = some (.int .i64 s.pairs) ∧ w3.cell? ⟨w.heap.size, 1, none⟩ = some vp ∧ w3.cell? ⟨w.heap.size, 2, none⟩ = some (.slice la s.list.length lc) := ⟨Below.cellSome hb3 hS2.1, Below.cellSome hb3 hS2.2.1, Below.cellSome hb3 hS2.2.2⟩
      have hbw3 : Below w.heap.size w w3 := hbw2.trans (hb3.mono hbw2.size)
      clear hb3
      refine hK _ _ (fun _ => hS3) ?_
      clear hK K
      try simp only [Act.put, List.setIfInBounds_toArray, List.set_cons_zero, List.set_cons_succ, List.getElem_toArray, List.getElem_cons_succ, List.getElem_cons_zero]
      refine heldNext 8 (by kernel_rfl) rfl rfl (fun K hK => ?_)
      gi_wp2
      refine hK _ _ (fun _ => hS3) ?_
      clear hK K
      try simp only [Act.put, List.setIfInBounds_toArray, List.set_cons_zero, List.set_cons_succ, List.getElem_toArray, List.getElem_cons_succ, List.getElem_cons_zero]
      refine heldDone (by kernel_rfl) ?_ _
      generalize checkE s b = E at *
      go_wp2
      refine bodyPost_ret (v := .tuple #[.slice none 0 0, .int .i64 E]) (by simp [results, Try.results59, go_sem]) rfl ⟨_, by rw [HE.out], hbw3, fun _ => rfl, fun h => absurd (HE.out ▸ h) hE⟩
    case pos =>
      have hgb : goodSps s = true ∧ isNum s n = true ∧ b = true := by
        rcases HCE.out with ⟨_, h⟩ | ⟨h, _⟩
        · exact h
        · exact absurd hE h
      obtain ⟨hg, hn, rfl⟩ := hgb
      obtain ⟨k, rfl, hk⟩ := isNum_nat hn
      have hG := good_of hg
      have HE := Lib.hid (show oneE s k true = if waysX s (sprOf s k) (every (sprOf s k)) = 0 then 10 else 0 by simp [oneE, hg, hn])
      have Hsx := Lib.hid (show sprOf s k = s.list[k] by simp [sprOf, hk])
      have hX := hG.x hk
      have Hwx := Lib.hid (waysX_eq hG hX (every s.list[k]))
      have HEb := Lib.hid hE
      clear HCE HOE hE
      go_enter Try.func59, Try.ntmps59
      go_wp2
      refine (wpIn_wide (n := 1)).1 ?_
      refine heldRegion (fun X => X.cell? ⟨w.heap.size, 0, none⟩ = some (.int .i64 s.pairs) ∧ X.cell? ⟨w.heap.size, 1, none⟩ = some vp ∧ X.cell? ⟨w.heap.size, 2, none⟩ = some (.slice la s.list.length lc)) (by kernel_rfl) ?_
      refine heldTake 0 (fun _ => trivial) rfl (by kernel_rfl) (by kernel_rfl) (by kernel_rfl) (fun _ _ _ h => h) hS0 rfl (v := .agg #[.int .i64 s.pairs, vp, .slice la s.list.length lc]) ?x0 ?_
      case x0 => rintro w ⟨s1, s2, s3⟩; first | (go_simp; done) | (go_simp; simp [IntKind.wrap_i64, wrap64]; done) | simp [execOp, go_sem, *]
      try simp only [Act.put, List.setIfInBounds_toArray, List.set_cons_zero, List.set_cons_succ, List.getElem_toArray, List.getElem_cons_succ, List.getElem_cons_zero]
      refine heldTake 1 (fun _ => trivial) rfl (by kernel_rfl) (by kernel_rfl) (by kernel_rfl) (fun _ _ _ h => h) hS0 rfl (v := .agg #[.int .i64 s.pairs, vp, .slice la s.list.length lc]) ?x1 ?_
      case x1 => rintro w ⟨s1, s2, s3⟩; first | (go_simp; done) | (go_simp; simp [IntKind.wrap_i64, wrap64]; done) | simp [execOp, go_sem, *]
      try simp only [Act.put, List.setIfInBounds_toArray, List.set_cons_zero, List.set_cons_succ, List.getElem_toArray, List.getElem_cons_succ, List.getElem_cons_zero]
      refine heldTake 2 (fun _ => trivial) rfl (by kernel_rfl) (by kernel_rfl) (by kernel_rfl) (fun _ _ _ h => h) hS0 rfl (v := .int .i64 (k : Nat)) ?x2 ?_
      case x2 => rintro w ⟨s1, s2, s3⟩; first | (go_simp; done) | (go_simp; simp [IntKind.wrap_i64, wrap64]; done) | simp [execOp, go_sem, *]
      try simp only [Act.put, List.setIfInBounds_toArray, List.set_cons_zero, List.set_cons_succ, List.getElem_toArray, List.getElem_cons_succ, List.getElem_cons_zero]
      refine heldNext 3 (by kernel_rfl) rfl rfl (fun K hK => ?_)
      gi_wp2_with (refine ⟨trivial, ?_⟩; gi_at_call 54; refine (callsIn_wide.2 (HN.out _)).mono ?_; rintro e w2 ⟨rfl, hb2⟩)
      have hS2 : w2.cell? ⟨w.heap.size, 0, none⟩ = some (.int .i64 s.pairs) ∧ w2.cell? ⟨w.heap.size, 1, none⟩ = some vp ∧ w2.cell? ⟨w.heap.size, 2, none⟩ = some (.slice la s.list.length lc) := ⟨Below.cellSome hb2 q0, Below.cellSome hb2 q1, Below.cellSome hb2 q2⟩
      have hbw2 : Below w.heap.size w w2 := HB1.out.trans (hb2.mono (by simp))
      clear hb2
      refine hK _ _ (fun _ => hS2) ?_
      clear hK K
      try simp only [Act.put, List.setIfInBounds_toArray, List.set_cons_zero, List.set_cons_succ, List.getElem_toArray, List.getElem_cons_succ, List.getElem_cons_zero]
      refine heldNext 4 (by kernel_rfl) rfl rfl (fun K hK => ?_)
      gi_wp2
      refine hK _ _ (fun _ => hS2) ?_
      clear hK K
      try simp only [Act.put, List.setIfInBounds_toArray, List.set_cons_zero, List.set_cons_succ, List.getElem_toArray, List.getElem_cons_succ, List.getElem_cons_zero]
      refine heldNext 5 (by kernel_rfl) rfl rfl (fun K hK => ?_)
      gi_wp2
      refine hK _ _ (fun _ => hS2) ?_
      clear hK K
      try simp only [Act.put, List.setIfInBounds_toArray, List.set_cons_zero, List.set_cons_succ, List.getElem_toArray, List.getElem_cons_succ, List.getElem_cons_zero]
      refine heldNext 6 (by kernel_rfl) rfl rfl (fun K hK => ?_)
      gi_wp2
      refine hK _ _ (fun _ => hS2) ?_
      clear hK K
      try simp only [Act.put, List.setIfInBounds_toArray, List.set_cons_zero, List.set_cons_succ, List.getElem_toArray, List.getElem_cons_succ, List.getElem_cons_zero]
      refine heldNext 7 (by kernel_rfl) rfl rfl (fun K hK => ?_)
      gi_wp2_with (refine ⟨trivial, ?_⟩; gi_at_call 53; refine (callsIn_wide.2 (HC.out true _ hbw2)).mono ?_; rintro e w3 ⟨rfl, hb3⟩)
      have hS3 : w3.cell? ⟨w.heap.size, 0, none⟩ = some (.int .i64 s.pairs) ∧ w3.cell? ⟨w.heap.size, 1, none⟩ = some vp ∧ w3.cell? ⟨w.heap.size, 2, none⟩ = some (.slice la s.list.length lc) := ⟨Below.cellSome hb3 hS2.1, Below.cellSome hb3 hS2.2.1, Below.cellSome hb3 hS2.2.2⟩
      have hbw3 : Below w.heap.size w w3 := hbw2.trans (hb3.mono hbw2.size)
      clear hb3
      refine hK _ _ (fun _ => hS3) ?_
      clear hK K
      try simp only [Act.put, List.setIfInBounds_toArray, List.set_cons_zero, List.set_cons_succ, List.getElem_toArray, List.getElem_cons_succ, List.getElem_cons_zero]
      refine heldNext 8 (by kernel_rfl) rfl rfl (fun K hK => ?_)
      gi_wp2
      refine hK _ _ (fun _ => hS3) ?_
      clear hK K
      try simp only [Act.put, List.setIfInBounds_toArray, List.set_cons_zero, List.set_cons_succ, List.getElem_toArray, List.getElem_cons_succ, List.getElem_cons_zero]
      refine heldDone (by kernel_rfl) ?_ _
      rw [HEb.out]
      have hz3 := hbw3.size
      obtain ⟨k0, k1, k2⟩ := hS3
      go_wp2_with fail
      refine (HO.out k _ hbw3 hG hk).mono ?_
      rintro e w4 ⟨v4, rfl, hO4, hb4⟩
      obtain ⟨a4, c4, rfl, hla4, hlc4⟩ := hO4.slice
      obtain ⟨m, hm⟩ : ∃ m, (ordsX s s.list[k] (every s.list[k])).length = m := ⟨_, rfl⟩
      rw [hm] at hla4 ⊢
      have Hm := Lib.hid hm
      have HO4 := Lib.hid hO4
      clear hO4 hm
      by_cases h0 : m = 0
      · subst h0
        have HE2 := Lib.hid (show oneE s k true = 10 by rw [HE.out, Hsx.out, Hwx.out, Hm.out]; rfl)
        go_wp2
        refine bodyPost_ret (v := .tuple #[.slice none 0 0, .int .i64 10]) (by simp [results, Try.results59, go_sem]) rfl ⟨_, by rw [HE2.out], hbw3.trans (hb4.mono hbw3.size), fun _ => rfl, fun h => by rw [HE2.out] at h; cases h⟩
      · have hd : ((m : Int) == 0) = false := by simp; exact h0
        have HE2 := Lib.hid (show oneE s k true = 0 by rw [HE.out, Hsx.out, Hwx.out, Hm.out, if_neg h0])
        clear h0
        go_wp2
        refine bodyPost_ret (v := .tuple #[.slice a4 m c4, .int .i64 0]) (by simp [results, Try.results59, go_sem]) rfl ⟨_, by rw [HE2.out], hbw3.trans (hb4.mono hbw3.size), fun h => absurd HE2.out h, fun _ => by rw [Hsx.out, ← Hm.out]; exact HO4.out.base hbw3.size⟩
end Go.Proofs.Ytoabfffmjhdijaa
