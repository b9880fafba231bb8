import Derived.Test.YtoabfffmjhdijaaRef3
import Derived.OneCell
import Derived.Laws.AppendOwnNone
/- The document's answer: all orders. -/
set_option linter.unusedSimpArgs false
set_option linter.unusedVariables false
namespace Go.Proofs.Ytoabfffmjhdijaa
open Go.RowKit Go.Shelf

def ordV (l : List Nat) : List Value := l.map fun n : Nat => .int .i64 n
theorem ordV_length (l : List Nat) : (ordV l).length = l.length := by simp [ordV]
/-- A row of numbers reads. -/
theorem ints_of_own {w : World} {base : Nat} {v : Value} {l : List Nat} (h : w.ownsRow base 3 1 v l.length (ordV l)) : IsInts w v (intsL l) := by
  rcases h.2 with ⟨rfl, h0⟩ | ⟨g, cap, cur, rfl, hb, hg, hc, hm, hs, ht⟩
  · exact ⟨none, 0, by rw [intsL_length, h0], by rw [intsL_length]; omega, by omega, fun h => by rw [intsL_length] at h; omega⟩
  · refine ⟨some ⟨g, 0, none⟩, cap, by rw [intsL_length], by rw [intsL_length]; exact hc, by unfold maxLen at hm; omega, fun _ => ⟨g, 0, rfl, fun k j hk hj => ?_⟩⟩
    obtain rfl : j = 0 := by omega
    rw [intsL_length] at hk
    have h1 := h.cells (g := g) rfl k (.int .i64 (l[k] : Nat)) (by simp [ordV, hk])
    have e : (⟨g, 0, none⟩ : Addr).add k = ⟨g, 0 + k * 1 + 0, none⟩ := by simp [Addr.add]; omega
    rw [e] at h1
    rw [h1]; simp [intsL, hk]
theorem own_ne {w : World} {b1 b2 n1 n2 : Nat} {u v : Value} {xs ys : List Value} (h : w.ownsRow b1 3 1 u n1 xs) (k : w.ownsRow b2 22 1 v n2 ys) : u.ownBlock = none ∨ u.ownBlock ≠ v.ownBlock := by
  rcases h.2 with ⟨rfl, h0⟩ | ⟨g, cap, cur, rfl, hb, hg, _⟩
  · exact .inl rfl
  · rcases k.2 with ⟨rfl, k0⟩ | ⟨g', cap', cur', rfl, kb, kg, _⟩
    · exact .inr (by simp [Value.ownBlock])
    · refine .inr fun e => ?_
      simp only [Value.ownBlock, Option.some.injEq] at e
      subst e
      rw [hg] at kg
      simp at kg
theorem own_weak {w : World} {b b' n : Nat} {e : TypeId} {v : Value} {xs : List Value} (h : w.ownsRow b e 1 v n xs) (hb : b' ≤ b) : w.ownsRow b' e 1 v n xs := by
  refine ⟨h.1, ?_⟩
  rcases h.2 with h0 | ⟨g, cap, cur, h1, h2, h3⟩
  · exact .inl h0
  · exact .inr ⟨g, cap, cur, h1, by omega, h3⟩
/-- What lies below a mark, and each row of numbers, is as it was. -/
structure Pres (base : Nat) (w w' : World) : Prop where
  b : Below base w w'
  r : ∀ (g : Nat) (cur : Array Value), w.heap[g]? = some (Obj.cells cur 3 (0, 0)) → w'.heap[g]? = some (Obj.cells cur 3 (0, 0))
theorem Pres.refl (base : Nat) (w : World) : Pres base w w := ⟨Below.refl _ _, fun _ _ h => h⟩
theorem Pres.trans {base : Nat} {a b c : World} (h : Pres base a b) (k : Pres base b c) : Pres base a c := ⟨h.b.trans k.b, fun g cur e => k.r g cur (h.r g cur e)⟩
theorem Pres.of_below {base : Nat} {w w' : World} (h : Below w.heap.size w w') (hb : base ≤ w.heap.size) : Pres base w w' :=
  ⟨h.mono hb, fun g cur e => by rw [h.block g (Array.getElem?_eq_some_iff.1 e).1]; exact e⟩
theorem Pres.own {base b n : Nat} {w w' : World} {u : Value} {xs : List Value} (h : Pres base w w') (k : w.ownsRow b 3 1 u n xs) : w'.ownsRow b 3 1 u n xs := by
  refine ⟨k.1, ?_⟩
  rcases k.2 with k0 | ⟨g, cap, cur, k1, k2, k3, k4⟩
  · exact .inl k0
  · exact .inr ⟨g, cap, cur, k1, k2, h.r g cur k3, k4⟩
theorem Pres.grown {base b n : Nat} {w w' : World} {v : Value} {xs : List Value} (k : w.ownsRow b 22 1 v n xs) (hb : base ≤ b) (hbw : base ≤ w.heap.size) (hg : w.grownBy w' v.ownBlock) : Pres base w w' := by
  refine ⟨⟨hg.os, hg.tape, hg.output, hg.size, fun i hi => hg.block i (by omega) (fun e => by have := (k.lt i e.symm).1; omega)⟩, fun g cur e => ?_⟩
  rw [hg.block g (Array.getElem?_eq_some_iff.1 e).1 ?_]
  · exact e
  · intro e'
    rcases k.2 with ⟨rfl, k0⟩ | ⟨g', cap', cur', rfl, kb, kg, _⟩
    · simp [Value.ownBlock] at e'
    · simp only [Value.ownBlock, Option.some.injEq] at e'
      subst e'
      rw [e] at kg
      simp at kg
/-- A list of orders that the call owns. -/
def OrdsAt (w : World) (base : Nat) (v : Value) (Ls : List (List Nat)) : Prop :=
  ∃ vs : List Value, w.ownsRow base 22 1 v Ls.length vs ∧ ∀ (i : Nat) (u : Value) (l : List Nat), vs[i]? = some u → Ls[i]? = some l → w.ownsRow 0 3 1 u l.length (ordV l)
theorem OrdsAt.nil (w : World) (base : Nat) : OrdsAt w base (.slice none 0 0) [] := ⟨[], World.ownsRow_nil _ _ _ _, fun i u l h => by simp at h⟩
theorem OrdsAt.below {w w' : World} {base : Nat} {v : Value} {Ls : List (List Nat)} (h : OrdsAt w base v Ls) (hb : Below w.heap.size w w') : OrdsAt w' base v Ls := by
  obtain ⟨vs, h1, h2⟩ := h
  have hg : w.grownBy w' none := ⟨hb.os, hb.tape, hb.output, hb.size, fun k hk _ => hb.block k hk⟩
  refine ⟨vs, h1.kept hg ?_, fun i u l hu hl => (h2 i u l hu hl).kept hg ?_⟩
  · cases v.ownBlock <;> simp
  · cases u.ownBlock <;> simp
theorem info22 : (Try.prog.info? 22).map (fun i => (i.zero, i.size, i.bytes)) = some (some (.slice none 0 0), 1, 24) := by kernel_rfl
theorem und51 : Try.prog.underlying 51 = some (.slice 22) := by kernel_rfl
theorem info3 : (Try.prog.info? 3).map (fun i => (i.zero, i.size, i.bytes)) = some (some (.int .i64 0), 1, 8) := by kernel_rfl
theorem und22 : Try.prog.underlying 22 = some (.slice 3) := by kernel_rfl
/-- One order more. -/
theorem OrdsAt.push {w w' : World} {base : Nat} {v v' u : Value} {Ls : List (List Nat)} {vs : List Value} {l : List Nat} (hv : w.ownsRow base 22 1 v Ls.length vs) (hu : ∀ (i : Nat) (u : Value) (l : List Nat), vs[i]? = some u → Ls[i]? = some l → w.ownsRow 0 3 1 u l.length (ordV l))
    (hl : w.ownsRow 0 3 1 u l.length (ordV l)) (hown : w'.ownsRow base 22 1 v' (Ls.length + 1) (vs ++ [u])) (hg : w.grownBy w' v.ownBlock) : OrdsAt w' base v' (Ls ++ [l]) := by
  have hvl : vs.length = Ls.length := by have := hv.1; omega
  refine ⟨vs ++ [u], by simpa using hown, fun i x m hx hm => ?_⟩
  have keep : ∀ {x : Value} {m : List Nat}, w.ownsRow 0 3 1 x m.length (ordV m) → w'.ownsRow 0 3 1 x m.length (ordV m) := fun {x m} hx => hx.kept hg (own_ne hx hv)
  rw [List.getElem?_append] at hx hm
  by_cases hi : i < vs.length
  · rw [if_pos hi] at hx; rw [if_pos (by omega)] at hm
    exact keep (hu i x m hx hm)
  · rw [if_neg hi] at hx; rw [if_neg (by omega)] at hm
    have hi0 : i = vs.length := by
      rcases Nat.lt_or_ge 0 (i - vs.length) with h | h
      · rw [List.getElem?_eq_none (by simp; omega)] at hx; cases hx
      · omega
    subst hi0
    simp at hx
    rw [hvl] at hm
    simp at hm
    subst hx; subst hm
    exact keep hl
theorem allOrd_length (n : Nat) : ∀ (k : Nat) (b : List Nat), (allOrd n k b).length ≤ n ^ k
  | 0, b => by simp [allOrd]
  | k + 1, b => by
    unfold allOrd
    have h : ∀ (l : List Nat), (l.flatMap fun i => if i ∈ b then [] else allOrd n k (b ++ [i])).length ≤ l.length * n ^ k := by
      intro l
      induction l with
      | nil => simp
      | cons a t ih =>
        rw [List.flatMap_cons, List.length_append, List.length_cons, Nat.add_mul, Nat.one_mul]
        have : (if a ∈ b then [] else allOrd n k (b ++ [a])).length ≤ n ^ k := by
          split
          · simp
          · exact allOrd_length n k _
        omega
    have := h (List.range n)
    rw [List.length_range] at this
    rw [Nat.pow_succ, Nat.mul_comm]; exact this
/-- The orders that go on from some, by the first pair that comes. -/
def allTo (n k : Nat) (b : List Nat) (j : Nat) : List (List Nat) := (List.range j).flatMap fun i => if i ∈ b then [] else allOrd n k (b ++ [i])
theorem allTo_step (n k : Nat) (b : List Nat) (j : Nat) : allTo n k b (j + 1) = allTo n k b j ++ (if j ∈ b then [] else allOrd n k (b ++ [j])) := by
  unfold allTo; rw [List.range_succ, List.flatMap_append]; simp
theorem allTo_length (n k : Nat) (b : List Nat) : ∀ j, (allTo n k b j).length ≤ j * n ^ k
  | 0 => by simp [allTo]
  | j + 1 => by
    rw [allTo_step, List.length_append, Nat.add_mul, Nat.one_mul]
    have h1 := allTo_length n k b j
    have : (if j ∈ b then [] else allOrd n k (b ++ [j])).length ≤ n ^ k := by
      split
      · simp
      · exact allOrd_length n k _
    omega
theorem atP_mem {l : List Nat} {p : Nat} (h : p ∈ l) : decide (atP l p < 0) = false := by
  unfold atP; rw [if_pos ⟨by simpa using h, by omega⟩]; simp
theorem atP_not {l : List Nat} {p : Nat} (h : p ∉ l) : decide (atP l p < 0) = true := by
  unfold atP; rw [if_neg (by simp [h])]; simp

set_option maxRecDepth 100000 in
set_option maxHeartbeats 1000000 in
theorem all_any (n : Nat) (hn : n ≤ 6) (base : Nat) : ∀ (k : Nat) (b : List Nat) (vb v : Value) (Ls : List (List Nat)) (w : World), b.length + k = n → w.ownsRow 0 3 1 vb b.length (ordV b) → OrdsAt w base v Ls → base ≤ w.heap.size → Ls.length + n ^ k ≤ 100000 →
    Calls Try.prog 92 #[.int .i64 n, vb, v] w fun e w' => ∃ v', e = .returned v' ∧ OrdsAt w' base v' (Ls ++ allOrd n k b) ∧ Pres base w w'
  | 0, b, vb, v, Ls, w, hk, hb, hv, hbase, hlen => by
    obtain ⟨vs, hv1, hv2⟩ := hv
    have hsl : ∃ a c, vb = .slice a b.length c := by
      rcases hb.2 with ⟨h, h0⟩ | ⟨g, cap, cur, h, _⟩
      · exact ⟨none, 0, by rw [h, h0]⟩
      · exact ⟨_, _, h⟩
    obtain ⟨a, c, rfl⟩ := hsl
    obtain ⟨i0, hi, hz0, hz1, hz2⟩ := info_parts info22
    have he : ((b.length : Int) == (n : Int)) = true := by simp; omega
    have hA : allOrd n 0 b = [b] := rfl
    rw [hA]
    have Hb := Lib.hid hb; clear hb
    have Hv1 := Lib.hid hv1; clear hv1
    have Hv2 := Lib.hid hv2; clear hv2
    have Hz0 := Lib.hid hz0; clear hz0
    have Hz1 := Lib.hid hz1; clear hz1
    have Hz2 := Lib.hid hz2; clear hz2
    have Hi := Lib.hid hi; clear hi
    have hl : Ls.length + 1 ≤ 100000 := by simpa using hlen
    clear hlen hk hA
    go_enter Try.func92, Try.ntmps92
    go_wp2_with (at_builtin; refine wpList_append_own _ rfl _ _ 51 rfl base 22 i0 (.slice none 0 0) 1 24 und51 Hi.out Hz0.out Hz1.out Hz2.out rfl (by decide) _ Ls.length _ rfl (Hv1.out.alloc _) ⟨w.heap.size, 0, none⟩ 1 1 [.slice a b.length c] rfl rfl ?c1 ?c2 ?c3 ?c4 ?c5 ?_)
    case c1 => exact cell_one_new _ _ _
    case c2 => intro u hu; simp at hu; subst hu; rfl
    case c3 => unfold maxLen; omega
    case c4 => omega
    case c5 => simp; omega
    intro v' w3 hown hgrow _
    go_wp2
    go_ret
    have hbw : Below w.heap.size w (w.alloc (.cells #[.slice a b.length c] 22)) := (Below.refl _ _).alloc (Nat.le_refl _) _
    have hp0 := Pres.of_below (base := base) hbw hbase
    exact ⟨v', rfl, OrdsAt.push (Hv1.out.alloc _) (fun i u l hu hl => (Hv2.out i u l hu hl).alloc _) (Hb.out.alloc _) hown hgrow, hp0.trans (Pres.grown (Hv1.out.alloc _) (Nat.le_refl _) (by simp; omega) hgrow)⟩
  | k + 1, b, vb, v, Ls, w, hk, hb, hv, hbase, hlen => by
    have IH := Lib.hid (fun (b : List Nat) (vb v : Value) (Ls : List (List Nat)) (w : World) => all_any n hn base k b vb v Ls w)
    have hsl : ∃ a c, vb = .slice a b.length c := by
      rcases hb.2 with ⟨h, h0⟩ | ⟨g, cap, cur, h, _⟩
      · exact ⟨none, 0, by rw [h, h0]⟩
      · exact ⟨_, _, h⟩
    obtain ⟨a, c, rfl⟩ := hsl
    obtain ⟨i0, hi, hz0, hz1, hz2⟩ := info_parts info3
    have he : ((b.length : Int) == (n : Int)) = false := by simp; omega
    have HA : Hid (allOrd n (k + 1) b = allTo n k b n) := Lib.hid rfl
    have Hpw := Lib.hid (show Ls.length + n * n ^ k ≤ 100000 by rw [Nat.pow_succ, Nat.mul_comm] at hlen; exact hlen)
    have Hb := Lib.hid hb; clear hb
    have Hv := Lib.hid hv; clear hv
    have Hz0 := Lib.hid hz0; clear hz0
    have Hz1 := Lib.hid hz1; clear hz1
    have Hz2 := Lib.hid hz2; clear hz2
    have Hi := Lib.hid hi; clear hi
    have Hk := Lib.hid hk
    have hbl : b.length < n := by omega
    clear hlen hk
    go_enter Try.func92, Try.ntmps92
    go_wp2
    go_loopw [2, 7] (fun o i wr => ∃ j : Nat, j ≤ n ∧ i = .int .i64 j ∧ OrdsAt wr base o (Ls ++ allTo n k b j) ∧ Pres base w wr) (fun _ i _ => n - (intOf i).toNat)
    case atStart => exact ⟨0, by omega, rfl, by simpa [allTo] using Hv.out, Pres.refl _ _⟩
    case round =>
      obtain ⟨j, hj, rfl, hO, hP⟩ := hrel
      have HO := Lib.hid hO; clear hO
      have HP := Lib.hid hP
      have hsz := hP.b.size
      have hbase' : base ≤ wr.heap.size := by omega
      clear hP
      by_cases hlt : j < n
      · have Hst := Lib.hid (allTo_step n k b j)
        have HAt := Lib.hid ((atI_nat b (j : Int)) ▸ rat_any _ (intsL b) (j : Int) wr (ints_of_own (HP.out.own Hb.out)))
        by_cases hm : j ∈ b
        · have hd := atP_mem hm
          have HS2 := Lib.hid (show Ls ++ allTo n k b (j + 1) = Ls ++ allTo n k b j by rw [Hst.out, if_pos hm, List.append_nil])
          clear hm
          go_wp2_with (go_at_call 38; refine HAt.out.mono ?_; rintro e w' ⟨rfl, rfl⟩)
          go_roundw
          case rel => exact ⟨j + 1, by omega, by go_num, by rw [HS2.out]; exact HO.out, HP.out⟩
          case measure => simp [intOf]; omega
        · have hd := atP_not hm
          have HS2 := Lib.hid (show Ls ++ allTo n k b (j + 1) = (Ls ++ allTo n k b j) ++ allOrd n k (b ++ [j]) by rw [Hst.out, if_neg hm, List.append_assoc])
          have HL := Lib.hid (show (Ls ++ allTo n k b j).length + n ^ k ≤ 100000 by
            have h1 := allTo_length n k b j
            have h2 : (j + 1) * n ^ k ≤ n * n ^ k := Nat.mul_le_mul_right _ (by omega)
            rw [Nat.add_mul, Nat.one_mul] at h2
            have := Hpw.out
            rw [List.length_append]; omega)
          clear hm
          have Hbw := Lib.hid (HP.out.own Hb.out)
          have hE : (wr.alloc (.cells #[] 3)).ownsRow wr.heap.size 3 1 (.slice (some ⟨wr.heap.size, 0, none⟩) 0 0) 0 [] := World.ownsRow_made _ #[] 0 (Nat.le_refl _) (by unfold maxLen; omega) rfl
          have HE := Lib.hid hE; clear hE
          have Hsrc : Hid (b = [] ∧ a = none ∧ c = 0 ∨ ∃ ad, a = some ad ∧ ∀ (i : Nat) (u : Value), (ordV b)[i]? = some u → (wr.alloc (.cells #[] 3)).cell? (ad.add i) = some u) := Lib.hid (by
            rcases Hbw.out.2 with ⟨h, h0⟩ | ⟨g, cap, cur, h, _⟩
            · simp only [Value.slice.injEq] at h; exact .inl ⟨List.length_eq_zero_iff.1 h0, h.1, h.2.2⟩
            · simp only [Value.slice.injEq] at h; refine .inr ⟨_, h.1, fun i u hu => (Hbw.out.alloc _).cells (by rw [h.1]; rfl) i u hu⟩)
          have HIH := Lib.hid (fun (u : Value) (w' : World) (hb' : w'.ownsRow wr.heap.size 3 1 u (b.length + 1) (ordV b ++ [.int .i64 j])) (hbl : Below wr.heap.size wr w') =>
            IH.out (b ++ [j]) u u2 (Ls ++ allTo n k b j) w' (by have := Hk.out; simp; omega) (by have h := own_weak hb' (Nat.zero_le _); simpa [ordV] using h) (HO.out.below hbl) (by have := hbl.size; omega) HL.out)
          rcases Hsrc.out with ⟨hb0, ha0, hc0⟩ | ⟨ad, ha0, hnews⟩
          · subst ha0 hc0
            have Hb0 := Lib.hid hb0
            have Hbx := Lib.hid (show Value.slice none b.length 0 = .slice none 0 0 by rw [hb0]; rfl)
            clear hb0 Hsrc
            go_wp2_with (first | (go_at_call 38; refine HAt.out.mono ?_; rintro e w' ⟨rfl, rfl⟩) | (at_builtin; refine wpList_append_own_none rfl (.tmp 26) (.tmp 27) 22 rfl wr.heap.size 3 i0 1 und22 Hi.out _ 0 [] rfl HE.out Hbx.out ?_) |
              (at_builtin; refine wpList_append_own _ rfl (.tmp 28) (.tmp 30) 22 rfl wr.heap.size 3 i0 (.int .i64 0) 1 8 und22 Hi.out Hz0.out Hz1.out Hz2.out rfl (by decide) _ 0 [] rfl (HE.out.alloc _) ⟨wr.heap.size + 1, 0, none⟩ 1 1 [.int .i64 j] rfl rfl ?c1 ?c2 ?c3 ?c4 ?c5 ?_))
            case c1 => exact fun i u hu => by simpa using cell_one_new (wr.alloc (.cells #[] 3)) _ 3 i u hu
            case c2 => intro u hu; simp at hu; subst hu; rfl
            case c3 => unfold maxLen; omega
            case c4 => omega
            case c5 => simp; omega
            intro v' w3 hown hgrow _
            have hbl : Below wr.heap.size wr w3 := (((Below.refl _ _).alloc (Nat.le_refl _) _).alloc (by simp) _).grown hgrow (by simp; omega) (fun k e => by simp [Value.ownBlock] at e; omega)
            have HC := Lib.hid (HIH.out v' w3 (by rw [Hb0.out]; simpa [ordV] using hown) hbl)
            have HPB := Lib.hid (HP.out.trans (Pres.of_below hbl hbase'))
            clear hown hgrow hbl
            go_wp2_with (go_at_call 92; refine HC.out.mono ?_; rintro e w4 ⟨v4, rfl, hO4, hP4⟩)
            have HO4 := Lib.hid hO4; clear hO4
            have HP4 := Lib.hid (HPB.out.trans hP4); clear hP4
            go_wp2
            go_roundw
            case rel => exact ⟨j + 1, by omega, by go_num, by rw [HS2.out]; exact HO4.out, HP4.out⟩
            case measure => simp [intOf]; omega
          · subst ha0
            go_wp2_with (first | (go_at_call 38; refine HAt.out.mono ?_; rintro e w' ⟨rfl, rfl⟩) | (at_builtin; refine wpList_append_own _ rfl (.tmp 26) (.tmp 27) 22 rfl wr.heap.size 3 i0 (.int .i64 0) 1 8 und22 Hi.out Hz0.out Hz1.out Hz2.out rfl (by decide) _ 0 [] rfl HE.out ad b.length c (ordV b) rfl ?c0 hnews ?c2 ?c3 ?c4 ?c5 ?_))
            case c0 => simp [ordV]
            case c2 => intro u hu; simp [ordV] at hu; obtain ⟨q, _, rfl⟩ := hu; rfl
            case c3 => unfold maxLen; omega
            case c4 => omega
            case c5 => simp
            intro v1 w2 hown1 hgrow1 _
            have hbl1 : Below wr.heap.size wr w2 := ((Below.refl _ _).alloc (Nat.le_refl _) _).grown hgrow1 (by simp) (fun k e => by simp [Value.ownBlock] at e; omega)
            have Hown1 : Hid (w2.ownsRow wr.heap.size 3 1 v1 b.length (ordV b)) := Lib.hid (by simpa using hown1)
            have hs2 := hbl1.size
            have Hbl1 := Lib.hid hbl1
            clear hown1 hgrow1 hbl1 hnews
            go_wp2_with (at_builtin; refine wpList_append_own _ rfl (.tmp 28) (.tmp 30) 22 rfl wr.heap.size 3 i0 (.int .i64 0) 1 8 und22 Hi.out Hz0.out Hz1.out Hz2.out rfl (by decide) _ b.length (ordV b) rfl (Hown1.out.alloc _) ⟨w2.heap.size, 0, none⟩ 1 1 [.int .i64 j] rfl rfl ?c1 ?c2 ?c3 ?c4 ?c5 ?_)
            case c1 => exact cell_one_new _ _ _
            case c2 => intro u hu; simp at hu; subst hu; rfl
            case c3 => unfold maxLen; omega
            case c4 => omega
            case c5 => simp; omega
            intro v' w3 hown hgrow _
            have hbl : Below wr.heap.size wr w3 := Hbl1.out.trans (((Below.refl _ _).alloc hs2 _).grown hgrow (by simp; omega) (fun k e => (Hown1.out.lt k e).1))
            have HC := Lib.hid (HIH.out v' w3 (by simpa [ordV] using hown) hbl)
            have HPB := Lib.hid (HP.out.trans (Pres.of_below hbl hbase'))
            clear hown hgrow hbl
            go_wp2_with (go_at_call 92; refine HC.out.mono ?_; rintro e w4 ⟨v4, rfl, hO4, hP4⟩)
            have HO4 := Lib.hid hO4; clear hO4
            have HP4 := Lib.hid (HPB.out.trans hP4); clear hP4
            go_wp2
            go_roundw
            case rel => exact ⟨j + 1, by omega, by go_num, by rw [HS2.out]; exact HO4.out, HP4.out⟩
            case measure => simp [intOf]; omega
      · have hjn : j = n := by omega
        have HO2 := Lib.hid (show OrdsAt wr base u2 (Ls ++ allOrd n (k + 1) b) by rw [HA.out]; have h := HO.out; rw [hjn] at h; exact h)
        clear hjn
        go_wp2
        go_ret
        exact ⟨_, rfl, HO2.out, HP.out⟩
end Go.Proofs.Ytoabfffmjhdijaa
