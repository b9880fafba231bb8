import Derived.Test.YtjmobepipfbbnaaTruA
import Derived.Test.YtjmobepipfbbnaaHeavy
import Derived.Test.YtjmobepipfbbnaaTrLaw
/- The document's truths: every truth that goes on from some offences is laid behind those that are there. All truths of valid fines (Truths); what FineEnds asks of them, plainly. -/
set_option linter.unusedSimpArgs false
set_option linter.unusedVariables false
namespace Go.Proofs.Ytjmobepipfbbnaa
open Go.RowKit Go.Shelf
attribute [local go_sem] Oper.semAt_some
theorem Newer.le {n m : Nat} {a b : Option Nat} (h : Newer m a b) (hm : n ≤ m) : Newer n a b := by
  rcases h with h | ⟨k, h, hk⟩
  · exact .inl h
  · exact .inr ⟨k, h, by omega⟩
/-- What truths reads: the fines and the truth so far, boxed; the offence. -/
structure TruR (B : Nat) (f : Fns) (nr : Nat) (ra la : Option Addr) (rc lc : Nat) (o : Off) (S : Nat) (rv hv : Value) (rs hs : List Int) (X : World) : Prop where
  fn : IsFns X (.agg #[.slice ra f.rules.length rc, .int .i64 (nr : Int), .slice la f.list.length lc]) f
  ri : IsInts X rv rs
  hi : IsInts X hv hs
  c0 : X.cell? ⟨B, 0, none⟩ = some (.slice ra f.rules.length rc)
  c1 : X.cell? ⟨B, 1, none⟩ = some (.int .i64 (nr : Int))
  c2 : X.cell? ⟨B, 2, none⟩ = some (.slice la f.list.length lc)
  t0 : X.cell? ⟨B + 1, 0, none⟩ = some rv
  t1 : X.cell? ⟨B + 1, 1, none⟩ = some hv
  o0 : X.cell? ⟨B + 1 + 1, 0, none⟩ = some (.int .i64 o.kind)
  o1 : X.cell? ⟨B + 1 + 1, 1, none⟩ = some (.int .i64 (S : Int))
  o2 : X.cell? ⟨B + 1 + 1, 2, none⟩ = some (.int .i64 o.lo)
  o3 : X.cell? ⟨B + 1 + 1, 3, none⟩ = some (.int .i64 o.hi)
/-- The world of the loops. -/
structure TruI (w : World) (b : Option Nat) (base : Nat) (R : World → Prop) (X : World) (x : Value) (ds : List Pair) : Prop where
  st : St x.ownBlock X R
  out : OutAt X base x ds
  g : w.grownBy X b
  nw : Newer w.heap.size b x.ownBlock
  sl : base ≤ X.heap.size
theorem TruI.below {w X Y : World} {b : Option Nat} {base : Nat} {R : World → Prop} {x : Value} {ds : List Pair} (h : TruI w b base R X x ds) (hb : Below X.heap.size X Y) : TruI w b base R Y x ds :=
  ⟨h.st.below hb, h.out.below hb, h.g.trans (grownBy_of_below hb b), h.nw, Nat.le_trans h.sl hb.size⟩
theorem TruI.call {w X Y : World} {b : Option Nat} {base : Nat} {R : World → Prop} {x y : Value} {ds es : List Pair} (h : TruI w b base R X x ds) (ho : OutAt Y base y es) (hg : X.grownBy Y x.ownBlock) (hn : Newer X.heap.size x.ownBlock y.ownBlock) : TruI w b base R Y y es :=
  ⟨h.st.newer hg hn, ho, grown_newer h.g (h.nw.le (Nat.le_refl _)) hg, h.nw.trans hn h.g.size, Nat.le_trans h.sl hg.size⟩
set_option maxRecDepth 100000 in
set_option maxHeartbeats 4000000 in
theorem truths_any (f : Fns) (hg : goodFns f = true) (nr : Nat) (hnr : f.riders = (nr : Int)) (hn6 : nr ≤ 6) : ∀ (m : Nat) (rs hs : List Int), rs.length + m = f.list.length → hs.length = rs.length → ∀ (fv rv hv ov : Value) (ts : List Pair) (base : Nat) (w : World),
    St ov.ownBlock w (fun w => IsFns w fv f) → TrV ov.ownBlock w (rv, hv) (rs, hs) → OutAt w base ov ts → base ≤ w.heap.size → ts.length + (goT nr (f.list.drop rs.length) rs hs).length < 4000000 →
    Calls Try.prog 68 #[fv, .agg #[rv, hv], ov] w fun e w' => ∃ ov', e = .returned ov' ∧ OutAt w' base ov' (ts ++ goT nr (f.list.drop rs.length) rs hs) ∧ w.grownBy w' ov.ownBlock ∧ Newer w.heap.size ov.ownBlock ov'.ownBlock := by
  intro m
  induction m with
  | zero =>
    intro rs hs hm hl fv rv hv ov ts base w hf ht ho hb hn
    obtain ⟨vr, vl, rfl, hr0, ho0⟩ := hf.now
    obtain ⟨ra, rc, rfl, z1, z2⟩ := IsRows.slice hr0
    obtain ⟨la, lc, rfl, z3, z4⟩ := IsRows.slice ho0
    obtain ⟨ha, hc, rfl, z5, z6⟩ := IsRows.slice ht.now.1
    obtain ⟨ga, gc, rfl, z7, z8⟩ := IsRows.slice ht.now.2
    rw [hnr] at hf ⊢
    have hb3 : Below w.heap.size w (((w.alloc (.cells #[.slice ra f.rules.length rc, .int .i64 (nr : Int), .slice la f.list.length lc] 25)).alloc (.cells #[.slice ha rs.length hc, .slice ga hs.length gc] 62)).alloc (.cells #[.slice ha rs.length hc, .slice ga hs.length gc] 62)) := (((Below.refl _ _).alloc (Nat.le_refl _) _).alloc (by simp) _).alloc (by simp; omega) _
    obtain ⟨v', W', hap, q1, q2, q3⟩ := append_truth (ho.below hb3) (by omega) (Nat.le_trans hb hb3.size) (ht.below hb3) (w.heap.size + 1 + 1) (cellN (by simp) rfl) (cellN (by simp) rfl)
    have Hap := Lib.hid hap
    have Hq := Lib.hid (And.intro q1 (And.intro ((grownBy_of_below hb3 _).trans q2) (q3.le hb3.size)))
    have hd : goT nr (f.list.drop rs.length) rs hs = [(rs, hs)] := by rw [show rs.length = f.list.length by omega, List.drop_length]; rfl
    rw [hd]
    obtain ⟨oa, oc, rfl⟩ := own_slice ho.choose_spec.1
    have hlen : rs.length = f.list.length := by omega
    clear hap q1 q2 q3 hb3 hd hf ht ho hr0 ho0 hn
    rw [hl] at Hap
    rw [hl]
    rw [hlen] at Hap ⊢
    go_enter Try.func68, Try.ntmps68
    go_wp2_with (at_builtin; refine wpList_append_run rfl (.tmp 19) (.tmp 21) 59 rfl _ _ rfl rfl Hap.out ?_)
    go_ret
    exact ⟨_, rfl, Hq.out⟩
  | succ m ih =>
    intro rs hs hm hl fv rv hv ov ts base w hf ht ho hb hn
    have hlt : rs.length < f.list.length := by omega
    obtain ⟨vr, vl, rfl, hr0, ho0⟩ := hf.now
    obtain ⟨ra, rc, rfl, z1, z2⟩ := IsRows.slice hr0
    obtain ⟨la, lc, rfl, z3, z4⟩ := IsRows.slice ho0
    obtain ⟨ha, hc, rfl, z5, z6⟩ := IsRows.slice ht.now.1
    obtain ⟨ga, gc, rfl, z7, z8⟩ := IsRows.slice ht.now.2
    rw [hnr] at hf ⊢
    obtain ⟨rb, ro, hla, p0, p1, p2, p3⟩ := IsOffs.get ho0 hlt
    subst hla
    have hgo := good_off hg hlt
    obtain ⟨S, hoR, hS0, hS64⟩ := off_set hg hlt
    obtain ⟨o, hoe⟩ : ∃ o, f.list[rs.length] = o := ⟨_, rfl⟩
    rw [hoe] at p0 p1 p2 p3 hgo hoR
    unfold goodOff at hgo
    simp only [Bool.and_eq_true, decide_eq_true_eq] at hgo
    obtain ⟨_, ⟨⟨⟨g1, g2⟩, g3⟩, g4⟩⟩ := hgo
    have hS : o.riders.toNat = S := by omega
    rw [hoR] at p1
    have hdr : f.list.drop rs.length = o :: f.list.drop (rs.length + 1) := by rw [List.drop_eq_getElem_cons hlt, hoe]
    rw [hdr, goT_cons] at hn ⊢
    obtain ⟨tl, htl⟩ : ∃ tl, f.list.drop (rs.length + 1) = tl := ⟨_, rfl⟩
    rw [htl] at hn ⊢
    obtain ⟨cnt, hcnt⟩ : ∃ cnt : Nat, (o.hi - o.lo + 1).toNat = cnt := ⟨_, rfl⟩
    have hcz : o.hi = o.lo + cnt - 1 := by omega
    have hc3 : cnt ≤ 3 := by omega
    obtain ⟨B, hB⟩ : ∃ B, w.heap.size = B := ⟨_, rfl⟩
    obtain ⟨W3, hW3⟩ : ∃ W3, (((w.alloc (.cells #[.slice ra f.rules.length rc, .int .i64 (nr : Int), .slice (some ⟨rb, ro, none⟩) f.list.length lc] 25)).alloc (.cells #[.slice ha rs.length hc, .slice ga hs.length gc] 62)).alloc (.cells #[.int .i64 o.kind, .int .i64 (S : Int), .int .i64 o.lo, .int .i64 o.hi] 55)) = W3 := ⟨_, rfl⟩
    have hb3 : Below w.heap.size w W3 := by rw [← hW3]; exact (((Below.refl _ _).alloc (Nat.le_refl _) _).alloc (by simp) _).alloc (by simp; omega) _
    have hx : ∀ k, ov.ownBlock = some k → k < B := fun k hk => by rw [← hB]; exact (ho.lt k hk).2
    have nb : ∀ q, B ≤ q → some q ≠ ov.ownBlock := fun q hq e => by have := hx q e.symm; omega
    have hR : St ov.ownBlock W3 (TruR B f nr ra (some ⟨rb, ro, none⟩) rc lc o S (.slice ha rs.length hc) (.slice ga hs.length gc) rs hs) := fun X hX => by
      have hf' := (hf.below hb3) X hX
      have ht' := (ht.below hb3) X hX
      have k0 : ∀ q j v, B ≤ q → W3.cell? ⟨q, j, none⟩ = some v → X.cell? ⟨q, j, none⟩ = some v := fun q j v hq hc => hX.cell hc (nb q hq)
      refine ⟨hf', ht'.1, ht'.2, ?_, ?_, ?_, ?_, ?_, ?_, ?_, ?_, ?_⟩ <;> (refine k0 _ _ _ (by omega) ?_; rw [← hW3, ← hB])
      · exact cellP (cellP (cellN rfl rfl) _) _
      · exact cellP (cellP (cellN rfl rfl) _) _
      · exact cellP (cellP (cellN rfl rfl) _) _
      · exact cellP (cellN (by simp) rfl) _
      · exact cellP (cellN (by simp) rfl) _
      · exact cellN (by simp) rfl
      · exact cellN (by simp) rfl
      · exact cellN (by simp) rfl
      · exact cellN (by simp) rfl
    have HI := Lib.hid (show TruI w ov.ownBlock base (TruR B f nr ra (some ⟨rb, ro, none⟩) rc lc o S (.slice ha rs.length hc) (.slice ga hs.length gc) rs hs) W3 ov (ts ++ whosT nr tl o rs hs 0) from
      ⟨hR, by show OutAt W3 base ov (ts ++ []); rw [List.append_nil]; exact ho.below hb3, grownBy_of_below hb3 _, .inl rfl, Nat.le_trans hb hb3.size⟩)
    have hb1 : w.cell? ⟨rb, ro + rs.length * 4, none⟩ = some (.int .i64 o.kind) := p0
    have HA := Lib.hid (fun k X (hk : k < 62) => rhas_any S k X (by omega) hk)
    have IH := Lib.hid ih
    obtain ⟨oa, oc, hov⟩ := own_slice ho.choose_spec.1
    have Hov := Lib.hid hov
    obtain ⟨b0, hb0⟩ : ∃ b0, ov.ownBlock = b0 := ⟨_, rfl⟩
    rw [hb0] at HI ⊢
    have Hm := Lib.hid (And.intro hm (And.intro hl (And.intro hn (And.intro hS (And.intro hcnt (And.intro htl hnr))))))
    have HB := Lib.hid hB
    have Hcz := Lib.hid hcz
    clear hcz
    clear hR hf ht ho hb3 hr0 ho0 hnr hm hl hn ih hb0 hx nb hoe hdr htl hS hcnt hoR hov hb1
    go_enter Try.func68, Try.ntmps68
    have q0 := cellP (cellP p0 (.cells #[.slice ra f.rules.length rc, .int .i64 (nr : Int), .slice (some ⟨rb, ro, none⟩) f.list.length lc] 25)) (.cells #[.slice ha rs.length hc, .slice ga hs.length gc] 62)
    have q1 := cellP (cellP p1 (.cells #[.slice ra f.rules.length rc, .int .i64 (nr : Int), .slice (some ⟨rb, ro, none⟩) f.list.length lc] 25)) (.cells #[.slice ha rs.length hc, .slice ga hs.length gc] 62)
    have q2 := cellP (cellP p2 (.cells #[.slice ra f.rules.length rc, .int .i64 (nr : Int), .slice (some ⟨rb, ro, none⟩) f.list.length lc] 25)) (.cells #[.slice ha rs.length hc, .slice ga hs.length gc] 62)
    have q3 := cellP (cellP p3 (.cells #[.slice ra f.rules.length rc, .int .i64 (nr : Int), .slice (some ⟨rb, ro, none⟩) f.list.length lc] 25)) (.cells #[.slice ha rs.length hc, .slice ga hs.length gc] 62)
    go_upto_region 5 with (fail)
    try rw [hW3]
    clear hW3 q0 q1 q2 q3 p0 p1 p2 p3
    have Hw := Lib.hid hlt
    clear hlt
    go_wp2_with fail
    go_loopw [2, 9] (fun x i X => ∃ k : Nat, k ≤ nr ∧ i = .int .i64 (k : Int) ∧ TruI w b0 base (TruR B f nr ra (some ⟨rb, ro, none⟩) rc lc o S (.slice ha rs.length hc) (.slice ga hs.length gc) rs hs) X x (ts ++ whosT nr tl o rs hs k)) (fun _ i _ => nr - (intOf i).toNat)
    case atStart => exact ⟨0, by omega, rfl, HI.out⟩
    case round =>
      obtain ⟨k, hk, rfl, hI⟩ := hrel
      have HI := Lib.hid hI
      have t0 := hI.st.now.t0
      have t1 := hI.st.now.t1
      have r1 := hI.st.now.c1
      have o1 := hI.st.now.o1
      have o2 := hI.st.now.o2
      have o3 := hI.st.now.o3
      clear hI
      by_cases hlt : k < nr
      · have HAk := HA.out k
        obtain ⟨tb, htb⟩ : ∃ tb, S.testBit k = tb := ⟨_, rfl⟩
        rw [htb] at HAk
        have HAk := Lib.hid HAk
        have Htb := Lib.hid htb
        clear htb
        cases tb
        case false =>
          go_wp2_with (go_at_call 69; with_reducible refine (HAk.out _ (by omega)).mono ?_; rintro e w' ⟨rfl, rfl⟩)
          go_roundw
          case rel =>
            refine ⟨k + 1, by omega, by go_num, ?_⟩
            have e : whoT nr tl o rs hs k = [] := by unfold whoT; rw [Hm.out.2.2.2.1, Htb.out]; rfl
            rw [whosT_succ, e, List.append_nil]; exact HI.out
          case measure => simp [intOf]; omega
        case true =>
          go_wp2_with (go_at_call 69; with_reducible refine (HAk.out _ (by omega)).mono ?_; rintro e w' ⟨rfl, rfl⟩)
          have HI0 := Lib.hid (show TruI w b0 base (TruR B f nr ra (some ⟨rb, ro, none⟩) rc lc o S (.slice ha rs.length hc) (.slice ga hs.length gc) rs hs) wr u2 (ts ++ whosT nr tl o rs hs k ++ hoursT nr tl o rs hs k 0) from by
            show TruI w b0 base _ wr u2 (ts ++ whosT nr tl o rs hs k ++ []); rw [List.append_nil]; exact HI.out)
          clear HI
          go_loopw [2, 10] (fun x i X => ∃ q : Nat, q ≤ cnt ∧ i = .int .i64 (o.lo + (q : Int)) ∧ TruI w b0 base (TruR B f nr ra (some ⟨rb, ro, none⟩) rc lc o S (.slice ha rs.length hc) (.slice ga hs.length gc) rs hs) X x (ts ++ whosT nr tl o rs hs k ++ hoursT nr tl o rs hs k q)) (fun _ i _ => (o.lo + cnt - intOf i).toNat)
          case atStart => exact ⟨0, by omega, by simp, HI0.out⟩
          case round =>
            clear t0 t1 r1 o1 o2 o3 HI0
            obtain ⟨q, hq, rfl, hI⟩ := hrel
            have HI := Lib.hid hI
            have o3 := hI.st.now.o3
            by_cases hql : q < cnt
            · have hlo : decide (o.lo + (q : Int) ≤ o.hi) = true := by have := Hcz.out; simp; omega
              have Hw5 := Lib.hid (show f.list.length ≤ 5 from (good_riders hg).2.2.1)
              have H0 : wr.drew.cell? ⟨B, 0, none⟩ = some (.slice ra f.rules.length rc) ∧ wr.drew.cell? ⟨B, 1, none⟩ = some (.int .i64 (nr : Int)) ∧ wr.drew.cell? ⟨B, 2, none⟩ = some (.slice (some ⟨rb, ro, none⟩) f.list.length lc) ∧ wr.drew.cell? ⟨B + 1, 0, none⟩ = some (.slice ha rs.length hc) ∧ wr.drew.cell? ⟨B + 1, 1, none⟩ = some (.slice ga hs.length gc) := by
                have hn := (HI.out.below (Below.drew (Below.refl _ _))).st.now
                exact ⟨hn.c0, hn.c1, hn.c2, hn.t0, hn.t1⟩
              have H0 := Lib.hid H0
              clear hI
              go_wp2_with fail
              have H0 := H0.out
              refine (wpIn_wide (n := 1)).1 ?_
              refine regionInvU [2, 49, 50, 51, 52, 53, 54, 55, 56, 57, 58, 59, 60, 61, 62, 63, 64, 65, 66] (fun L u X => TruG wr.drew (.agg #[.slice ra f.rules.length rc, .int .i64 (nr : Int), .slice (some ⟨rb, ro, none⟩) f.list.length lc]) (.slice ha rs.length hc) (.slice ga hs.length gc) u2 B (k : Int) (o.lo + (q : Int)) rs hs (fun v X => TruI w b0 base (TruR B f nr ra (some ⟨rb, ro, none⟩) rc lc o S (.slice ha rs.length hc) (.slice ga hs.length gc) rs hs) X v (ts ++ whosT nr tl o rs hs k ++ hoursT nr tl o rs hs k (q + 1))) L u X) (by kernel_rfl) (by kernel_rfl) (fun k hk => ?sz) (truG_start _ _ _ _ _ _ _ _ _ _ rfl (Below.refl _ _)) ?step ?fin
              case sz =>
                have : k < 68 := by simp at hk; omega
                exact this
              case step => as_aux_lemma =>
                intro L u X i A hev hevn hi H hLi hpr hcl K hK
                have hi : i < 19 := hi
                have hc : i = 0 ∨ i = 1 ∨ i = 2 ∨ i = 3 ∨ i = 4 ∨ i = 5 ∨ i = 6 ∨ i = 7 ∨ i = 8 ∨ i = 9 ∨ i = 10 ∨ i = 11 ∨ i = 12 ∨ i = 13 ∨ i = 14 ∨ i = 15 ∨ i = 16 ∨ i = 17 ∨ i = 18 := by omega
                rcases hc with rfl | rfl | rfl | rfl | rfl | rfl | rfl | rfl | rfl | rfl | rfl | rfl | rfl | rfl | rfl | rfl | rfl | rfl | rfl
                · -- 0
                  have h17 : L 17 = false := (by cases h : L 17; rfl; exact absurd (hcl 17 0 h (by kernel_rfl)) (by rw [hLi]; decide))
                  have hb := (H.rows h17).1
                  have e3 : A.eval (.tmp 3) = .pointer (some ⟨B, 0, none⟩) := hevn 3 (by decide)
                  have y0 := Below.cellSome hb H0.1
                  have y1 := Below.cellSome hb H0.2.1
                  have y2 := Below.cellSome hb H0.2.2.1
                  refine opRun (fun _ => trivial) rfl (fun c e => by cases e) rfl (v := (.agg #[.slice ra f.rules.length rc, .int .i64 (nr : Int), .slice (some ⟨rb, ro, none⟩) f.list.length lc])) (w' := X) (k := 49) rfl ?r0 (hK _ _ _ (by decide) ?k0)
                  case r0 =>
                    clear H hK hpr hcl hev hevn HI IH HA Hm
                    generalize A.eval = ρ at e3 ⊢
                    first | (go_simp; done) | (simp [execOp, go_sem, *]; done)
                  case k0 =>
                    exact H.st0
                · -- 1
                  have h17 : L 17 = false := (by cases h : L 17; rfl; exact absurd (hcl 4 1 (hcl 7 4 (hcl 15 7 (hcl 17 15 h (by kernel_rfl)) (by kernel_rfl)) (by kernel_rfl)) (by kernel_rfl)) (by rw [hLi]; decide))
                  have h15 : L 15 = false := (by cases h : L 15; rfl; exact absurd (hcl 4 1 (hcl 7 4 (hcl 15 7 h (by kernel_rfl)) (by kernel_rfl)) (by kernel_rfl)) (by rw [hLi]; decide))
                  have h4 : L 4 = false := (by cases h : L 4; rfl; exact absurd (hcl 4 1 h (by kernel_rfl)) (by rw [hLi]; decide))
                  have h7 : L 7 = false := (by cases h : L 7; rfl; exact absurd (hcl 4 1 (hcl 7 4 h (by kernel_rfl)) (by kernel_rfl)) (by rw [hLi]; decide))
                  refine opRun (fun _ => trivial) rfl (fun c e => by cases e) rfl (v := (.slice (some ⟨X.heap.size, 0, none⟩) 0 0)) (w' := (X.alloc (.cells #[] 3))) (k := 50) rfl ?r1 (hK _ _ _ (by decide) ?k1)
                  case r1 =>
                    clear H hK hpr hcl hev hevn HI IH HA Hm
                    generalize A.eval = ρ
                    first | (go_simp; done) | (simp [execOp, go_sem, *]; done)
                  case k1 =>
                    exact H.st1 h4 h7 hLi h15 h17 ((Below.refl _ _).alloc (Nat.le_refl _) _) ⟨rfl, .inr ⟨X.heap.size, 0, #[], rfl, (H.rows h17).1.size, heap_alloc_new X _, Nat.le_refl _, by unfold maxLen; omega, rfl, rfl⟩⟩ rfl
                · -- 2
                  have e4 : A.eval (.tmp 4) = .pointer (some ⟨B + 1, 0, none⟩) := hevn 4 (by decide)
                  refine opRun (fun _ => trivial) rfl (fun c e => by cases e) rfl (v := .pointer (some ⟨B + 1, 0, none⟩)) (w' := X) (k := 51) rfl ?r2 (hK _ _ _ (by decide) ?k2)
                  case r2 =>
                    clear H hK hpr hcl hev hevn HI IH HA Hm
                    generalize A.eval = ρ at e4 ⊢
                    first | (go_simp; done) | (simp [execOp, go_sem, *]; done)
                  case k2 =>
                    exact H.st2
                · -- 3
                  have h17 : L 17 = false := (by cases h : L 17; rfl; exact absurd (hcl 4 3 (hcl 7 4 (hcl 15 7 (hcl 17 15 h (by kernel_rfl)) (by kernel_rfl)) (by kernel_rfl)) (by kernel_rfl)) (by rw [hLi]; decide))
                  have hb := (H.rows h17).1
                  have f51 : A.eval (.tmp 51) = .pointer (some ⟨B + 1, 0, none⟩) := (hev 51 (by decide)).trans (H.z2 (hpr 2 (by kernel_rfl)))
                  have y0 := Below.cellSome hb H0.2.2.2.1
                  refine opRun (fun _ => trivial) rfl (fun c e => by cases e) rfl (v := (.slice ha rs.length hc)) (w' := X) (k := 52) rfl ?r3 (hK _ _ _ (by decide) ?k3)
                  case r3 =>
                    clear H hK hpr hcl hev hevn HI IH HA Hm
                    generalize A.eval = ρ at f51 ⊢
                    first | (go_simp; done) | (simp [execOp, go_sem, *]; done)
                  case k3 =>
                    exact H.st3
                · -- 4
                  have h17 : L 17 = false := (by cases h : L 17; rfl; exact absurd (hcl 7 4 (hcl 15 7 (hcl 17 15 h (by kernel_rfl)) (by kernel_rfl)) (by kernel_rfl)) (by rw [hLi]; decide))
                  have h15 : L 15 = false := (by cases h : L 15; rfl; exact absurd (hcl 7 4 (hcl 15 7 h (by kernel_rfl)) (by kernel_rfl)) (by rw [hLi]; decide))
                  have h7 : L 7 = false := (by cases h : L 7; rfl; exact absurd (hcl 7 4 h (by kernel_rfl)) (by rw [hLi]; decide))
                  have hp := hpr 1 (by kernel_rfl)
                  have f52 : A.eval (.tmp 52) = (.slice ha rs.length hc) := (hev 52 (by decide)).trans (H.z3 (hpr 3 (by kernel_rfl)))
                  have f50 := hev 50 (by decide)
                  obtain ⟨hb, hf⟩ := H.rows h17
                  have er : row1 L u rs (k : Int) = (u 50, []) := by simp [row1, hLi, h7, hp]
                  rw [er] at hf
                  have hsr : IsInts X (.slice ha rs.length hc) rs := IsRows.below (IsRows.below HI.out.st.now.ri (Below.drew (Below.refl _ _))) hb
                  obtain ⟨v', X', hap, hf2, hgr⟩ := hf.app hsr (by have := Hm.out.1; have := Hm.out.2.1; have := Hw5.out; simp; omega) hb.size
                  have hb2 := hf.under hb hgr hb.size
                  refine opRun (fun _ => trivial) rfl (fun c e => by cases e) rfl (v := v') (w' := X') (k := 53) rfl ?r4 (hK _ _ _ (by decide) ?k4)
                  case r4 =>
                    exact run_append (.tmp 50) (.tmp 52) 26 26 rfl f50 f52 hap
                  case k4 =>
                    exact H.st4 h7 h15 h17 hb2 (by simpa using hf2)
                · -- 5
                  have e9 : A.eval (.tmp 9) = .int .i64 (k : Int) := hevn 9 (by decide)
                  refine opRun (fun _ => trivial) rfl (fun c e => by cases e) rfl (v := .int .i64 (k : Int)) (w' := X) (k := 54) rfl ?r5 (hK _ _ _ (by decide) ?k5)
                  case r5 =>
                    clear H hK hpr hcl hev hevn HI IH HA Hm
                    generalize A.eval = ρ at e9 ⊢
                    first | (go_simp; done) | (simp [execOp, go_sem, *]; done)
                  case k5 =>
                    exact H.st5
                · -- 6
                  have h17 : L 17 = false := (by cases h : L 17; rfl; exact absurd (hcl 7 6 (hcl 15 7 (hcl 17 15 h (by kernel_rfl)) (by kernel_rfl)) (by kernel_rfl)) (by rw [hLi]; decide))
                  have h15 : L 15 = false := (by cases h : L 15; rfl; exact absurd (hcl 7 6 (hcl 15 7 h (by kernel_rfl)) (by kernel_rfl)) (by rw [hLi]; decide))
                  have h7 : L 7 = false := (by cases h : L 7; rfl; exact absurd (hcl 7 6 h (by kernel_rfl)) (by rw [hLi]; decide))
                  have f54 : A.eval (.tmp 54) = .int .i64 (k : Int) := (hev 54 (by decide)).trans (H.z5 (hpr 5 (by kernel_rfl)))
                  refine opRun (fun _ => trivial) rfl (fun c e => by cases e) rfl (v := (.slice (some ⟨X.heap.size, 0, none⟩) 1 1)) (w' := (X.alloc (.cells #[.int .i64 (k : Int)] 3))) (k := 55) rfl ?r6 (hK _ _ _ (by decide) ?k6)
                  case r6 =>
                    clear H hK hpr hcl hev hevn HI IH HA Hm
                    generalize A.eval = ρ at f54 ⊢
                    first | (go_simp; done) | (simp [execOp, go_sem, *]; done)
                  case k6 =>
                    exact H.st6 h7 hLi h15 h17 ((Below.refl _ _).alloc (Nat.le_refl _) _) ⟨rfl, .inr ⟨X.heap.size, 1, #[.int .i64 (k : Int)], rfl, (H.rows h17).1.size, heap_alloc_new X _, Nat.le_refl _, by unfold maxLen; omega, rfl, rfl⟩⟩ rfl
                · -- 7
                  have h17 : L 17 = false := (by cases h : L 17; rfl; exact absurd (hcl 15 7 (hcl 17 15 h (by kernel_rfl)) (by kernel_rfl)) (by rw [hLi]; decide))
                  have h15 : L 15 = false := (by cases h : L 15; rfl; exact absurd (hcl 15 7 h (by kernel_rfl)) (by rw [hLi]; decide))
                  have hp := hpr 4 (by kernel_rfl)
                  have ho := hpr 6 (by kernel_rfl)
                  have f53 := hev 53 (by decide)
                  have f55 := hev 55 (by decide)
                  obtain ⟨hb, hf⟩ := H.rows h17
                  have er : row1 L u rs (k : Int) = (u 53, rs) := by simp [row1, hLi, hp]
                  have eo : one1 L u (k : Int) = (u 55, [(k : Int)]) := by simp [one1, hLi, ho]
                  rw [er, eo] at hf
                  have hsrc : IsInts X (u 55) [(k : Int)] := ints_of_own hf.oq
                  obtain ⟨v', X', hap, hf2, hgr⟩ := hf.app hsrc (by have := Hm.out.1; have := Hm.out.2.1; have := Hw5.out; simp; omega) hb.size
                  have hb2 := hf.under hb hgr hb.size
                  refine opRun (fun _ => trivial) rfl (fun c e => by cases e) rfl (v := v') (w' := X') (k := 56) rfl ?r7 (hK _ _ _ (by decide) ?k7)
                  case r7 =>
                    exact run_append (.tmp 53) (.tmp 55) 26 26 rfl f53 f55 hap
                  case k7 =>
                    exact H.st7 h15 h17 hb2 hf2.drop
                · -- 8
                  have h17 : L 17 = false := (by cases h : L 17; rfl; exact absurd (hcl 11 8 (hcl 14 11 (hcl 15 14 (hcl 17 15 h (by kernel_rfl)) (by kernel_rfl)) (by kernel_rfl)) (by kernel_rfl)) (by rw [hLi]; decide))
                  have h15 : L 15 = false := (by cases h : L 15; rfl; exact absurd (hcl 11 8 (hcl 14 11 (hcl 15 14 h (by kernel_rfl)) (by kernel_rfl)) (by kernel_rfl)) (by rw [hLi]; decide))
                  have h11 : L 11 = false := (by cases h : L 11; rfl; exact absurd (hcl 11 8 h (by kernel_rfl)) (by rw [hLi]; decide))
                  have h14 : L 14 = false := (by cases h : L 14; rfl; exact absurd (hcl 11 8 (hcl 14 11 h (by kernel_rfl)) (by kernel_rfl)) (by rw [hLi]; decide))
                  refine opRun (fun _ => trivial) rfl (fun c e => by cases e) rfl (v := (.slice (some ⟨X.heap.size, 0, none⟩) 0 0)) (w' := (X.alloc (.cells #[] 3))) (k := 57) rfl ?r8 (hK _ _ _ (by decide) ?k8)
                  case r8 =>
                    clear H hK hpr hcl hev hevn HI IH HA Hm
                    generalize A.eval = ρ
                    first | (go_simp; done) | (simp [execOp, go_sem, *]; done)
                  case k8 =>
                    exact H.st8 h11 h14 hLi h15 h17 ((Below.refl _ _).alloc (Nat.le_refl _) _) ⟨rfl, .inr ⟨X.heap.size, 0, #[], rfl, (H.rows h17).1.size, heap_alloc_new X _, Nat.le_refl _, by unfold maxLen; omega, rfl, rfl⟩⟩ rfl
                · -- 9
                  have e4 : A.eval (.tmp 4) = .pointer (some ⟨B + 1, 0, none⟩) := hevn 4 (by decide)
                  refine opRun (fun _ => trivial) rfl (fun c e => by cases e) rfl (v := .pointer (some ⟨B + 1, 1, none⟩)) (w' := X) (k := 58) rfl ?r9 (hK _ _ _ (by decide) ?k9)
                  case r9 =>
                    clear H hK hpr hcl hev hevn HI IH HA Hm
                    generalize A.eval = ρ at e4 ⊢
                    first | (go_simp; done) | (simp [execOp, go_sem, *]; done)
                  case k9 =>
                    exact H.st9
                · -- 10
                  have h17 : L 17 = false := (by cases h : L 17; rfl; exact absurd (hcl 11 10 (hcl 14 11 (hcl 15 14 (hcl 17 15 h (by kernel_rfl)) (by kernel_rfl)) (by kernel_rfl)) (by kernel_rfl)) (by rw [hLi]; decide))
                  have hb := (H.rows h17).1
                  have f58 : A.eval (.tmp 58) = .pointer (some ⟨B + 1, 1, none⟩) := (hev 58 (by decide)).trans (H.z9 (hpr 9 (by kernel_rfl)))
                  have y0 := Below.cellSome hb H0.2.2.2.2
                  refine opRun (fun _ => trivial) rfl (fun c e => by cases e) rfl (v := (.slice ga hs.length gc)) (w' := X) (k := 59) rfl ?r10 (hK _ _ _ (by decide) ?k10)
                  case r10 =>
                    clear H hK hpr hcl hev hevn HI IH HA Hm
                    generalize A.eval = ρ at f58 ⊢
                    first | (go_simp; done) | (simp [execOp, go_sem, *]; done)
                  case k10 =>
                    exact H.st10
                · -- 11
                  have h17 : L 17 = false := (by cases h : L 17; rfl; exact absurd (hcl 14 11 (hcl 15 14 (hcl 17 15 h (by kernel_rfl)) (by kernel_rfl)) (by kernel_rfl)) (by rw [hLi]; decide))
                  have h15 : L 15 = false := (by cases h : L 15; rfl; exact absurd (hcl 14 11 (hcl 15 14 h (by kernel_rfl)) (by kernel_rfl)) (by rw [hLi]; decide))
                  have h14 : L 14 = false := (by cases h : L 14; rfl; exact absurd (hcl 14 11 h (by kernel_rfl)) (by rw [hLi]; decide))
                  have hp := hpr 8 (by kernel_rfl)
                  have f59 : A.eval (.tmp 59) = (.slice ga hs.length gc) := (hev 59 (by decide)).trans (H.z10 (hpr 10 (by kernel_rfl)))
                  have f57 := hev 57 (by decide)
                  obtain ⟨hb, hf⟩ := H.rows h17
                  have er : row2 L u hs (o.lo + (q : Int)) = (u 57, []) := by simp [row2, hLi, h14, hp]
                  rw [er] at hf
                  have hsr : IsInts X (.slice ga hs.length gc) hs := IsRows.below (IsRows.below HI.out.st.now.hi (Below.drew (Below.refl _ _))) hb
                  obtain ⟨v', X', hap, hf2, hgr⟩ := hf.rot.rot.app hsr (by have := Hm.out.1; have := Hm.out.2.1; have := Hw5.out; simp; omega) hb.size
                  have hb2 := hf.rot.rot.under hb hgr hb.size
                  refine opRun (fun _ => trivial) rfl (fun c e => by cases e) rfl (v := v') (w' := X') (k := 60) rfl ?r11 (hK _ _ _ (by decide) ?k11)
                  case r11 =>
                    exact run_append (.tmp 57) (.tmp 59) 26 26 rfl f57 f59 hap
                  case k11 =>
                    exact H.st11 h14 h15 h17 hb2 (by simpa using hf2.rot.rot)
                · -- 12
                  have e10 : A.eval (.tmp 10) = .int .i64 (o.lo + (q : Int)) := hevn 10 (by decide)
                  refine opRun (fun _ => trivial) rfl (fun c e => by cases e) rfl (v := .int .i64 (o.lo + (q : Int))) (w' := X) (k := 61) rfl ?r12 (hK _ _ _ (by decide) ?k12)
                  case r12 =>
                    clear H hK hpr hcl hev hevn HI IH HA Hm
                    generalize A.eval = ρ at e10 ⊢
                    first | (go_simp; done) | (simp [execOp, go_sem, *]; done)
                  case k12 =>
                    exact H.st12
                · -- 13
                  have h17 : L 17 = false := (by cases h : L 17; rfl; exact absurd (hcl 14 13 (hcl 15 14 (hcl 17 15 h (by kernel_rfl)) (by kernel_rfl)) (by kernel_rfl)) (by rw [hLi]; decide))
                  have h15 : L 15 = false := (by cases h : L 15; rfl; exact absurd (hcl 14 13 (hcl 15 14 h (by kernel_rfl)) (by kernel_rfl)) (by rw [hLi]; decide))
                  have h14 : L 14 = false := (by cases h : L 14; rfl; exact absurd (hcl 14 13 h (by kernel_rfl)) (by rw [hLi]; decide))
                  have f61 : A.eval (.tmp 61) = .int .i64 (o.lo + (q : Int)) := (hev 61 (by decide)).trans (H.z12 (hpr 12 (by kernel_rfl)))
                  refine opRun (fun _ => trivial) rfl (fun c e => by cases e) rfl (v := (.slice (some ⟨X.heap.size, 0, none⟩) 1 1)) (w' := (X.alloc (.cells #[.int .i64 (o.lo + (q : Int))] 3))) (k := 62) rfl ?r13 (hK _ _ _ (by decide) ?k13)
                  case r13 =>
                    clear H hK hpr hcl hev hevn HI IH HA Hm
                    generalize A.eval = ρ at f61 ⊢
                    first | (go_simp; done) | (simp [execOp, go_sem, *]; done)
                  case k13 =>
                    exact H.st13 h14 hLi h15 h17 ((Below.refl _ _).alloc (Nat.le_refl _) _) ⟨rfl, .inr ⟨X.heap.size, 1, #[.int .i64 (o.lo + (q : Int))], rfl, (H.rows h17).1.size, heap_alloc_new X _, Nat.le_refl _, by unfold maxLen; omega, rfl, rfl⟩⟩ rfl
                · -- 14
                  have h17 : L 17 = false := (by cases h : L 17; rfl; exact absurd (hcl 15 14 (hcl 17 15 h (by kernel_rfl)) (by kernel_rfl)) (by rw [hLi]; decide))
                  have h15 : L 15 = false := (by cases h : L 15; rfl; exact absurd (hcl 15 14 h (by kernel_rfl)) (by rw [hLi]; decide))
                  have hp := hpr 11 (by kernel_rfl)
                  have ho := hpr 13 (by kernel_rfl)
                  have f60 := hev 60 (by decide)
                  have f62 := hev 62 (by decide)
                  obtain ⟨hb, hf⟩ := H.rows h17
                  have er : row2 L u hs (o.lo + (q : Int)) = (u 60, hs) := by simp [row2, hLi, hp]
                  have eo : one2 L u (o.lo + (q : Int)) = (u 62, [(o.lo + (q : Int))]) := by simp [one2, hLi, ho]
                  rw [er, eo] at hf
                  have hsrc : IsInts X (u 62) [(o.lo + (q : Int))] := ints_of_own hf.os
                  obtain ⟨v', X', hap, hf2, hgr⟩ := hf.rot.rot.app hsrc (by have := Hm.out.1; have := Hm.out.2.1; have := Hw5.out; simp; omega) hb.size
                  have hb2 := hf.rot.rot.under hb hgr hb.size
                  refine opRun (fun _ => trivial) rfl (fun c e => by cases e) rfl (v := v') (w' := X') (k := 63) rfl ?r14 (hK _ _ _ (by decide) ?k14)
                  case r14 =>
                    exact run_append (.tmp 60) (.tmp 62) 26 26 rfl f60 f62 hap
                  case k14 =>
                    exact H.st14 h15 h17 hb2 hf2.drop.rot.rot
                · -- 15
                  have h17 : L 17 = false := (by cases h : L 17; rfl; exact absurd (hcl 17 15 h (by kernel_rfl)) (by rw [hLi]; decide))
                  obtain ⟨hb, hf⟩ := H.rows h17
                  have p14 := hpr 14 (by kernel_rfl)
                  have p7 := hpr 7 (by kernel_rfl)
                  have er1 : row1 L u rs (k : Int) = (u 56, rs ++ [(k : Int)]) := by simp [row1, p7]
                  have er2 : row2 L u hs (o.lo + (q : Int)) = (u 63, hs ++ [o.lo + (q : Int)]) := by simp [row2, p14]
                  rw [er1, er2] at hf
                  obtain ⟨x1, x2, hx⟩ := own_slice hf.op
                  obtain ⟨x3, x4, hx3⟩ := own_slice hf.or
                  dsimp only at hx hx3
                  have f56 : A.eval (.tmp 56) = _ := (hev 56 (by decide)).trans hx
                  have f63 : A.eval (.tmp 63) = _ := (hev 63 (by decide)).trans hx3
                  refine opRun (fun _ => trivial) rfl (fun c e => by cases e) rfl (v := .agg #[u 56, u 63]) (w' := X) (k := 64) rfl ?r15 (hK _ _ _ (by decide) ?k15)
                  case r15 =>
                    rw [hx, hx3]
                    clear hf er1 er2 hx hx3 hb
                    clear H hK hpr hcl hev hevn HI IH HA Hm
                    generalize A.eval = ρ at f56 f63 ⊢
                    first | (go_simp; done) | (simp [execOp, go_sem, *]; done)
                  case k15 =>
                    exact H.st15
                · -- 16
                  have h18 : L 18 = false := (by cases h : L 18; rfl; exact absurd (hcl 17 16 (hcl 18 17 h (by kernel_rfl)) (by kernel_rfl)) (by rw [hLi]; decide))
                  have f2 : A.eval (.tmp 2) = u2 := (hev 2 (by decide)).trans (H.s2 h18)
                  refine opRun (fun _ => trivial) rfl (fun c e => by cases e) rfl (v := u2) (w' := X) (k := 65) rfl ?r16 (hK _ _ _ (by decide) ?k16)
                  case r16 =>
                    clear H hK hpr hcl hev hevn HI IH HA Hm
                    generalize A.eval = ρ at f2 ⊢
                    first | (go_simp; done) | (simp [execOp, go_sem, *]; done)
                  case k16 =>
                    exact H.st16
                · -- 17
                  have h18 : L 18 = false := (by cases h : L 18; rfl; exact absurd (hcl 18 17 h (by kernel_rfl)) (by rw [hLi]; decide))
                  obtain ⟨hb, hf⟩ := H.rows hLi
                  have p15 := hpr 15 (by kernel_rfl)
                  have p14 := hpr 14 (by kernel_rfl)
                  have p7 := hcl 15 7 p15 (by kernel_rfl)
                  have er1 : row1 L u rs (k : Int) = (u 56, rs ++ [(k : Int)]) := by simp [row1, p7]
                  have er2 : row2 L u hs (o.lo + (q : Int)) = (u 63, hs ++ [o.lo + (q : Int)]) := by simp [row2, p14]
                  rw [er1, er2] at hf
                  have f49 : A.eval (.tmp 49) = (.agg #[.slice ra f.rules.length rc, .int .i64 (nr : Int), .slice (some ⟨rb, ro, none⟩) f.list.length lc]) := (hev 49 (by decide)).trans (H.z0 (hpr 0 (by kernel_rfl)))
                  have f64 : A.eval (.tmp 64) = .agg #[u 56, u 63] := (hev 64 (by decide)).trans (H.z15 p15)
                  have f65 : A.eval (.tmp 65) = u2 := (hev 65 (by decide)).trans (H.z16 (hpr 16 (by kernel_rfl)))
                  have hy : TruI w b0 base (TruR B f nr ra (some ⟨rb, ro, none⟩) rc lc o S (.slice ha rs.length hc) (.slice ga hs.length gc) rs hs) X u2 (ts ++ whosT nr tl o rs hs k ++ hoursT nr tl o rs hs k q) := (HI.out.below (Below.drew (Below.refl _ _))).below hb
                  have htr : TrV u2.ownBlock X (u 56, u 63) (rs ++ [(k : Int)], hs ++ [o.lo + (q : Int)]) := trV_of_four hf (fun y hy => (HI.out.out.lt y hy).2)
                  have ed : f.list.drop (rs ++ [(k : Int)]).length = tl := by rw [List.length_append]; exact Hm.out.2.2.2.2.2.1
                  have hcall := IH.out (rs ++ [(k : Int)]) (hs ++ [o.lo + (q : Int)]) (by have := Hm.out.1; simp; omega) (by have := Hm.out.2.1; simp; omega) (.agg #[.slice ra f.rules.length rc, .int .i64 (nr : Int), .slice (some ⟨rb, ro, none⟩) f.list.length lc]) (u 56) (u 63) u2 (ts ++ whosT nr tl o rs hs k ++ hoursT nr tl o rs hs k q) base X (hy.st.imp fun _ h => h.fn) htr hy.out hy.sl ?hlen
                  case hlen =>
                    rw [ed]
                    have hn := Hm.out.2.2.1
                    have l1 : (whosT nr tl o rs hs k).length + (whoT nr tl o rs hs k).length ≤ (whosT nr tl o rs hs nr).length := flatMap_len _ hlt
                    have l2 : (hoursT nr tl o rs hs k q).length + (hourT nr tl o rs hs k q).length ≤ (hoursT nr tl o rs hs k cnt).length := flatMap_len _ hql
                    have e : whoT nr tl o rs hs k = hoursT nr tl o rs hs k cnt := by unfold whoT; rw [Hm.out.2.2.2.1, Htb.out, Hm.out.2.2.2.2.1]; rfl
                    rw [e] at l1
                    have e2 : (goT nr tl (rs ++ [(k : Int)]) (hs ++ [o.lo + (q : Int)])).length = (hourT nr tl o rs hs k q).length := rfl
                    rw [List.length_append, List.length_append, e2]
                    omega
                  rw [ed] at hcall
                  refine opCall (fun _ => trivial) (fun _ => by decide) rfl (fun c e => by cases e) rfl (f := 68) (args := #[(.agg #[.slice ra f.rules.length rc, .int .i64 (nr : Int), .slice (some ⟨rb, ro, none⟩) f.list.length lc]), .agg #[u 56, u 63], u2]) (w' := X) (k := 66) rfl ?r17 (callsIn_wide.2 hcall) ?k17
                  case r17 =>
                    clear htr hcall hy hf
                    clear H hK hpr hcl hev hevn HI IH HA Hm
                    have ff : A.eval (.func 68) = .func (.func 68) #[] #[] := rfl
                    generalize A.eval = ρ at f49 f64 f65 ff ⊢
                    first | (go_simp; done) | (simp [execOp, go_sem, *]; done)
                  case k17 =>
                    rintro e W' ⟨v', rfl, hO, hG, hN⟩
                    refine ⟨v', rfl, hK _ _ _ (by decide) (H.st17 h18 ?_)⟩
                    show TruI w b0 base _ W' v' _
                    rw [hoursT_succ, ← List.append_assoc]
                    exact hy.call hO hG hN
                · -- 18
                  have f66 := hev 66 (by decide)
                  refine opRun (fun _ => trivial) rfl (fun c e => by cases e) rfl (v := u 66) (w' := X) (k := 2) rfl ?r18 (hK _ _ _ (by decide) ?k18)
                  case r18 =>
                    clear H hK hpr hcl hev hevn HI IH HA Hm
                    generalize A.eval = ρ at f66 ⊢
                    first | (go_simp; done) | (simp [execOp, go_sem, *]; done)
                  case k18 =>
                    exact H.st18
              case fin =>
                intro L u X H hall
                have h17 := H.call (hall 17 (by decide))
                have h2 := H.s3 (hall 18 (by decide))
                rw [← h2] at h17
                have HI := Lib.hid h17
                simp only [setU, List.foldl_cons, List.foldl_nil, List.setIfInBounds_toArray, List.set_cons_zero, List.set_cons_succ]
                clear H hall h17 h2 H0
                gi_wp2
                go_wp2
                go_roundw
                case rel => exact ⟨q + 1, by omega, by go_num, HI.out⟩
                case measure => simp [intOf]; omega
            · have hlo : decide (o.lo + (q : Int) ≤ o.hi) = false := by have := Hcz.out; simp; omega
              clear hI
              go_wp2_with fail
              go_roundw
              case rel =>
                refine ⟨k + 1, by omega, by go_num, ?_⟩
                have e : whoT nr tl o rs hs k = hoursT nr tl o rs hs k q := by unfold whoT; rw [Hm.out.2.2.2.1, Htb.out, Hm.out.2.2.2.2.1, show q = cnt by omega]; rfl
                rw [whosT_succ, e, ← List.append_assoc]; exact HI.out
              case measure => simp [intOf]; omega
      · have hke : k = nr := by omega
        subst hke
        go_wp2_with fail
        go_ret
        exact ⟨_, rfl, HI.out.out, HI.out.g, HI.out.nw⟩
end Go.Proofs.Ytjmobepipfbbnaa

set_option linter.unusedSimpArgs false
set_option linter.unusedVariables false
namespace Go.Proofs.Ytjmobepipfbbnaa
open Go.RowKit Go.Shelf
attribute [local go_sem] Oper.semAt_some
theorem goT_bound {f : Fns} (hg : goodFns f = true) : (goT f.riders.toNat f.list [] []).length ≤ 1889568 := by
  obtain ⟨_, h6, h5, _⟩ := sound_of hg
  refine Nat.le_trans (goT_len h6 f.list [] [] fun o ho => ?_) (pow18 h5)
  obtain ⟨k, hk, rfl⟩ := List.mem_iff_getElem.1 ho
  have hgo := good_off hg hk
  unfold goodOff at hgo
  simp only [Bool.and_eq_true, decide_eq_true_eq] at hgo
  omega
theorem ints_nil (w : World) : IsInts w (.slice none 0 0) [] := ⟨none, 0, rfl, by simp, by omega, fun h => by simp at h⟩
set_option maxHeartbeats 1000000 in
/-- Truths. -/
theorem alltruths_any (f : Fns) (hg : goodFns f = true) (fv : Value) (w : World) (hf : IsFns w fv f) :
    Calls Try.prog 34 #[fv] w fun e w' => ∃ v, e = .returned v ∧ OutAt w' w.heap.size v (goT f.riders.toNat f.list [] []) ∧ Below w.heap.size w w' := by
  have hr := good_riders hg
  have hlen := goT_bound hg
  obtain ⟨nr, hnr⟩ : ∃ nr : Nat, f.riders = nr := ⟨f.riders.toNat, by omega⟩
  obtain ⟨vr, vl, rfl, hr0, ho0⟩ := hf
  obtain ⟨ra, rc, rfl, z1, z2⟩ := IsRows.slice hr0
  obtain ⟨la, lc, rfl, z3, z4⟩ := IsRows.slice ho0
  have hb1 : Below w.heap.size w (w.alloc (.cells #[.slice ra f.rules.length rc, .int .i64 f.riders, .slice la f.list.length lc] 25)) := (Below.refl _ _).alloc (Nat.le_refl _) _
  have hf1 : ∀ X, (w.alloc (.cells #[.slice ra f.rules.length rc, .int .i64 f.riders, .slice la f.list.length lc] 25)).grownBy X (Value.slice none 0 0).ownBlock → IsFns X (.agg #[.slice ra f.rules.length rc, .int .i64 f.riders, .slice la f.list.length lc]) f := fun X hX => by
    have hb2 : Below w.heap.size w X := hb1.grown hX hb1.size (fun k hk => by cases hk)
    exact ⟨_, _, rfl, IsRows.below hr0 hb2, IsRows.below ho0 hb2⟩
  have key := truths_any f hg f.riders.toNat (by omega) (by omega) f.list.length [] [] (by simp) rfl _ (.slice none 0 0) (.slice none 0 0) (.slice none 0 0) [] w.heap.size _ hf1 (fun X _ => ⟨ints_nil X, ints_nil X⟩) (OutAt.nil _ _) (by simp) (by simp; omega)
  have Key := Lib.hid key
  have Hb1 := Lib.hid hb1
  clear key hf1 hr0 ho0 hb1 hlen hr hnr
  have c0 : (w.alloc (.cells #[.slice ra f.rules.length rc, .int .i64 f.riders, .slice la f.list.length lc] 25)).cell? ⟨w.heap.size, 0, none⟩ = some (.slice ra f.rules.length rc) := cellN rfl rfl
  have c1 : (w.alloc (.cells #[.slice ra f.rules.length rc, .int .i64 f.riders, .slice la f.list.length lc] 25)).cell? ⟨w.heap.size, 1, none⟩ = some (.int .i64 f.riders) := cellN rfl rfl
  have c2 : (w.alloc (.cells #[.slice ra f.rules.length rc, .int .i64 f.riders, .slice la f.list.length lc] 25)).cell? ⟨w.heap.size, 2, none⟩ = some (.slice la f.list.length lc) := cellN rfl rfl
  go_enter Try.func34, Try.ntmps34
  go_wp2_with (go_at_call 68; with_reducible refine Key.out.mono ?_; rintro e w1 ⟨v, rfl, hO, hG, hN⟩)
  go_ret
  refine ⟨_, rfl, by simpa using hO, Hb1.out.grown hG Hb1.out.size (fun k hk => by cases hk)⟩
/-! What FineEnds asks. -/
theorem truth_parts {nr : Nat} : ∀ (offs : List Off) (i : Nat) (t : List Kn), IsTruth nr (i : Int) offs t → t.length = offs.length ∧ ∀ k, k < offs.length → (t.getD k ⟨0, 0, 0, 0⟩).number = ((i + k : Nat) : Int) ∧ (t.getD k ⟨0, 0, 0, 0⟩).kind = (offs.getD k ⟨0, 0, 0, 0⟩).kind ∧
    (∃ who : Nat, (t.getD k ⟨0, 0, 0, 0⟩).rider = (who : Int) ∧ who < nr ∧ (offs.getD k ⟨0, 0, 0, 0⟩).riders.toNat.testBit who = true) ∧ (offs.getD k ⟨0, 0, 0, 0⟩).lo ≤ (t.getD k ⟨0, 0, 0, 0⟩).hour ∧ (t.getD k ⟨0, 0, 0, 0⟩).hour ≤ (offs.getD k ⟨0, 0, 0, 0⟩).hi
  | [], i, [], _ => ⟨rfl, fun k hk => by simp at hk⟩
  | [], i, _ :: _, h => h.elim
  | _ :: _, i, [], h => h.elim
  | o :: t, i, x :: l, h => by
    obtain ⟨h0, h1⟩ := h
    have e : ((i : Int) + 1) = ((i + 1 : Nat) : Int) := by push_cast; rfl
    rw [e] at h1
    obtain ⟨g1, g2⟩ := truth_parts t (i + 1) l h1
    refine ⟨by simp [g1], fun k hk => ?_⟩
    cases k with
    | zero => simpa using h0
    | succ j =>
      have := g2 j (by simpa using hk)
      rw [show i + 1 + j = i + (j + 1) by omega] at this
      simpa using this
def prT (t : List Kn) : List Int × List Int := (t.map Kn.rider, t.map Kn.hour)
theorem getD_rider (t : List Kn) (k : Nat) (hk : k < t.length) : (t.map Kn.rider).getD k 0 = (t.getD k ⟨0, 0, 0, 0⟩).rider := by simp [List.getD, hk]
theorem getD_hour (t : List Kn) (k : Nat) (hk : k < t.length) : (t.map Kn.hour).getD k 0 = (t.getD k ⟨0, 0, 0, 0⟩).hour := by simp [List.getD, hk]
section
variable {f : Fns} (hg : goodFns f = true)
include hg
theorem mem_goT {p : List Int × List Int} : p ∈ goT f.riders.toNat f.list [] [] ↔ ∃ t, Truth f t ∧ p = prT t := by
  obtain ⟨_, h6, _⟩ := sound_of hg
  rw [goT_truths h6 f.list 0 [] [], List.mem_map]
  constructor
  · rintro ⟨t, ht, rfl⟩
    exact ⟨t, (mem_truthL h6 _ _ _).1 ht, by simp [prT]⟩
  · rintro ⟨t, ht, rfl⟩
    exact ⟨t, (mem_truthL h6 _ _ _).2 ht, by simp [prT]⟩
omit hg in
theorem truth_knTo {t : List Kn} (ht : Truth f t) : knTo f (t.map Kn.rider) (t.map Kn.hour) f.list.length = t := by
  obtain ⟨h1, h2⟩ := truth_parts f.list 0 t ht
  refine List.ext_getElem (by rw [knTo_len, h1]) fun k hk hk2 => ?_
  rw [knTo_get]
  have hkl : k < f.list.length := by omega
  obtain ⟨g1, g2, _⟩ := h2 k hkl
  rw [getD_rider t k hk2, getD_hour t k hk2]
  have e : t.getD k ⟨0, 0, 0, 0⟩ = t[k] := by simp [List.getD, hk2]
  rw [e] at g1 g2 ⊢
  rw [← g2]
  have : t[k].number = (k : Int) := by simpa using g1
  rw [← this]
omit hg in
theorem truth_true {t : List Kn} (ht : Truth f t) : TrueTo f f.riders.toNat (t.map Kn.rider) (t.map Kn.hour) ∧ (t.map Kn.rider).length = f.list.length := by
  obtain ⟨h1, h2⟩ := truth_parts f.list 0 t ht
  refine ⟨⟨by simp, by simp [h1], fun k hk => ?_⟩, by simp [h1]⟩
  have hk2 : k < t.length := by simpa using hk
  obtain ⟨g1, g2, g3, g4, g5⟩ := h2 k (by omega)
  rw [getD_rider t k hk2, getD_hour t k hk2]
  exact ⟨g3, g4, g5⟩
theorem ends_true {p : List Int × List Int} (h : p ∈ goT f.riders.toNat f.list [] []) : TrueTo f f.riders.toNat p.1 p.2 ∧ p.1.length = f.list.length := by
  obtain ⟨t, ht, rfl⟩ := (mem_goT hg).1 h
  exact truth_true ht
/-- What a truth comes to: the cost of an offence, a rider's fine, what the rider pays, the sum. -/
def vE (f : Fns) (o r : Nat) (j : Nat) (p : List Int × List Int) : Int :=
  if j < 2 then ((exactR f p.1 p.2).1).getD o 0 else if j < 4 then finT p.1 (exactR f p.1 p.2).1 r f.list.length else if j < 6 then paiT p.1 (exactR f p.1 p.2).1 r f.list.length else allT (exactR f p.1 p.2).1 f.list.length
def spE (f : Fns) (o r : Nat) (j : Nat) : Int × Int :=
  if j < 2 then costS f o else if j < 4 then sumR f (2 ^ r) (cFined r) else if j < 6 then sumR f (2 ^ r ||| 2 ^ (partner r).toNat) (cPaid r (partner r)) else sumR f (2 ^ f.riders.toNat - 1) cEach
/-- The ends that are asked for. -/
def endE (f : Fns) (o r : Nat) (j : Nat) : Int := if j % 2 = 0 then (spE f o r j).1 else (spE f o r j).2
theorem ends_at {o r : Nat} (ho : o < f.list.length) (hr : (r : Int) < f.riders) (j : Nat) (hj : j < 8) : ∃ p, p ∈ goT f.riders.toNat f.list [] [] ∧ vE f o r j p = endE f o r j := by
  obtain ⟨hs', h6, _⟩ := sound_of hg
  have hgr := good_riders hg
  have hr6 : r < 6 := by omega
  have pr : ∀ {t}, Truth f t → prT t ∈ goT f.riders.toNat f.list [] [] := fun ht => (mem_goT hg).2 ⟨_, ht, rfl⟩
  have key : (∃ t, Truth f t ∧ vE f o r j (prT t) = (spE f o r j).1) ∧ (∃ t, Truth f t ∧ vE f o r j (prT t) = (spE f o r j).2) := by
    by_cases h1 : j < 2
    · obtain ⟨⟨t1, a1, a2⟩, ⟨t2, a3, a4⟩, _⟩ := cost_ends hs' h6 ho
      have e : ∀ t, Truth f t → vE f o r j (prT t) = costT f t o := fun t ht => by
        have h := true_cost hg (truth_true ht).1 (truth_true ht).2 o ho
        rw [truth_knTo ht] at h
        unfold vE prT; rw [if_pos h1]; exact h
      unfold spE
      rw [if_pos h1]
      exact ⟨⟨t1, a1, (e t1 a1).trans a2.symm⟩, ⟨t2, a3, (e t2 a3).trans a4.symm⟩⟩
    · by_cases h2 : j < 4
      · have hlt : 2 ^ r < 64 := Nat.lt_of_lt_of_le (Nat.pow_lt_pow_right (by omega) hr6) (by decide)
        obtain ⟨⟨t1, a1, a2⟩, ⟨t2, a3, a4⟩, _⟩ := sum_ends hs' hlt (loc_fined f.riders.toNat r)
        have e : ∀ t, Truth f t → vE f o r j (prT t) = totT f (cFined r) t := fun t ht => by
          have h := fin_tot hg (truth_true ht).1 (truth_true ht).2 r
          rw [truth_knTo ht] at h
          unfold vE prT; rw [if_neg h1, if_pos h2]; exact h
        unfold spE
        rw [if_neg h1, if_pos h2]
        exact ⟨⟨t1, a1, (e t1 a1).trans a2.symm⟩, ⟨t2, a3, (e t2 a3).trans a4.symm⟩⟩
      · by_cases h3 : j < 6
        · obtain ⟨p, hp⟩ : ∃ p : Nat, partner (r : Int) = p := ⟨(partner (r : Int)).toNat, by unfold partner; split <;> omega⟩
          have hp6 : p < 6 := by have h9 := hp; unfold partner at h9; split at h9 <;> omega
          have hlt : 2 ^ r ||| 2 ^ p < 2 ^ 6 := Nat.or_lt_two_pow (Nat.pow_lt_pow_right (by omega) hr6) (Nat.pow_lt_pow_right (by omega) hp6)
          obtain ⟨⟨t1, a1, a2⟩, ⟨t2, a3, a4⟩, _⟩ := sum_ends hs' (hlt : 2 ^ r ||| 2 ^ p < 64) (loc_paid f.riders.toNat r p)
          have e : ∀ t, Truth f t → vE f o r j (prT t) = totT f (cPaid r p) t := fun t ht => by
            have h := pai_tot hg (truth_true ht).1 (truth_true ht).2 r
            rw [truth_knTo ht, hp] at h
            unfold vE prT; rw [if_neg h1, if_neg h2, if_pos h3]; exact h
          unfold spE
          rw [if_neg h1, if_neg h2, if_pos h3, hp]
          exact ⟨⟨t1, a1, (e t1 a1).trans a2.symm⟩, ⟨t2, a3, (e t2 a3).trans a4.symm⟩⟩
        · have hlt : 2 ^ f.riders.toNat - 1 < 64 := by
            have := Nat.pow_le_pow_right (show 0 < 2 by omega) h6
            omega
          obtain ⟨⟨t1, a1, a2⟩, ⟨t2, a3, a4⟩, _⟩ := sum_ends hs' hlt (loc_each f.riders.toNat)
          have e : ∀ t, Truth f t → vE f o r j (prT t) = totT f cEach t := fun t ht => by
            have h := all_tot hg (truth_true ht).1 (truth_true ht).2
            rw [truth_knTo ht] at h
            unfold vE prT; rw [if_neg h1, if_neg h2, if_neg h3]; exact h
          unfold spE
          rw [if_neg h1, if_neg h2, if_neg h3]
          exact ⟨⟨t1, a1, (e t1 a1).trans a2.symm⟩, ⟨t2, a3, (e t2 a3).trans a4.symm⟩⟩
  unfold endE
  split
  · obtain ⟨t, ht, e⟩ := key.1; exact ⟨_, pr ht, e⟩
  · obtain ⟨t, ht, e⟩ := key.2; exact ⟨_, pr ht, e⟩
omit hg in
/-- Which ends were found among the first truths. -/
def fndE (f : Fns) (o r : Nat) (k j : Nat) : Bool := ((goT f.riders.toNat f.list [] []).take k).any fun p => vE f o r j p == endE f o r j
omit hg in
theorem fndE_step {o r k : Nat} (hk : k < (goT f.riders.toNat f.list [] []).length) (j : Nat) : fndE f o r (k + 1) j = (fndE f o r k j || (vE f o r j ((goT f.riders.toNat f.list [] [])[k]) == endE f o r j)) := by
  unfold fndE
  rw [List.take_succ_eq_append_getElem hk, List.any_append]; simp
theorem fndE_all {o r : Nat} (ho : o < f.list.length) (hr : (r : Int) < f.riders) (j : Nat) (hj : j < 8) : fndE f o r (goT f.riders.toNat f.list [] []).length j = true := by
  obtain ⟨p, hp, e⟩ := ends_at hg ho hr j hj
  unfold fndE
  rw [List.take_length, List.any_eq_true]
  exact ⟨p, hp, by simp [e]⟩
end
end Go.Proofs.Ytjmobepipfbbnaa
