import Derived.Test.YtoabfffmjhdijaaMadeA
import Derived.Deep.Cut
/- made (33): sprints that truly ended in some orders, and were seen rightly. -/
set_option linter.unusedSimpArgs false
set_option linter.unusedVariables false
namespace Go.Proofs.Ytoabfffmjhdijaa
open Go.RowKit Go.Shelf
def intV (l : List Int) : List Value := l.map fun n : Int => .int .i64 n
set_option maxRecDepth 100000 in
set_option maxHeartbeats 4000000 in
theorem made_any (l : List Int) (vb : Value) (w : World) (hl : 0 < l.length) (hb : IsU16s w vb l) (hlt0 : ∀ a n c, vb = .slice (some a) n c → a.block < w.heap.size) :
    Calls Try.prog 33 #[vb] w fun e w' => ∃ s os vs vO base, e = .returned (.tuple #[vs, vO]) ∧ IsSps w' vs s ∧ OrdsAt w' base vO os ∧ goodSps s = true ∧ TrueO s os ∧ Below w.heap.size w w' := by
  obtain ⟨va, vc, rfl, hv1, hv2⟩ := IsRows.slice hb.1
  have Hb := Lib.hid hb
  have Hlt := Lib.hid hlt0
  have HM := Lib.hid (MW.start w (.slice va l.length vc))
  clear hb hlt0
  go_enter Try.func33, Try.ntmps33
  go_wp2_with fail
  refine (HM.out.call hl Hb.out Hlt.out (by omega) (by omega) (by omega)).mono ?_
  rintro e w1 ⟨r, nq, rfl, hr, hw⟩
  have hM := HM.out.draw nq
  rw [hw] at hM
  obtain ⟨P, hP⟩ : ∃ P : Nat, 1 + r = P := ⟨_, rfl⟩
  have hP1 : 1 ≤ P := by omega
  have hP6 : P ≤ 6 := by omega
  have e1 : IntKind.i64.wrap (1 + (r : Int)) = (P : Int) := by rw [IntWalk.i64_in _ (by omega)]; omega
  have r0 := hM.r0
  have fr0 := hM.fr 0
  have HM1 := Lib.hid (hM.setP (p' := (P : Int)))
  clear hM hw HM nq
  go_wp2_with fail
  clear r0 fr0 e1 hr hP
  obtain ⟨w2, hw2⟩ : ∃ w2, w1.setCell ⟨w.heap.size + 1, 0, none⟩ (.int .i64 (P : Int)) = w2 := ⟨_, rfl⟩
  rw [hw2] at HM1 ⊢
  clear hw2
  refine (HM1.out.call hl Hb.out Hlt.out (by omega) (by omega) (by omega)).mono ?_
  rintro e w3 ⟨r2, nq, rfl, hr2, hw⟩
  have hM := HM1.out.draw nq
  rw [hw] at hM
  obtain ⟨L0, hL0⟩ : ∃ L0 : Nat, 1 + r2 = L0 := ⟨_, rfl⟩
  have e1 : IntKind.i64.wrap (1 + (r2 : Int)) = (L0 : Int) := by rw [IntWalk.i64_in _ (by omega)]; omega
  have hL50 : L0 ≤ 50 := by omega
  have HM2 := Lib.hid hM
  clear hM hw HM1 nq
  go_wp2_with fail
  clear e1 hL0 hr2
  refine (HM2.out.call hl Hb.out Hlt.out (by omega) (by omega) (by omega)).mono ?_
  rintro e w4 ⟨C, nq, rfl, hC, hw⟩
  have hM := HM2.out.draw nq
  rw [hw] at hM
  have HM3 := Lib.hid hM
  clear hM hw HM2 nq
  go_wp2_with fail
  obtain ⟨i1, hi, hz0, hz1, hz2⟩ := info_parts pairInfo
  have Hi1 := Lib.hid (And.intro hi (And.intro hz0 (And.intro hz1 hz2)))
  clear hi hz0 hz1 hz2
  obtain ⟨i2, hi, hz0, hz1, hz2⟩ := info_parts placeInfo
  have Hi2 := Lib.hid (And.intro hi (And.intro hz0 (And.intro hz1 hz2)))
  clear hi hz0 hz1 hz2
  obtain ⟨i4, hi, hz0, hz1, hz2⟩ := info_parts sprInfo
  have Hi4 := Lib.hid (And.intro hi (And.intro hz0 (And.intro hz1 hz2)))
  clear hi hz0 hz1 hz2
  obtain ⟨i5, hi, hz0, hz1, hz2⟩ := info_parts info22
  have Hi5 := Lib.hid (And.intro hi (And.intro hz0 (And.intro hz1 hz2)))
  clear hi hz0 hz1 hz2
  obtain ⟨i3, hi, hz0, hz1, hz2⟩ := info_parts info3
  have Hi3 := Lib.hid (And.intro hi (And.intro hz0 (And.intro hz1 hz2)))
  clear hi hz0 hz1 hz2
  go_loopw [6, 25] (fun u i X => ∃ (k : Nat) (last : Nat) (pts : List Int) (vP : Value), k ≤ C ∧ i = .int .i64 k ∧ u = .int .i64 last ∧ last ≤ 50 ∧ pts.length = k ∧ goodPts 50 pts = true ∧ (∀ h : pts ≠ [], (last : Int) = pts.getLast h) ∧ MW w X (.slice va l.length vc) (k + 3) P vP (.slice none 0 0) ∧ X.ownsRow (w.heap.size + 3) 3 1 vP k (intV pts)) (fun _ i _ => C - (intOf i).toNat)
  case atStart => exact ⟨0, L0, [], .slice none 0 0, by omega, rfl, rfl, hL50, rfl, rfl, fun h => absurd rfl h, HM3.out, own_nil _ _ _ _⟩
  case round =>
    obtain ⟨k, last, pts, vP, hk, rfl, rfl, hlast, hlen, hgp, hla, hM, hO⟩ := hrel
    have HM := Lib.hid hM
    have HO := Lib.hid hO
    have Hpt := Lib.hid (And.intro hlen (And.intro hgp hla))
    clear hM hO HM3 hlen hgp hla
    by_cases hlt : k < C
    · obtain ⟨m, hm⟩ : ∃ m : Nat, last + 1 = m := ⟨_, rfl⟩
      have e1 : IntKind.i64.wrap ((last : Int) + 1) = (m : Int) := by rw [IntWalk.i64_in _ (by omega)]; omega
      go_wp2_with fail
      clear e1
      refine (HM.out.call (m := (m : Int)) hl Hb.out Hlt.out (by omega) (by omega) (by omega)).mono ?_
      rintro e w5 ⟨x, nq, rfl, hx, hw⟩
      have hM5 := HM.out.draw nq
      have hO5 := own_draw (A := w.heap.size + 1 + 1) (nq := nq) (u := .int .i64 ((k + 3 + 1 : Nat) : Int)) HO.out (by omega)
      rw [hw] at hM5 hO5
      have hba : Below w5.heap.size w5 (w5.alloc (.cells #[.int .i64 (x : Int)] 3)) := (Below.refl _ _).alloc (Nat.le_refl _) _
      have hM6 := hM5.keep (hba.mono hM5.sz)
      have hO6 := hO5.alloc (.cells #[.int .i64 (x : Int)] 3)
      have n0 : (w5.alloc (.cells #[.int .i64 (x : Int)] 3)).cell? ⟨w5.heap.size, 0, none⟩ = some (.int .i64 (x : Int)) := cellN rfl rfl
      obtain ⟨hi, hz0, hz1, hz2⟩ := Hi3.out
      obtain ⟨v7, w7, hap, hO7, hgr, _⟩ := run_append_own (P := Try.prog) (w := w5.alloc (.cells #[.int .i64 (x : Int)] 3)) (w.heap.size + 3) 22 22 3 _ (.int .i64 0) 1 8 und22 hi hz0 hz1 hz2 rfl (by decide) vP _ _ hO6 ⟨w5.heap.size, 0, none⟩ 1 1 [.int .i64 (x : Int)] rfl (fun q z hz => by
        rw [addN]
        match q, hz with
        | 0, hz => cases hz; exact n0
        | q + 1, hz => simp at hz) (fun z hz => by simp at hz; subst hz; rfl) (by unfold maxLen; omega) (by omega) hM6.sz
      have hM7 := hM6.keep ((Below.refl _ _).grown hgr hM6.sz (fun j e => (hO6.lt j e).1))
      have r1 := hM5.r1
      have r1' := hM6.r1
      have s1 := hM7.r1
      have sf := hM7.fr 1
      have Hap := Lib.hid hap
      have HM7 := Lib.hid hM7
      have HO7 := Lib.hid hO7
      clear hM5 hO5 hba hM6 hO6 n0 hi hz0 hz1 hz2 hap hO7 hgr hM7 hw HM HO
      obtain ⟨ad, cc, rfl⟩ : ∃ ad cc, v7 = .slice ad (k + 1) cc := by
        rcases HO7.out.2 with ⟨_, h⟩ | ⟨g', cap', cur, h, _⟩
        · omega
        · exact ⟨_, _, h⟩
      go_wp2_with (at_builtin; refine wpList_append_run rfl (.tmp 32) (.tmp 34) 22 rfl _ _ rfl rfl Hap.out ?_)
      obtain ⟨X8, hX8⟩ : ∃ X8, w7.setCell ⟨w.heap.size + 1, 1, none⟩ (.slice ad (k + 1) cc) = X8 := ⟨_, rfl⟩
      rw [hX8]
      have hM8 := HM7.out.setR (k := 1) (u := .slice ad (k + 1) cc) (.inl rfl) rfl rfl
      have hO8 := own_set (g := w.heap.size + 1) (o := 1) (u := .slice ad (k + 1) cc) HO7.out (fun e => by have := (HO7.out.lt _ e).1; omega)
      rw [hX8] at hM8 hO8
      have e9 : k + 3 + 1 = k + 1 + 3 := by omega
      rw [e9] at hM8
      have HM8 := Lib.hid hM8
      have HO8 := Lib.hid hO8
      clear r1 r1' s1 sf hX8 hM8 hO8 HM7 HO7 Hap e9
      go_roundw
      case rel =>
        refine ⟨k + 1, x, pts ++ [(x : Int)], _, by omega, by go_num, rfl, by omega, by simp [Hpt.out.1], pts_more pts 50 last x Hpt.out.2.1 (fun _ => by omega) Hpt.out.2.2 (by omega) (by omega), fun h => by simp, HM8.out, ?_⟩
        have e : intV (pts ++ [(x : Int)]) = intV pts ++ [.int .i64 (x : Int)] := by simp [intV]
        rw [e]; exact HO8.out
      case measure => simp [intOf]; omega
    · have hkC : k = C := by omega
      go_wp2_with fail
      clear hk hlt
      refine (HM.out.call hl Hb.out Hlt.out (by omega) (by omega) (by omega)).mono ?_
      rintro e w5 ⟨CL, nq, rfl, hCL, hw⟩
      have hM5 := HM.out.draw nq
      have hO5 := own_draw (A := w.heap.size + 1 + 1) (nq := nq) (u := .int .i64 ((k + 3 + 1 : Nat) : Int)) HO.out (by omega)
      rw [hw] at hM5 hO5
      obtain ⟨hlen, hgp, _⟩ := Hpt.out
      rw [← hlen] at hO5
      have HM5 := Lib.hid hM5
      have HO5 := Lib.hid hO5
      have Hgp := Lib.hid hgp
      have hk6 : k ≤ 6 := by omega
      have hpl6 : pts.length ≤ 6 := by omega
      clear hM5 hO5 hw HM HO Hpt hlen hgp
      go_wp2_with fail
      go_loopw [3, 40] (fun t3 i X => ∃ (j q : Nat) (xs : List Spr) (os : List (List Nat)) (vL : Value), j ≤ CL ∧ i = .int .i64 j ∧ q ≤ 20 + 100 * j ∧ xs.length = j ∧ MW w X (.slice va l.length vc) q P vP vL ∧ X.ownsRow (w.heap.size + 3) 3 1 vP pts.length (intV pts) ∧ SprsB X (w.heap.size + 3) vL xs ∧ OrdsB X (w.heap.size + 3) t3 os ∧
        (∀ x, x ∈ xs → goodSpr ⟨P, pts, []⟩ x = true) ∧ TrueO ⟨P, pts, xs⟩ os) (fun _ i _ => CL - (intOf i).toNat)
      case atStart => exact ⟨0, k + 3 + 1, [], [], .slice none 0 0, by omega, rfl, by omega, rfl, HM5.out, HO5.out, ⟨fun _ => .slice none 0 0, fun _ => .slice none 0 0, by simpa [flatR] using own_nil w5 (w.heap.size + 3) 46 3, fun k x hx => by simp at hx⟩, ⟨[], own_nil _ _ _ _, fun i u l hu hl => by simp at hl⟩, (fun x hx => by cases hx), ⟨rfl, fun k hk => by simp at hk⟩⟩
      case round =>
        clear HM5 HO5
        obtain ⟨j, q, xs, os, vL, hj, rfl, hq, hxl, hM, hPo, hL, hOs, hgs, hT⟩ := hrel
        have HM := Lib.hid hM
        have HPo := Lib.hid hPo
        have HL := Lib.hid hL
        have HOs := Lib.hid hOs
        have HT := Lib.hid (And.intro hgs hT)
        clear hM hPo hL hOs hgs hT
        by_cases hlt : j < CL
        · have r0 := HM.out.r0
          go_wp2_with fail
          clear r0
          obtain ⟨Xi, rfl⟩ : ∃ Xi : World, Xi = wr := ⟨_, rfl⟩
          go_loopw [7, 44] (fun t7 i X => ∃ m : Nat, m ≤ P ∧ i = .int .i64 m ∧ Below Xi.heap.size Xi X ∧ X.ownsRow Xi.heap.size 3 1 t7 m (ordV (List.range m))) (fun _ i _ => P - (intOf i).toNat)
          case atStart => exact ⟨0, by omega, rfl, Below.refl _ _, own_nil _ _ _ _⟩
          case round =>
            obtain ⟨m, hm, rfl, hbX, hO⟩ := hrel
            have HbX := Lib.hid hbX
            have HO := Lib.hid hO
            have hsz := hbX.size
            clear hbX hO
            by_cases hlt2 : m < P
            · have hba : Below wr.heap.size wr (wr.alloc (.cells #[.int .i64 (m : Int)] 3)) := (Below.refl _ _).alloc (Nat.le_refl _) _
              have hO6 := HO.out.alloc (.cells #[.int .i64 (m : Int)] 3)
              have n0 : (wr.alloc (.cells #[.int .i64 (m : Int)] 3)).cell? ⟨wr.heap.size, 0, none⟩ = some (.int .i64 (m : Int)) := cellN rfl rfl
              have hz6 : Xi.heap.size ≤ (wr.alloc (.cells #[.int .i64 (m : Int)] 3)).heap.size := by simp; omega
              obtain ⟨hi, hz0, hz1, hz2⟩ := Hi3.out
              obtain ⟨v7, w7, hap, hO7, hgr, _⟩ := run_append_own (P := Try.prog) (w := wr.alloc (.cells #[.int .i64 (m : Int)] 3)) Xi.heap.size 22 22 3 _ (.int .i64 0) 1 8 und22 hi hz0 hz1 hz2 rfl (by decide) _ _ _ hO6 ⟨wr.heap.size, 0, none⟩ 1 1 [.int .i64 (m : Int)] rfl (fun q z hz => by
                rw [addN]
                match q, hz with
                | 0, hz => cases hz; exact n0
                | q + 1, hz => simp at hz) (fun z hz => by simp at hz; subst hz; rfl) (by unfold maxLen; omega) (by omega) hz6
              have hb7 : Below Xi.heap.size Xi w7 := HbX.out.trans ((hba.mono hsz).trans ((Below.refl _ _).grown hgr hz6 (fun j e => (hO6.lt j e).1)))
              have Hap := Lib.hid hap
              have Hb7 := Lib.hid hb7
              have HO7 := Lib.hid hO7
              clear hba hO6 n0 hz6 hi hz0 hz1 hz2 hap hO7 hgr hb7 HbX HO hsz
              go_wp2_with (at_builtin; refine wpList_append_run rfl (.tmp 47) (.tmp 49) 22 rfl _ _ rfl rfl Hap.out ?_)
              go_roundw
              case rel =>
                refine ⟨m + 1, by omega, by go_num, Hb7.out, ?_⟩
                have e : ordV (List.range (m + 1)) = ordV (List.range m) ++ [.int .i64 (m : Int)] := by rw [List.range_succ]; simp [ordV]
                rw [e]; exact HO7.out
              case measure => simp [intOf]; omega
            · have hmP : m = P := by omega
              subst hmP
              obtain ⟨g, cap, hgc⟩ : ∃ g cap, u7 = .slice (some ⟨g, 0, none⟩) m cap := by
                rcases HO.out.2 with ⟨_, h⟩ | ⟨g, cap, cur, h, _⟩
                · omega
                · exact ⟨g, cap, h⟩
              subst hgc
              have hgl := HO.out.lt g rfl
              have hM2 := HM.out.keep (HbX.out.mono HM.out.sz)
              have HM2 := Lib.hid hM2
              have HgX := Lib.hid (grown_below (A := w.heap.size + 1 + 1) HbX.out)
              have hXs := HM.out.sz
              clear hM2 hsz hm
              go_wp2_with fail
              clear hlt2
              obtain ⟨wo, rfl⟩ : ∃ wo : World, wo = wr := ⟨_, rfl⟩
              go_loopw [54] (fun i X => ∃ (z qz : Nat) (o : List Nat), z ≤ m ∧ i = .int .i64 z ∧ qz = q + z ∧ o.Perm (List.range m) ∧ Xi.grownBy X (some (w.heap.size + 1 + 1)) ∧ MW w X (.slice va l.length vc) qz m vP vL ∧ X.ownsRow Xi.heap.size 3 1 (.slice (some ⟨g, 0, none⟩) m cap) m (ordV o)) (fun i _ => m - (intOf i).toNat)
              case atStart => exact ⟨0, q, List.range m, by omega, rfl, by omega, List.Perm.refl _, HgX.out, HM2.out, HO.out⟩
              case round =>
                clear HO HbX HM2 HgX
                obtain ⟨z, qz, o, hz, rfl, hqz, hop, hgX, hMz, hOz⟩ := hrel
                have HMz := Lib.hid hMz
                have HOz := Lib.hid hOz
                have HgX := Lib.hid hgX
                clear hMz hOz hgX
                by_cases hlt3 : z < m
                · obtain ⟨d, hd⟩ : ∃ d : Nat, m - z = d := ⟨_, rfl⟩
                  have e1 : IntKind.i64.wrap ((m : Int) - (z : Int)) = (d : Int) := by rw [IntWalk.i64_in _ (by omega)]; omega
                  go_wp2_with fail
                  refine (HMz.out.call (m := (d : Int)) hl Hb.out Hlt.out (by omega) (by omega) (by omega)).mono ?_
                  rintro e w8 ⟨r8, nq, rfl, hr8, hw⟩
                  have hM8 := HMz.out.draw nq
                  have hO8 := own_draw (A := w.heap.size + 1 + 1) (nq := nq) (u := .int .i64 ((qz + 1 : Nat) : Int)) HOz.out (by omega)
                  have hg8 := grown_from HgX.out (grown_draw (A := w.heap.size + 1 + 1) (nq := nq) (u := .int .i64 ((qz + 1 : Nat) : Int)))
                  rw [hw] at hM8 hO8 hg8
                  obtain ⟨k2, hk2⟩ : ∃ k2 : Nat, z + r8 = k2 := ⟨_, rfl⟩
                  have e2 : IntKind.i64.wrap ((z : Int) + (r8 : Int)) = (k2 : Int) := by rw [IntWalk.i64_in _ (by omega)]; omega
                  have hk2m : k2 < m := by omega
                  have hol : o.length = m := by rw [hop.length_eq, List.length_range]
                  clear e1 hw hd
                  have HM8 := Lib.hid hM8
                  have HO8 := Lib.hid hO8
                  have Hg8 := Lib.hid hg8
                  clear hM8 hO8 hg8 HMz HOz HgX
                  go_wp2_with fail
                  obtain ⟨c1, f1⟩ := own_at HO8.out hlt3 hol
                  obtain ⟨c2, f2⟩ := own_at HO8.out hk2m hol
                  obtain ⟨x1, hx1⟩ : ∃ x1, o.getD z 0 = x1 := ⟨_, rfl⟩
                  obtain ⟨x2, hx2⟩ : ∃ x2, o.getD k2 0 = x2 := ⟨_, rfl⟩
                  rw [hx1] at c1
                  rw [hx2] at c2
                  have i1 : (0 : Int) ≤ (z : Int) := by omega
                  have i2 : (z : Int) < (m : Int) := by omega
                  have i3 : (0 : Int) ≤ (k2 : Int) := by omega
                  have i4 : (k2 : Int) < (m : Int) := by omega
                  have Hx := Lib.hid (And.intro hx1 hx2)
                  clear hx1 hx2 e2
                  by_cases hzk : z = k2
                  · subst hzk
                    have hxx : x2 = x1 := by
                      have h := c1.symm.trans c2
                      simp at h; omega
                    subst hxx
                    have c3 : (w8.setCell ⟨g, z, none⟩ (.int .i64 (x2 : Int))).cell? ⟨g, z, none⟩ = some (.int .i64 (x2 : Int)) := cellSame c1
                    have f3 : (w8.setCell ⟨g, z, none⟩ (.int .i64 (x2 : Int))).frozen? ⟨g, z, none⟩ = false := by rw [World.frozen?_setCell]; exact f1
                    clear c2 f2
                    go_region
                    obtain ⟨w9, hw9⟩ : ∃ w9, ((w8.setCell ⟨g, z, none⟩ (.int .i64 (x2 : Int))).setCell ⟨g, z, none⟩ (.int .i64 (x2 : Int))).drew = w9 := ⟨_, rfl⟩
                    rw [hw9]
                    have hO9 : w9.ownsRow Xi.heap.size 3 1 (.slice (some ⟨g, 0, none⟩) m cap) m (ordV (swapL o z z)) := by
                      rw [← hw9]
                      have h1 := own_put (i := z) (u := .int .i64 (x2 : Int)) HO8.out hlt3
                      have h2 := own_put (i := z) (u := .int .i64 (x2 : Int)) h1 hlt3
                      rw [ordV_set, ordV_set] at h2
                      unfold swapL
                      rw [Hx.out.1]
                      exact h2
                    have hb9 : Below Xi.heap.size w8 w9 := by rw [← hw9]; exact (((Below.refl _ _).setCell (by show Xi.heap.size ≤ g; omega) _).setCell (by show Xi.heap.size ≤ g; omega) _).drew
                    have HO9 := Lib.hid hO9
                    have Hg9 := Lib.hid (grown_base Hg8.out hb9)
                    have HM9 := Lib.hid (HM8.out.keep (hb9.mono hXs))
                    have Hop9 := Lib.hid ((swap_perm (l := o) (i := z) (k := z) (by omega) (by omega)).trans hop)
                    clear hO9 hb9 hw9 c1 c3 f1 f3 HO8 Hg8 HM8
                    go_wp2_with fail
                    go_roundw
                    case rel => exact ⟨z + 1, qz + 1, swapL o z z, by omega, by go_num, by omega, Hop9.out, Hg9.out, HM9.out, HO9.out⟩
                    case measure => simp [intOf]; omega
                  · go_region
                    obtain ⟨w9, hw9⟩ : ∃ w9, ((w8.setCell ⟨g, z, none⟩ (.int .i64 (x2 : Int))).setCell ⟨g, k2, none⟩ (.int .i64 (x1 : Int))).drew = w9 := ⟨_, rfl⟩
                    rw [hw9]
                    have hO9 : w9.ownsRow Xi.heap.size 3 1 (.slice (some ⟨g, 0, none⟩) m cap) m (ordV (swapL o z k2)) := by
                      rw [← hw9]
                      have h1 := own_put (i := z) (u := .int .i64 (x2 : Int)) HO8.out hlt3
                      have h2 := own_put (i := k2) (u := .int .i64 (x1 : Int)) h1 hk2m
                      rw [ordV_set, ordV_set] at h2
                      unfold swapL
                      rw [Hx.out.1, Hx.out.2]
                      exact h2
                    have hb9 : Below Xi.heap.size w8 w9 := by rw [← hw9]; exact (((Below.refl _ _).setCell (by show Xi.heap.size ≤ g; omega) _).setCell (by show Xi.heap.size ≤ g; omega) _).drew
                    have HO9 := Lib.hid hO9
                    have Hg9 := Lib.hid (grown_base Hg8.out hb9)
                    have HM9 := Lib.hid (HM8.out.keep (hb9.mono hXs))
                    have Hop9 := Lib.hid ((swap_perm (l := o) (i := z) (k := k2) (by omega) (by omega)).trans hop)
                    clear hO9 hb9 hw9 c1 c2 f1 f2 HO8 Hg8 HM8
                    go_wp2_with fail
                    go_roundw
                    case rel => exact ⟨z + 1, qz + 1, swapL o z k2, by omega, by go_num, by omega, Hop9.out, Hg9.out, HM9.out, HO9.out⟩
                    case measure => simp [intOf]; omega
                · have hzm : z = m := by omega
                  go_wp2_with fail
                  clear hz hlt3
                  refine (HMz.out.call hl Hb.out Hlt.out (by omega) (by omega) (by omega)).mono ?_
                  rintro e w8 ⟨r8, nq, rfl, hr8, hw⟩
                  have hM8 := HMz.out.draw nq
                  have hO8 := own_draw (A := w.heap.size + 1 + 1) (nq := nq) (u := .int .i64 ((qz + 1 : Nat) : Int)) HOz.out (by omega)
                  have hg8 := grown_from HgX.out (grown_draw (A := w.heap.size + 1 + 1) (nq := nq) (u := .int .i64 ((qz + 1 : Nat) : Int)))
                  rw [hw] at hM8 hO8 hg8
                  obtain ⟨db, hdb⟩ : ∃ db, ((r8 : Int) == 0) = db := ⟨_, rfl⟩
                  have hz8 : Xi.heap.size ≤ w8.heap.size := hg8.size
                  have hba : Below w8.heap.size w8 (w8.alloc (.cells #[.slice none 0 0, .slice none 0 0, .bool db] 46)) := (Below.refl _ _).alloc (Nat.le_refl _) _
                  have HM8 := Lib.hid (hM8.keep (hba.mono hM8.sz))
                  have HO8 := Lib.hid (hO8.alloc (.cells #[.slice none 0 0, .slice none 0 0, .bool db] 46))
                  have Hg8 := Lib.hid (grown_base hg8 (hba.mono hz8))
                  have n0 : (w8.alloc (.cells #[.slice none 0 0, .slice none 0 0, .bool db] 46)).cell? ⟨w8.heap.size, 0, none⟩ = some (.slice none 0 0) := cellN rfl rfl
                  have n1 : (w8.alloc (.cells #[.slice none 0 0, .slice none 0 0, .bool db] 46)).cell? ⟨w8.heap.size, 1, none⟩ = some (.slice none 0 0) := cellN rfl rfl
                  have n2 : (w8.alloc (.cells #[.slice none 0 0, .slice none 0 0, .bool db] 46)).cell? ⟨w8.heap.size, 2, none⟩ = some (.bool db) := cellN rfl rfl
                  have nf : ∀ y, (w8.alloc (.cells #[.slice none 0 0, .slice none 0 0, .bool db] 46)).frozen? ⟨w8.heap.size, y, none⟩ = false := fun y => World.frozen?_alloc_at _ _ _ _ rfl
                  have nh : ∃ cur, (w8.alloc (.cells #[.slice none 0 0, .slice none 0 0, .bool db] 46)).heap[w8.heap.size]? = some (.cells cur 46 (0, 0)) := ⟨_, heapNew rfl⟩
                  have Hn := Lib.hid (And.intro n0 (And.intro n1 (And.intro n2 (And.intro nf nh))))
                  clear hM8 hO8 hg8 hw HMz HOz HgX hba n0 n1 n2 nf nh hr8
                  go_wp2_with fail
                  clear hdb
                  obtain ⟨Xb, hXb⟩ : ∃ Xb, w8.heap.size = Xb := ⟨_, rfl⟩
                  obtain ⟨wy, hwy⟩ : ∃ wy, w8.alloc (.cells #[.slice none 0 0, .slice none 0 0, .bool db] 46) = wy := ⟨_, rfl⟩
                  rw [hwy] at HM8 HO8 Hg8 Hn ⊢
                  rw [hXb] at Hn ⊢
                  have hXbz : Xb < wy.heap.size := lt_of_cell Hn.out.1
                  rw [hXb] at hz8
                  clear hXb hwy
                  refine (HM8.out.call hl Hb.out Hlt.out (by omega) (by omega) (by omega)).mono ?_
                  rintro e w9 ⟨CA, nq, rfl, hCA, hw⟩
                  have hM9 := HM8.out.draw nq
                  have hO9 := own_draw (A := w.heap.size + 1 + 1) (nq := nq) (u := .int .i64 ((qz + 1 + 1 : Nat) : Int)) HO8.out (by omega)
                  have hg9 := grown_from Hg8.out (grown_draw (A := w.heap.size + 1 + 1) (nq := nq) (u := .int .i64 ((qz + 1 + 1 : Nat) : Int)))
                  have hX9 := (XB.mk Hn.out.1 Hn.out.2.1 Hn.out.2.2.1 Hn.out.2.2.2.1 Hn.out.2.2.2.2).draw (A := w.heap.size + 1 + 1) (nq := nq) (u := .int .i64 ((qz + 1 + 1 : Nat) : Int)) (by omega) hXbz
                  have hz9 : Xb < ((wy.setCell ⟨w.heap.size + 1 + 1, 0, none⟩ (.int .i64 ((qz + 1 + 1 : Nat) : Int))).drewN nq).heap.size := by
                    have h := (grown_draw (X := wy) (A := w.heap.size + 1 + 1) (nq := nq) (u := .int .i64 ((qz + 1 + 1 : Nat) : Int))).size
                    omega
                  rw [hw] at hM9 hO9 hg9 hX9 hz9
                  have HM9 := Lib.hid hM9
                  have HO9 := Lib.hid hO9
                  have Hg9 := Lib.hid hg9
                  have HX9 := Lib.hid (And.intro hX9 hz9)
                  have hol : o.length = m := by rw [hop.length_eq, List.length_range]
                  have Hop := Lib.hid hop
                  clear hM9 hO9 hg9 hX9 hz9 hw HM8 HO8 Hg8 Hn hXbz hop
                  go_wp2_with fail
                  go_loopw [86] (fun i X => ∃ (y qy : Nat) (ys : List (Int × Int)) (uA : Value), y ≤ CA ∧ i = .int .i64 y ∧ qy ≤ qz + 2 + 2 * y ∧ ys.length ≤ y ∧ Xi.grownBy X (some (w.heap.size + 1 + 1)) ∧ MW w X (.slice va l.length vc) qy m vP vL ∧ X.ownsRow Xi.heap.size 3 1 (.slice (some ⟨g, 0, none⟩) m cap) m (ordV o) ∧
                    XB X Xb uA (.slice none 0 0) db ∧ Xb < X.heap.size ∧ X.ownsRow Xi.heap.size 71 2 uA ys.length (flatR ys.length 2 (rowA ys)) ∧ goodSpr ⟨m, pts, []⟩ ⟨ys, [], db⟩ = true ∧ allFit ⟨ys, [], db⟩ o = true) (fun i _ => CA - (intOf i).toNat)
                  case atStart => exact ⟨0, qz + 1 + 1, [], .slice none 0 0, by omega, rfl, by omega, by simp, Hg9.out, HM9.out, HO9.out, HX9.out.1, HX9.out.2, by simpa [flatR] using own_nil _ Xi.heap.size 71 2, rfl, rfl⟩
                  case round =>
                    obtain ⟨y, qy, ys, uA, hy, rfl, hqy, hyl, hgX, hMy, hOy, hXy, hXz, hAy, hgd, hft⟩ := hrel
                    have HMy := Lib.hid hMy
                    have HOy := Lib.hid hOy
                    have HgX := Lib.hid hgX
                    have HXy := Lib.hid (And.intro hXy hXz)
                    have HAy := Lib.hid hAy
                    have Hgd := Lib.hid (And.intro hgd hft)
                    clear hMy hOy hgX hXy hXz hAy hgd hft HM9 HO9 Hg9 HX9
                    by_cases hlt4 : y < CA
                    · have r0 := HMy.out.r0
                      have HMd := Lib.hid (HMy.out.keep ((Below.refl (w.heap.size + 3) wr).drew))
                      go_wp2_with fail
                      go_region_held3 (fun X => X.cell? ⟨w.heap.size + 1, 0, none⟩ = some (.int .i64 (m : Int))) (first | (exact r0) | (exact HMb.out.r0) | (exact HMa.out.r0) | go_keep)
                        (first | (go_at_call 83; (with_reducible refine (HMd.out.call (m := (m : Int)) hl Hb.out Hlt.out (by omega) (by omega) (by omega)).mono ?_); rintro e wa ⟨ra, na, rfl, hra, hwa⟩; have hMa := HMd.out.draw na; rw [hwa] at hMa; have HMa := Lib.hid hMa; clear hMa) | (go_at_call 83; (with_reducible refine (HMa.out.call (m := (m : Int)) hl Hb.out Hlt.out (by omega) (by omega) (by omega)).mono ?_); rintro e wb ⟨rb, nb, rfl, hrb, hwb⟩; have hMb := HMa.out.draw nb; rw [hwb] at hMb; have HMb := Lib.hid hMb; clear hMb))
                      have hgb := two_grown hwa hwb
                      have HOb := Lib.hid (two_own hwa hwb HOy.out (by omega))
                      have HAb := Lib.hid (two_own hwa hwb HAy.out (by omega))
                      have HXb := Lib.hid (And.intro (two_xb hwa hwb HXy.out.1 (by omega) HXy.out.2) (Nat.lt_of_lt_of_le HXy.out.2 hgb.size))
                      have HgB := Lib.hid (grown_from HgX.out hgb)
                      clear hgb hwa hwb HOy HAy HXy HgX HMy HMa HMd r0
                      by_cases hab : ra = rb
                      · have e8 : ((ra : Int) != (rb : Int)) = false := by rw [hab]; simp
                        have Hab := Lib.hid hab
                        clear hab
                        go_wp2_with fail
                        go_roundw
                        case rel => exact ⟨y + 1, qy + 1 + 1, ys, uA, by omega, by go_num, by omega, by omega, HgB.out, HMb.out, HOb.out, HXb.out.1, HXb.out.2, HAb.out, Hgd.out.1, Hgd.out.2⟩
                        case measure => simp [intOf]; omega
                      · obtain ⟨p1, hp1⟩ : ∃ p1 : Nat, min ra rb = p1 := ⟨_, rfl⟩
                        obtain ⟨p2, hp2⟩ : ∃ p2 : Nat, max ra rb = p2 := ⟨_, rfl⟩
                        have hp1m : p1 < m := by omega
                        have hp2m : p2 < m := by omega
                        have hpp : p1 < p2 := by omega
                        have ep1 : min (ra : Int) (rb : Int) = (p1 : Int) := by omega
                        have ep2 : max (ra : Int) (rb : Int) = (p2 : Int) := by omega
                        have e8 : ((ra : Int) != (rb : Int)) = true := by simpa using (fun e : (ra : Int) = rb => hab (by omega))
                        clear hp1 hp2 hab
                        go_wp2_with fail
                        clear e8
                        obtain ⟨c1, _⟩ := own_at HOb.out hp1m hol
                        obtain ⟨c2, _⟩ := own_at HOb.out hp2m hol
                        have hmo := more_ahead (p1 := p1) Hop.out hp2m hpp Hgd.out.1 Hgd.out.2 (by omega)
                        obtain ⟨o1, ho1⟩ : ∃ x1, o.getD p1 0 = x1 := ⟨_, rfl⟩
                        obtain ⟨o2, ho2⟩ : ∃ x2, o.getD p2 0 = x2 := ⟨_, rfl⟩
                        rw [ho1] at c1 hmo
                        rw [ho2] at c2 hmo
                        have Hmo := Lib.hid hmo
                        clear ho1 ho2 hmo
                        obtain ⟨wt, hwt⟩ : ∃ wt, wb.drew = wt := ⟨_, rfl⟩
                        have hbt : Below wb.heap.size wb wt := by rw [← hwt]; exact (Below.refl _ _).drew
                        have hwz : wt.heap.size = wb.heap.size := by rw [← hwt]; simp
                        have hSt : wt.cell? ⟨Xb, 0, none⟩ = some uA ∧ wt.cell? ⟨g, p1, none⟩ = some (.int .i64 (o1 : Int)) ∧ wt.cell? ⟨g, p2, none⟩ = some (.int .i64 (o2 : Int)) := by
                          rw [← hwt]
                          exact ⟨HXb.out.1.c0, c1, c2⟩
                        have hownt : wt.ownsRow Xi.heap.size 71 2 uA ys.length (flatR ys.length 2 (rowA ys)) := own_kept2 HAb.out hbt
                        have hXt : Xi.heap.size ≤ wt.heap.size := by
                          have := HgB.out.size
                          omega
                        have hOt : wt.ownsRow Xi.heap.size 3 1 (.slice (some ⟨g, 0, none⟩) m cap) m (ordV o) := own_kept2 HOb.out hbt
                        have hXbt := HXb.out.1.keep hbt HXb.out.2
                        have hXbz : Xb < wt.heap.size := by have := HXb.out.2; omega
                        have i1 : (0 : Int) ≤ (p1 : Int) := by omega
                        have i2 : (p1 : Int) < (m : Int) := by omega
                        have i3 : (0 : Int) ≤ (p2 : Int) := by omega
                        have i4 : (p2 : Int) < (m : Int) := by omega
                        have HXt := Lib.hid hXbt
                        have Hot := Lib.hid hOt
                        have Hownt := Lib.hid hownt
                        have Hbt := Lib.hid hbt
                        clear c1 c2 hXbt hOt hownt hbt
                        refine (wpIn_wide (n := 1)).1 ?_
                        refine heldRegion (fun X => X.cell? ⟨Xb, 0, none⟩ = some uA ∧ X.cell? ⟨g, p1, none⟩ = some (.int .i64 (o1 : Int)) ∧ X.cell? ⟨g, p2, none⟩ = some (.int .i64 (o2 : Int))) (by kernel_rfl) ?_
                        rw [hwt]
                        have Hwt := Lib.hid hwt
                        have Hwz := Lib.hid hwz
                        clear hwt hwz
                        refine heldTake 0 (fun _ => trivial) rfl (by kernel_rfl) (by kernel_rfl) (by kernel_rfl) (fun _ _ _ h => h) hSt rfl (v := .pointer (some ⟨Xb, 0, none⟩)) ?x0 ?_
                        case x0 => rintro w ⟨s0, s1, s2⟩; first | (go_simp; done) | (go_simp; simp [IntKind.wrap_i64, wrap64]; done) | simp [execOp, go_sem, *]
                        try simp only [Act.put, List.setIfInBounds_toArray, List.set_cons_zero, List.set_cons_succ, List.getElem_toArray, List.getElem_cons_succ, List.getElem_cons_zero]
                        refine heldTake 1 (fun _ => trivial) rfl (by kernel_rfl) (by kernel_rfl) (by kernel_rfl) (fun _ _ _ h => h) hSt rfl (v := uA) ?x1 ?_
                        case x1 => rintro w ⟨s0, s1, s2⟩; first | (go_simp; done) | (go_simp; simp [IntKind.wrap_i64, wrap64]; done) | simp [execOp, go_sem, *]
                        try simp only [Act.put, List.setIfInBounds_toArray, List.set_cons_zero, List.set_cons_succ, List.getElem_toArray, List.getElem_cons_succ, List.getElem_cons_zero]
                        refine heldTake 2 (fun _ => trivial) rfl (by kernel_rfl) (by kernel_rfl) (by kernel_rfl) (fun _ _ _ h => h) hSt rfl (v := .slice (some ⟨g, 0, none⟩) m cap) ?x2 ?_
                        case x2 => rintro w ⟨s0, s1, s2⟩; first | (go_simp; done) | (go_simp; simp [IntKind.wrap_i64, wrap64]; done) | simp [execOp, go_sem, *]
                        try simp only [Act.put, List.setIfInBounds_toArray, List.set_cons_zero, List.set_cons_succ, List.getElem_toArray, List.getElem_cons_succ, List.getElem_cons_zero]
                        refine heldTake 3 (fun _ => trivial) rfl (by kernel_rfl) (by kernel_rfl) (by kernel_rfl) (fun _ _ _ h => h) hSt rfl (v := .int .i64 (ra : Int)) ?x3 ?_
                        case x3 => rintro w ⟨s0, s1, s2⟩; first | (go_simp; done) | (go_simp; simp [IntKind.wrap_i64, wrap64]; done) | simp [execOp, go_sem, *]
                        try simp only [Act.put, List.setIfInBounds_toArray, List.set_cons_zero, List.set_cons_succ, List.getElem_toArray, List.getElem_cons_succ, List.getElem_cons_zero]
                        refine heldTake 4 (fun _ => trivial) rfl (by kernel_rfl) (by kernel_rfl) (by kernel_rfl) (fun _ _ _ h => h) hSt rfl (v := .int .i64 (rb : Int)) ?x4 ?_
                        case x4 => rintro w ⟨s0, s1, s2⟩; first | (go_simp; done) | (go_simp; simp [IntKind.wrap_i64, wrap64]; done) | simp [execOp, go_sem, *]
                        try simp only [Act.put, List.setIfInBounds_toArray, List.set_cons_zero, List.set_cons_succ, List.getElem_toArray, List.getElem_cons_succ, List.getElem_cons_zero]
                        refine heldTake 5 (fun _ => trivial) rfl (by kernel_rfl) (by kernel_rfl) (by kernel_rfl) (fun _ _ _ h => h) hSt rfl (v := .int .i64 (p1 : Int)) ?x5 ?_
                        case x5 => rintro w ⟨s0, s1, s2⟩; first | (go_simp; done) | (go_simp; simp [IntKind.wrap_i64, wrap64]; done) | simp [execOp, go_sem, *]
                        try simp only [Act.put, List.setIfInBounds_toArray, List.set_cons_zero, List.set_cons_succ, List.getElem_toArray, List.getElem_cons_succ, List.getElem_cons_zero]
                        refine heldTake 6 (fun _ => trivial) rfl (by kernel_rfl) (by kernel_rfl) (by kernel_rfl) (fun _ _ _ h => h) hSt rfl (v := .pointer (some ⟨g, p1, none⟩)) ?x6 ?_
                        case x6 => rintro w ⟨s0, s1, s2⟩; first | (go_simp; done) | (go_simp; simp [IntKind.wrap_i64, wrap64]; done) | simp [execOp, go_sem, *]
                        try simp only [Act.put, List.setIfInBounds_toArray, List.set_cons_zero, List.set_cons_succ, List.getElem_toArray, List.getElem_cons_succ, List.getElem_cons_zero]
                        refine heldTake 7 (fun _ => trivial) rfl (by kernel_rfl) (by kernel_rfl) (by kernel_rfl) (fun _ _ _ h => h) hSt rfl (v := .int .i64 (o1 : Int)) ?x7 ?_
                        case x7 => rintro w ⟨s0, s1, s2⟩; first | (go_simp; done) | (go_simp; simp [IntKind.wrap_i64, wrap64]; done) | simp [execOp, go_sem, *]
                        try simp only [Act.put, List.setIfInBounds_toArray, List.set_cons_zero, List.set_cons_succ, List.getElem_toArray, List.getElem_cons_succ, List.getElem_cons_zero]
                        refine heldTake 8 (fun _ => trivial) rfl (by kernel_rfl) (by kernel_rfl) (by kernel_rfl) (fun _ _ _ h => h) hSt rfl (v := .slice (some ⟨g, 0, none⟩) m cap) ?x8 ?_
                        case x8 => rintro w ⟨s0, s1, s2⟩; first | (go_simp; done) | (go_simp; simp [IntKind.wrap_i64, wrap64]; done) | simp [execOp, go_sem, *]
                        try simp only [Act.put, List.setIfInBounds_toArray, List.set_cons_zero, List.set_cons_succ, List.getElem_toArray, List.getElem_cons_succ, List.getElem_cons_zero]
                        refine heldTake 9 (fun _ => trivial) rfl (by kernel_rfl) (by kernel_rfl) (by kernel_rfl) (fun _ _ _ h => h) hSt rfl (v := .int .i64 (ra : Int)) ?x9 ?_
                        case x9 => rintro w ⟨s0, s1, s2⟩; first | (go_simp; done) | (go_simp; simp [IntKind.wrap_i64, wrap64]; done) | simp [execOp, go_sem, *]
                        try simp only [Act.put, List.setIfInBounds_toArray, List.set_cons_zero, List.set_cons_succ, List.getElem_toArray, List.getElem_cons_succ, List.getElem_cons_zero]
                        refine heldTake 10 (fun _ => trivial) rfl (by kernel_rfl) (by kernel_rfl) (by kernel_rfl) (fun _ _ _ h => h) hSt rfl (v := .int .i64 (rb : Int)) ?x10 ?_
                        case x10 => rintro w ⟨s0, s1, s2⟩; first | (go_simp; done) | (go_simp; simp [IntKind.wrap_i64, wrap64]; done) | simp [execOp, go_sem, *]
                        try simp only [Act.put, List.setIfInBounds_toArray, List.set_cons_zero, List.set_cons_succ, List.getElem_toArray, List.getElem_cons_succ, List.getElem_cons_zero]
                        refine heldTake 11 (fun _ => trivial) rfl (by kernel_rfl) (by kernel_rfl) (by kernel_rfl) (fun _ _ _ h => h) hSt rfl (v := .int .i64 (p2 : Int)) ?x11 ?_
                        case x11 => rintro w ⟨s0, s1, s2⟩; first | (go_simp; done) | (go_simp; simp [IntKind.wrap_i64, wrap64]; done) | simp [execOp, go_sem, *]
                        try simp only [Act.put, List.setIfInBounds_toArray, List.set_cons_zero, List.set_cons_succ, List.getElem_toArray, List.getElem_cons_succ, List.getElem_cons_zero]
                        refine heldTake 12 (fun _ => trivial) rfl (by kernel_rfl) (by kernel_rfl) (by kernel_rfl) (fun _ _ _ h => h) hSt rfl (v := .pointer (some ⟨g, p2, none⟩)) ?x12 ?_
                        case x12 => rintro w ⟨s0, s1, s2⟩; first | (go_simp; done) | (go_simp; simp [IntKind.wrap_i64, wrap64]; done) | simp [execOp, go_sem, *]
                        try simp only [Act.put, List.setIfInBounds_toArray, List.set_cons_zero, List.set_cons_succ, List.getElem_toArray, List.getElem_cons_succ, List.getElem_cons_zero]
                        refine heldTake 13 (fun _ => trivial) rfl (by kernel_rfl) (by kernel_rfl) (by kernel_rfl) (fun _ _ _ h => h) hSt rfl (v := .int .i64 (o2 : Int)) ?x13 ?_
                        case x13 => rintro w ⟨s0, s1, s2⟩; first | (go_simp; done) | (go_simp; simp [IntKind.wrap_i64, wrap64]; done) | simp [execOp, go_sem, *]
                        try simp only [Act.put, List.setIfInBounds_toArray, List.set_cons_zero, List.set_cons_succ, List.getElem_toArray, List.getElem_cons_succ, List.getElem_cons_zero]
                        refine heldTake 14 (fun _ => trivial) rfl (by kernel_rfl) (by kernel_rfl) (by kernel_rfl) (fun _ _ _ h => h) hSt rfl (v := .agg #[.int .i64 (o1 : Int), .int .i64 (o2 : Int)]) ?x14 ?_
                        case x14 => rintro w ⟨s0, s1, s2⟩; first | (go_simp; done) | (go_simp; simp [IntKind.wrap_i64, wrap64]; done) | simp [execOp, go_sem, *]
                        try simp only [Act.put, List.setIfInBounds_toArray, List.set_cons_zero, List.set_cons_succ, List.getElem_toArray, List.getElem_cons_succ, List.getElem_cons_zero]
                        refine heldNext 15 (by kernel_rfl) rfl rfl (fun K hK => ?_)
                        gi_wp2
                        have hbY : Below wt.heap.size wt (wt.alloc (.cells #[.int .i64 (o1 : Int), .int .i64 (o2 : Int)] 71)) := (Below.refl _ _).alloc (Nat.le_refl _) _
                        have hSY : (wt.alloc (.cells #[.int .i64 (o1 : Int), .int .i64 (o2 : Int)] 71)).cell? ⟨Xb, 0, none⟩ = some uA ∧ (wt.alloc (.cells #[.int .i64 (o1 : Int), .int .i64 (o2 : Int)] 71)).cell? ⟨g, p1, none⟩ = some (.int .i64 (o1 : Int)) ∧ (wt.alloc (.cells #[.int .i64 (o1 : Int), .int .i64 (o2 : Int)] 71)).cell? ⟨g, p2, none⟩ = some (.int .i64 (o2 : Int)) := (fun h => ⟨Below.cellSome hbY h.1, Below.cellSome hbY h.2.1, Below.cellSome hbY h.2.2⟩) hSt
                        have n0 : (wt.alloc (.cells #[.int .i64 (o1 : Int), .int .i64 (o2 : Int)] 71)).cell? ⟨wt.heap.size, 0, none⟩ = some (.int .i64 (o1 : Int)) := cellN rfl rfl
                        have n1 : (wt.alloc (.cells #[.int .i64 (o1 : Int), .int .i64 (o2 : Int)] 71)).cell? ⟨wt.heap.size, 1, none⟩ = some (.int .i64 (o2 : Int)) := cellN rfl rfl
                        have hownY := Hownt.out.alloc (.cells #[.int .i64 (o1 : Int), .int .i64 (o2 : Int)] 71)
                        have hOY := Hot.out.alloc (.cells #[.int .i64 (o1 : Int), .int .i64 (o2 : Int)] 71)
                        have hXY := HXt.out.keep hbY hXbz
                        have hzY : Xi.heap.size ≤ (wt.alloc (.cells #[.int .i64 (o1 : Int), .int .i64 (o2 : Int)] 71)).heap.size := by simp; omega
                        have hXbY : Xb < (wt.alloc (.cells #[.int .i64 (o1 : Int), .int .i64 (o2 : Int)] 71)).heap.size := by simp; omega
                        refine hK _ _ (fun _ => hSY) ?_
                        clear hK K
                        try simp only [Act.put, List.setIfInBounds_toArray, List.set_cons_zero, List.set_cons_succ, List.getElem_toArray, List.getElem_cons_succ, List.getElem_cons_zero]
                        obtain ⟨hi, hz0, hz1, hz2⟩ := Hi1.out
                        obtain ⟨v53, Z, hap, hownZ, hgrZ, _⟩ := run_append_own (P := Try.prog) (w := (wt.alloc (.cells #[.int .i64 (o1 : Int), .int .i64 (o2 : Int)] 71))) Xi.heap.size 43 43 71 _ (.agg #[.int .i64 0, .int .i64 0]) 2 16 und43 hi hz0 hz1 hz2 rfl (by decide) uA _ _ hownY ⟨wt.heap.size, 0, none⟩ 1 1 [.int .i64 (o1 : Int), .int .i64 (o2 : Int)] rfl (fun q z hz => by
                          rw [addN]
                          match q, hz with
                          | 0, hz => cases hz; exact n0
                          | 1, hz => cases hz; exact n1
                          | q + 2, hz => simp at hz) (fun z hz => by simp at hz; rcases hz with rfl | rfl <;> rfl) (by unfold maxLen; omega) (by omega) hzY
                        have hugX := hXY.apart hownY (by decide)
                        have hug : uA.ownBlock ≠ some g := fun e => by
                          rcases own_apart hOY hownY (by decide) with h | h
                          · cases h
                          · exact h e.symm
                        have HOZ := Lib.hid (hOY.kept hgrZ (own_apart hOY hownY (by decide)))
                        have HXZ := Lib.hid (hXY.grown hgrZ hugX hXbY)
                        have hbZ : Below Xi.heap.size (wt.alloc (.cells #[.int .i64 (o1 : Int), .int .i64 (o2 : Int)] 71)) Z := (Below.refl _ _).grown hgrZ hzY (fun k e => (hownY.lt k e).1)
                        have hSZ : Z.cell? ⟨Xb, 0, none⟩ = some uA ∧ Z.cell? ⟨g, p1, none⟩ = some (.int .i64 (o1 : Int)) ∧ Z.cell? ⟨g, p2, none⟩ = some (.int .i64 (o2 : Int)) := (fun h => ⟨hgrZ.cell h.1 (fun e => hugX e.symm), hgrZ.cell h.2.1 (fun e => hug e.symm), hgrZ.cell h.2.2 (fun e => hug e.symm)⟩) hSY
                        refine heldNext 16 (by kernel_rfl) rfl rfl (fun K hK => ?_)
                        try simp only [List.getElem_toArray, List.getElem_cons_succ, List.getElem_cons_zero]
                        refine wpIn_append_run (fun _ => trivial) _ (.tmp 100) (.tmp 114) 43 43 rfl uA (.slice (some ⟨wt.heap.size, 0, none⟩) 1 1) rfl rfl hap ?_
                        refine hK _ _ (fun _ => hSZ) ?_
                        clear hK K
                        try simp only [Act.put, List.setIfInBounds_toArray, List.set_cons_zero, List.set_cons_succ, List.getElem_toArray, List.getElem_cons_succ, List.getElem_cons_zero]
                        have HbwZ := Lib.hid ((Hbt.out.mono (by have := Hwz.out; omega)).trans ((hbY.mono hXt).trans hbZ) : Below Xi.heap.size wb Z)
                        have HownZ := Lib.hid hownZ
                        clear hap hgrZ hownY hOY hXY hbY hSY hbZ hownZ n0 n1 hi hz0 hz1 hz2 hSt hug hugX hzY hXbY
                        refine heldTake 17 (fun _ => trivial) rfl (by kernel_rfl) (by kernel_rfl) (by kernel_rfl) (fun _ _ _ h => h) hSZ rfl (v := .pointer (some ⟨Xb, 0, none⟩)) ?x17 ?_
                        case x17 => rintro w ⟨s0, s1, s2⟩; first | (go_simp; done) | (go_simp; simp [IntKind.wrap_i64, wrap64]; done) | simp [execOp, go_sem, *]
                        try simp only [Act.put, List.setIfInBounds_toArray, List.set_cons_zero, List.set_cons_succ, List.getElem_toArray, List.getElem_cons_succ, List.getElem_cons_zero]
                        obtain ⟨ad, vc, rfl⟩ : ∃ ad vc, v53 = .slice ad (ys.length + 1) vc := by
                          rcases HownZ.out.2 with ⟨_, h⟩ | ⟨g', cap', cur, h, _⟩
                          · omega
                          · exact ⟨_, _, h⟩
                        have cz := HXZ.out.c0
                        have cf := HXZ.out.fz 0
                        refine heldLast 18 (by kernel_rfl) rfl (by kernel_rfl) (by kernel_rfl) rfl (fun K hK => ?_)
                        gi_wp2_with fail
                        obtain ⟨X6, hX6⟩ : ∃ X6, Z.setCell ⟨Xb, 0, none⟩ (.slice ad (ys.length + 1) vc) = X6 := ⟨_, rfl⟩
                        rw [hX6]
                        have hX6b : XB X6 Xb (.slice ad (ys.length + 1) vc) (.slice none 0 0) db := by rw [← hX6]; exact HXZ.out.set0
                        have hO6 : X6.ownsRow Xi.heap.size 3 1 (.slice (some ⟨g, 0, none⟩) m cap) m (ordV o) := by
                          rw [← hX6]
                          exact own_set HOZ.out (HXZ.out.apart HOZ.out (by decide))
                        have hA6 : X6.ownsRow Xi.heap.size 71 2 (.slice ad (ys.length + 1) vc) (ys ++ [((o1 : Int), (o2 : Int))]).length (flatR (ys ++ [((o1 : Int), (o2 : Int))]).length 2 (rowA (ys ++ [((o1 : Int), (o2 : Int))]))) := by
                          have h1 := HownZ.out
                          have e := flatA_snoc ys ((o1 : Int), (o2 : Int))
                          dsimp only at e
                          rw [e] at h1
                          have e : (ys ++ [((o1 : Int), (o2 : Int))]).length = ys.length + 1 := by simp
                          rw [← hX6]
                          exact own_set (by rw [e] at h1 ⊢; exact h1) (by rw [e] at h1; exact HXZ.out.apart h1 (by decide))
                        have hb6 : Below Xi.heap.size wb X6 := by
                          rw [← hX6]
                          exact HbwZ.out.setCell hz8 _
                        have hXz6 : Xb < X6.heap.size := lt_of_cell hX6b.c0
                        have HM6 := Lib.hid (HMb.out.keep (hb6.mono hXs))
                        have Hg6 := Lib.hid (grown_base HgB.out hb6)
                        have HX6 := Lib.hid (And.intro hX6b hXz6)
                        have HO6 := Lib.hid hO6
                        have HA6 := Lib.hid hA6
                        clear hX6 hX6b hO6 hA6 hb6 hXz6 cz cf hSZ
                        go_wp2_with fail
                        go_roundw
                        case rel => exact ⟨y + 1, qy + 1 + 1, ys ++ [((o1 : Int), (o2 : Int))], .slice ad (ys.length + 1) vc, by omega, by go_num, by omega, by simp; omega, Hg6.out, HM6.out, HO6.out, HX6.out.1, HX6.out.2, HA6.out, Hmo.out.1, Hmo.out.2⟩
                        case measure => simp [intOf]; omega
                    · have hyC : y = CA := by omega
                      go_wp2_with fail
                      clear hlt4 hyC
                      refine (HMy.out.call hl Hb.out Hlt.out (by omega) (by omega) (by omega)).mono ?_
                      rintro e wc ⟨CP, nq, rfl, hCP, hw⟩
                      have hR0 : RB w Xi wr (.slice va l.length vc) qy m vP vL g cap o Xb uA (.slice none 0 0) db ys [] := ⟨HMy.out, HgX.out, HOy.out, HXy.out.1, HXy.out.2, HAy.out, by simpa [flatR] using own_nil _ Xi.heap.size 75 3⟩
                      have hR1 := hR0.draw hXs hz8 nq
                      rw [hw] at hR1
                      have HR1 := Lib.hid hR1
                      clear hR0 hR1 hw HMy HgX HOy HXy HAy
                      go_wp2_with fail
                      go_loopw [120] (fun i X => ∃ (z q2 : Nat) (zs : List (Int × Int × Int)) (uP : Value), z ≤ CP ∧ i = .int .i64 z ∧ q2 ≤ qz + 20 + 3 * z ∧ zs.length ≤ z ∧ RB w Xi X (.slice va l.length vc) q2 m vP vL g cap o Xb uA uP db ys zs ∧ goodSpr ⟨m, pts, []⟩ ⟨ys, zs, db⟩ = true ∧ allFit ⟨ys, zs, db⟩ o = true) (fun i _ => CP - (intOf i).toNat)
                      case atStart => exact ⟨0, qy + 1, [], .slice none 0 0, by omega, rfl, by omega, by simp, HR1.out, Hgd.out.1, Hgd.out.2⟩
                      case round =>
                        obtain ⟨z, q2, zs, uP, hz, rfl, hq2, hzl, hR, hgd, hft⟩ := hrel
                        have HR := Lib.hid hR
                        have Hgd2 := Lib.hid (And.intro hgd hft)
                        clear hR hgd hft HR1 Hgd
                        by_cases hlt5 : z < CP
                        · have r0 := HR.out.mw.r0
                          go_wp2_with fail
                          clear r0
                          refine (HR.out.mw.call (m := (m : Int)) hl Hb.out Hlt.out (by omega) (by omega) (by omega)).mono ?_
                          rintro e wd ⟨p, nq, rfl, hp, hw⟩
                          have hR2 := HR.out.draw hXs hz8 nq
                          rw [hw] at hR2
                          have HR2 := Lib.hid hR2
                          clear hR2 hw HR
                          go_wp2_with fail
                          have hpm : p < m := by omega
                          obtain ⟨o1, ho1⟩ : ∃ x1, o.getD p 0 = x1 := ⟨_, rfl⟩
                          have HSof := Lib.hid (show ∀ (X : World) (q' : Nat), RB w Xi X (.slice va l.length vc) q' m vP vL g cap o Xb uA uP db ys zs → X.cell? ⟨Xb, 1, none⟩ = some uP ∧ X.cell? ⟨g, p, none⟩ = some (.int .i64 (o1 : Int)) ∧ X.cell? ⟨w.heap.size + 1, 0, none⟩ = some (.int .i64 (m : Int)) from fun X q' h => ⟨h.xb.c1, by
                            have h1 := (own_at h.ow hpm hol).1
                            rw [ho1] at h1; exact h1, h.mw.r0⟩)
                          obtain ⟨m1, hm1⟩ : ∃ m1 : Nat, m - 1 = m1 := ⟨_, rfl⟩
                          have e13 : IntKind.i64.wrap ((m : Int) - 1) = (m1 : Int) := by rw [IntWalk.i64_in _ (by omega)]; omega
                          obtain ⟨wt, hwt⟩ : ∃ wt, wd.drew = wt := ⟨_, rfl⟩
                          have hRt : RB w Xi wt (.slice va l.length vc) (q2 + 1) m vP vL g cap o Xb uA uP db ys zs := by rw [← hwt]; exact HR2.out.keep (Below.refl _ _).drew
                          have hSt := HSof.out _ _ hRt
                          have HRt := Lib.hid hRt
                          have Ho1 := Lib.hid ho1
                          have i1 : (0 : Int) ≤ (p : Int) := by omega
                          have i2 : (p : Int) < (m : Int) := by omega
                          clear hRt HR2 ho1
                          refine (wpIn_wide (n := 1)).1 ?_
                          refine heldRegion (fun X => X.cell? ⟨Xb, 1, none⟩ = some uP ∧ X.cell? ⟨g, p, none⟩ = some (.int .i64 (o1 : Int)) ∧ X.cell? ⟨w.heap.size + 1, 0, none⟩ = some (.int .i64 (m : Int))) (by kernel_rfl) ?_
                          rw [hwt]
                          clear hwt
                          refine heldTake 0 (fun _ => trivial) rfl (by kernel_rfl) (by kernel_rfl) (by kernel_rfl) (fun _ _ _ h => h) hSt rfl (v := .pointer (some ⟨Xb, 1, none⟩)) ?x0 ?_
                          case x0 => rintro w ⟨s0, s1, s2⟩; first | (go_simp; done) | (go_simp; simp [IntKind.wrap_i64, wrap64]; done) | simp [execOp, go_sem, *]
                          try simp only [Act.put, List.setIfInBounds_toArray, List.set_cons_zero, List.set_cons_succ, List.getElem_toArray, List.getElem_cons_succ, List.getElem_cons_zero]
                          refine heldTake 1 (fun _ => trivial) rfl (by kernel_rfl) (by kernel_rfl) (by kernel_rfl) (fun _ _ _ h => h) hSt rfl (v := uP) ?x1 ?_
                          case x1 => rintro w ⟨s0, s1, s2⟩; first | (go_simp; done) | (go_simp; simp [IntKind.wrap_i64, wrap64]; done) | simp [execOp, go_sem, *]
                          try simp only [Act.put, List.setIfInBounds_toArray, List.set_cons_zero, List.set_cons_succ, List.getElem_toArray, List.getElem_cons_succ, List.getElem_cons_zero]
                          refine heldTake 2 (fun _ => trivial) rfl (by kernel_rfl) (by kernel_rfl) (by kernel_rfl) (fun _ _ _ h => h) hSt rfl (v := .slice (some ⟨g, 0, none⟩) m cap) ?x2 ?_
                          case x2 => rintro w ⟨s0, s1, s2⟩; first | (go_simp; done) | (go_simp; simp [IntKind.wrap_i64, wrap64]; done) | simp [execOp, go_sem, *]
                          try simp only [Act.put, List.setIfInBounds_toArray, List.set_cons_zero, List.set_cons_succ, List.getElem_toArray, List.getElem_cons_succ, List.getElem_cons_zero]
                          refine heldTake 3 (fun _ => trivial) rfl (by kernel_rfl) (by kernel_rfl) (by kernel_rfl) (fun _ _ _ h => h) hSt rfl (v := .int .i64 (p : Int)) ?x3 ?_
                          case x3 => rintro w ⟨s0, s1, s2⟩; first | (go_simp; done) | (go_simp; simp [IntKind.wrap_i64, wrap64]; done) | simp [execOp, go_sem, *]
                          try simp only [Act.put, List.setIfInBounds_toArray, List.set_cons_zero, List.set_cons_succ, List.getElem_toArray, List.getElem_cons_succ, List.getElem_cons_zero]
                          refine heldTake 4 (fun _ => trivial) rfl (by kernel_rfl) (by kernel_rfl) (by kernel_rfl) (fun _ _ _ h => h) hSt rfl (v := .pointer (some ⟨g, p, none⟩)) ?x4 ?_
                          case x4 => rintro w ⟨s0, s1, s2⟩; first | (go_simp; done) | (go_simp; simp [IntKind.wrap_i64, wrap64]; done) | simp [execOp, go_sem, *]
                          try simp only [Act.put, List.setIfInBounds_toArray, List.set_cons_zero, List.set_cons_succ, List.getElem_toArray, List.getElem_cons_succ, List.getElem_cons_zero]
                          refine heldTake 5 (fun _ => trivial) rfl (by kernel_rfl) (by kernel_rfl) (by kernel_rfl) (fun _ _ _ h => h) hSt rfl (v := .int .i64 (o1 : Int)) ?x5 ?_
                          case x5 => rintro w ⟨s0, s1, s2⟩; first | (go_simp; done) | (go_simp; simp [IntKind.wrap_i64, wrap64]; done) | simp [execOp, go_sem, *]
                          try simp only [Act.put, List.setIfInBounds_toArray, List.set_cons_zero, List.set_cons_succ, List.getElem_toArray, List.getElem_cons_succ, List.getElem_cons_zero]
                          refine heldTake 6 (fun _ => trivial) rfl (by kernel_rfl) (by kernel_rfl) (by kernel_rfl) (fun _ _ _ h => h) hSt rfl (v := .int .i64 (p : Int)) ?x6 ?_
                          case x6 => rintro w ⟨s0, s1, s2⟩; first | (go_simp; done) | (go_simp; simp [IntKind.wrap_i64, wrap64]; done) | simp [execOp, go_sem, *]
                          try simp only [Act.put, List.setIfInBounds_toArray, List.set_cons_zero, List.set_cons_succ, List.getElem_toArray, List.getElem_cons_succ, List.getElem_cons_zero]
                          refine heldTake 7 (fun _ => trivial) rfl (by kernel_rfl) (by kernel_rfl) (by kernel_rfl) (fun _ _ _ h => h) hSt rfl (v := .func (.func 83) #[] #[.pointer (some ⟨w.heap.size + 1 + 1, 0, none⟩), .pointer (some ⟨w.heap.size, 0, none⟩)]) ?x7 ?_
                          case x7 => rintro w ⟨s0, s1, s2⟩; first | (go_simp; done) | (go_simp; simp [IntKind.wrap_i64, wrap64]; done) | simp [execOp, go_sem, *]
                          try simp only [Act.put, List.setIfInBounds_toArray, List.set_cons_zero, List.set_cons_succ, List.getElem_toArray, List.getElem_cons_succ, List.getElem_cons_zero]
                          refine heldTake 11 (fun _ => trivial) rfl (by kernel_rfl) (by kernel_rfl) (by kernel_rfl) (fun _ _ _ h => h) hSt rfl (v := .pointer (some ⟨w.heap.size + 1, 0, none⟩)) ?x11 ?_
                          case x11 => rintro w ⟨s0, s1, s2⟩; first | (go_simp; done) | (go_simp; simp [IntKind.wrap_i64, wrap64]; done) | simp [execOp, go_sem, *]
                          try simp only [Act.put, List.setIfInBounds_toArray, List.set_cons_zero, List.set_cons_succ, List.getElem_toArray, List.getElem_cons_succ, List.getElem_cons_zero]
                          refine heldTake 12 (fun _ => trivial) rfl (by kernel_rfl) (by kernel_rfl) (by kernel_rfl) (fun _ _ _ h => h) hSt rfl (v := .int .i64 (m : Int)) ?x12 ?_
                          case x12 => rintro w ⟨s0, s1, s2⟩; first | (go_simp; done) | (go_simp; simp [IntKind.wrap_i64, wrap64]; done) | simp [execOp, go_sem, *]
                          try simp only [Act.put, List.setIfInBounds_toArray, List.set_cons_zero, List.set_cons_succ, List.getElem_toArray, List.getElem_cons_succ, List.getElem_cons_zero]
                          refine heldTake 13 (fun _ => trivial) rfl (by kernel_rfl) (by kernel_rfl) (by kernel_rfl) (fun _ _ _ h => h) hSt rfl (v := .int .i64 (m1 : Int)) ?x13 ?_
                          case x13 => rintro w ⟨s0, s1, s2⟩; first | (go_simp; done) | (go_simp; simp [IntKind.wrap_i64, wrap64]; done) | simp [execOp, go_sem, *]
                          try simp only [Act.put, List.setIfInBounds_toArray, List.set_cons_zero, List.set_cons_succ, List.getElem_toArray, List.getElem_cons_succ, List.getElem_cons_zero]
                          refine heldTake 14 (fun _ => trivial) rfl (by kernel_rfl) (by kernel_rfl) (by kernel_rfl) (fun _ _ _ h => h) hSt rfl (v := .int .i64 (p : Int)) ?x14 ?_
                          case x14 => rintro w ⟨s0, s1, s2⟩; first | (go_simp; done) | (go_simp; simp [IntKind.wrap_i64, wrap64]; done) | simp [execOp, go_sem, *]
                          try simp only [Act.put, List.setIfInBounds_toArray, List.set_cons_zero, List.set_cons_succ, List.getElem_toArray, List.getElem_cons_succ, List.getElem_cons_zero]
                          refine heldTake 15 (fun _ => trivial) rfl (by kernel_rfl) (by kernel_rfl) (by kernel_rfl) (fun _ _ _ h => h) hSt rfl (v := .func (.func 83) #[] #[.pointer (some ⟨w.heap.size + 1 + 1, 0, none⟩), .pointer (some ⟨w.heap.size, 0, none⟩)]) ?x15 ?_
                          case x15 => rintro w ⟨s0, s1, s2⟩; first | (go_simp; done) | (go_simp; simp [IntKind.wrap_i64, wrap64]; done) | simp [execOp, go_sem, *]
                          try simp only [Act.put, List.setIfInBounds_toArray, List.set_cons_zero, List.set_cons_succ, List.getElem_toArray, List.getElem_cons_succ, List.getElem_cons_zero]
                          refine heldNext 8 (by kernel_rfl) rfl rfl (fun K hK => ?_)
                          gi_wp2_with (refine ⟨trivial, ?_⟩; gi_at_call 83; refine (callsIn_wide.2 (HRt.out.mw.call (m := 3) hl Hb.out Hlt.out (by omega) (by omega) (by omega))).mono ?_; rintro e we ⟨r1, n1, rfl, hr1, hw1⟩)
                          have hRe := HRt.out.draw hXs hz8 n1
                          rw [hw1] at hRe
                          have hSe := HSof.out _ _ hRe
                          have HRe := Lib.hid hRe
                          clear hRe hw1 HRt
                          refine hK _ _ (fun _ => hSe) ?_
                          clear hK K
                          try simp only [Act.put, List.setIfInBounds_toArray, List.set_cons_zero, List.set_cons_succ, List.getElem_toArray, List.getElem_cons_succ, List.getElem_cons_zero]
                          clear hSt
                          have e9 : IntKind.i64.wrap ((p : Int) - (r1 : Int)) = (p : Int) - (r1 : Int) := IntWalk.i64_in _ (by omega)
                          obtain ⟨lo, hlo⟩ : ∃ lo : Nat, p - r1 = lo := ⟨_, rfl⟩
                          have e10 : max (0 : Int) ((p : Int) - (r1 : Int)) = (lo : Int) := by omega
                          refine heldTake 9 (fun _ => trivial) rfl (by kernel_rfl) (by kernel_rfl) (by kernel_rfl) (fun _ _ _ h => h) hSe rfl (v := .int .i64 ((p : Int) - (r1 : Int))) ?x9 ?_
                          case x9 => rintro w ⟨s0, s1, s2⟩; first | (go_simp; done) | (go_simp; simp [IntKind.wrap_i64, wrap64]; done) | simp [execOp, go_sem, *]
                          try simp only [Act.put, List.setIfInBounds_toArray, List.set_cons_zero, List.set_cons_succ, List.getElem_toArray, List.getElem_cons_succ, List.getElem_cons_zero]
                          refine heldTake 10 (fun _ => trivial) rfl (by kernel_rfl) (by kernel_rfl) (by kernel_rfl) (fun _ _ _ h => h) hSe rfl (v := .int .i64 (lo : Int)) ?x10 ?_
                          case x10 => rintro w ⟨s0, s1, s2⟩; first | (go_simp; done) | (go_simp; simp [IntKind.wrap_i64, wrap64]; done) | simp [execOp, go_sem, *]
                          try simp only [Act.put, List.setIfInBounds_toArray, List.set_cons_zero, List.set_cons_succ, List.getElem_toArray, List.getElem_cons_succ, List.getElem_cons_zero]
                          refine heldNext 16 (by kernel_rfl) rfl rfl (fun K hK => ?_)
                          gi_wp2_with (refine ⟨trivial, ?_⟩; gi_at_call 83; refine (callsIn_wide.2 (HRe.out.mw.call (m := 3) hl Hb.out Hlt.out (by omega) (by omega) (by omega))).mono ?_; rintro e wf ⟨r2, n2, rfl, hr2, hw2⟩)
                          have hRf := HRe.out.draw hXs hz8 n2
                          rw [hw2] at hRf
                          have hSf := HSof.out _ _ hRf
                          have HRf := Lib.hid hRf
                          clear hRf hw2 HRe
                          refine hK _ _ (fun _ => hSf) ?_
                          clear hK K
                          try simp only [Act.put, List.setIfInBounds_toArray, List.set_cons_zero, List.set_cons_succ, List.getElem_toArray, List.getElem_cons_succ, List.getElem_cons_zero]
                          clear hSe e9 e10 e13
                          obtain ⟨k2, hk2⟩ : ∃ k2 : Nat, p + r2 = k2 := ⟨_, rfl⟩
                          have e17 : IntKind.i64.wrap ((p : Int) + (r2 : Int)) = (k2 : Int) := by rw [IntWalk.i64_in _ (by omega)]; omega
                          obtain ⟨hi, hhi⟩ : ∃ hi : Nat, min m1 k2 = hi := ⟨_, rfl⟩
                          have e18 : min (m1 : Int) (k2 : Int) = (hi : Int) := by omega
                          refine heldTake 17 (fun _ => trivial) rfl (by kernel_rfl) (by kernel_rfl) (by kernel_rfl) (fun _ _ _ h => h) hSf rfl (v := .int .i64 (k2 : Int)) ?x17 ?_
                          case x17 => rintro w ⟨s0, s1, s2⟩; first | (go_simp; done) | (go_simp; simp [IntKind.wrap_i64, wrap64]; done) | simp [execOp, go_sem, *]
                          try simp only [Act.put, List.setIfInBounds_toArray, List.set_cons_zero, List.set_cons_succ, List.getElem_toArray, List.getElem_cons_succ, List.getElem_cons_zero]
                          refine heldTake 18 (fun _ => trivial) rfl (by kernel_rfl) (by kernel_rfl) (by kernel_rfl) (fun _ _ _ h => h) hSf rfl (v := .int .i64 (hi : Int)) ?x18 ?_
                          case x18 => rintro w ⟨s0, s1, s2⟩; first | (go_simp; done) | (go_simp; simp [IntKind.wrap_i64, wrap64]; done) | simp [execOp, go_sem, *]
                          try simp only [Act.put, List.setIfInBounds_toArray, List.set_cons_zero, List.set_cons_succ, List.getElem_toArray, List.getElem_cons_succ, List.getElem_cons_zero]
                          have Hhi := Lib.hid (show lo ≤ p ∧ p ≤ hi ∧ hi < m from ⟨by omega, by omega, by omega⟩)
                          clear e17 e18 hhi hk2 hlo hm1
                          refine heldNext 19 (by kernel_rfl) rfl rfl (fun K hK => ?_)
                          gi_wp2_with (refine ⟨trivial, ?_⟩; gi_at_call 41; refine (callsIn_wide.2 (lawspan_any _ _ _)).mono ?_; rintro e wg ⟨rfl, hwg⟩)
                          have hRg := HRf.out.keep ((Below.refl _ _).alloc (Nat.le_refl _) (.cells #[.int .i64 (lo : Int), .int .i64 (hi : Int)] 37))
                          rw [hwg] at hRg
                          have hSg := HSof.out _ _ hRg
                          have HRg := Lib.hid hRg
                          clear hRg hwg HRf
                          refine hK _ _ (fun _ => hSg) ?_
                          clear hK K
                          try simp only [Act.put, List.setIfInBounds_toArray, List.set_cons_zero, List.set_cons_succ, List.getElem_toArray, List.getElem_cons_succ, List.getElem_cons_zero]
                          clear hSf
                          refine heldTake 20 (fun _ => trivial) rfl (by kernel_rfl) (by kernel_rfl) (by kernel_rfl) (fun _ _ _ h => h) hSg rfl (v := .agg #[.int .i64 (o1 : Int), .int .i64 (lo : Int), .int .i64 (hi : Int)]) ?x20 ?_
                          case x20 => rintro w ⟨s0, s1, s2⟩; first | (go_simp; done) | (go_simp; simp [IntKind.wrap_i64, wrap64]; done) | simp [execOp, go_sem, *]
                          try simp only [Act.put, List.setIfInBounds_toArray, List.set_cons_zero, List.set_cons_succ, List.getElem_toArray, List.getElem_cons_succ, List.getElem_cons_zero]
                          refine heldNext 21 (by kernel_rfl) rfl rfl (fun K hK => ?_)
                          gi_wp2
                          have hRY := HRg.out.keep ((Below.refl _ _).alloc (Nat.le_refl _) (.cells #[.int .i64 (o1 : Int), .int .i64 (lo : Int), .int .i64 (hi : Int)] 75))
                          have hSY := HSof.out _ _ hRY
                          have n0 : (wg.alloc (.cells #[.int .i64 (o1 : Int), .int .i64 (lo : Int), .int .i64 (hi : Int)] 75)).cell? ⟨wg.heap.size, 0, none⟩ = some (.int .i64 (o1 : Int)) := cellN rfl rfl
                          have n1 : (wg.alloc (.cells #[.int .i64 (o1 : Int), .int .i64 (lo : Int), .int .i64 (hi : Int)] 75)).cell? ⟨wg.heap.size, 1, none⟩ = some (.int .i64 (lo : Int)) := cellN rfl rfl
                          have n2 : (wg.alloc (.cells #[.int .i64 (o1 : Int), .int .i64 (lo : Int), .int .i64 (hi : Int)] 75)).cell? ⟨wg.heap.size, 2, none⟩ = some (.int .i64 (hi : Int)) := cellN rfl rfl
                          refine hK _ _ (fun _ => hSY) ?_
                          clear hK K
                          try simp only [Act.put, List.setIfInBounds_toArray, List.set_cons_zero, List.set_cons_succ, List.getElem_toArray, List.getElem_cons_succ, List.getElem_cons_zero]
                          obtain ⟨hi', hz0, hz1, hz2⟩ := Hi2.out
                          obtain ⟨v53, Z, hap, hownZ, hgrZ, _⟩ := run_append_own (P := Try.prog) (w := (wg.alloc (.cells #[.int .i64 (o1 : Int), .int .i64 (lo : Int), .int .i64 (hi : Int)] 75))) Xi.heap.size 44 44 75 _ (.agg #[.int .i64 0, .int .i64 0, .int .i64 0]) 3 24 und44 hi' hz0 hz1 hz2 rfl (by decide) uP _ _ hRY.op ⟨wg.heap.size, 0, none⟩ 1 1 [.int .i64 (o1 : Int), .int .i64 (lo : Int), .int .i64 (hi : Int)] rfl (fun q z hz => by
                            rw [addN]
                            match q, hz with
                            | 0, hz => cases hz; exact n0
                            | 1, hz => cases hz; exact n1
                            | 2, hz => cases hz; exact n2
                            | q + 3, hz => simp at hz) (fun z hz => by simp at hz; rcases hz with rfl | rfl | rfl <;> rfl) (by unfold maxLen; omega) (by omega) hRY.gr.size
                          have hxZ := hRY.xb.grown hgrZ (hRY.xb.apart hRY.op (by decide)) hRY.xz
                          have howZ := own_grown hRY.ow hRY.op (by decide) hgrZ
                          have huR : uP.ownBlock ≠ some (w.heap.size + 1) := fun e => by have := (hRY.op.lt _ e).1; omega
                          have hSZ : Z.cell? ⟨Xb, 1, none⟩ = some uP ∧ Z.cell? ⟨g, p, none⟩ = some (.int .i64 (o1 : Int)) ∧ Z.cell? ⟨w.heap.size + 1, 0, none⟩ = some (.int .i64 (m : Int)) := ⟨hxZ.c1, by
                            have h1 := (own_at howZ hpm hol).1
                            rw [Ho1.out] at h1; exact h1, hgrZ.cell hRY.mw.r0 (fun e => huR e.symm)⟩
                          refine heldNext 22 (by kernel_rfl) rfl rfl (fun K hK => ?_)
                          try simp only [List.getElem_toArray, List.getElem_cons_succ, List.getElem_cons_zero]
                          refine wpIn_append_run (fun _ => trivial) _ (.tmp 127) (.tmp 147) 44 44 rfl uP (.slice (some ⟨wg.heap.size, 0, none⟩) 1 1) rfl rfl hap ?_
                          refine hK _ _ (fun _ => hSZ) ?_
                          clear hK K
                          try simp only [Act.put, List.setIfInBounds_toArray, List.set_cons_zero, List.set_cons_succ, List.getElem_toArray, List.getElem_cons_succ, List.getElem_cons_zero]
                          obtain ⟨ad, vcc, rfl⟩ : ∃ ad vcc, v53 = .slice ad (zs.length + 1) vcc := by
                            rcases hownZ.2 with ⟨_, h⟩ | ⟨g', cap', cur, h, _⟩
                            · omega
                            · exact ⟨_, _, h⟩
                          have HRY := Lib.hid hRY
                          have HownZ := Lib.hid hownZ
                          have HgrZ := Lib.hid hgrZ
                          have cz := hxZ.c1
                          have cf := hxZ.fz 1
                          clear hap hgrZ hRY hSY hownZ n0 n1 n2 hi' hz0 hz1 hz2 hSg huR howZ hxZ HSof
                          refine heldTake 23 (fun _ => trivial) rfl (by kernel_rfl) (by kernel_rfl) (by kernel_rfl) (fun _ _ _ h => h) hSZ rfl (v := .pointer (some ⟨Xb, 1, none⟩)) ?x23 ?_
                          case x23 => rintro w ⟨s0, s1, s2⟩; first | (go_simp; done) | (go_simp; simp [IntKind.wrap_i64, wrap64]; done) | simp [execOp, go_sem, *]
                          try simp only [Act.put, List.setIfInBounds_toArray, List.set_cons_zero, List.set_cons_succ, List.getElem_toArray, List.getElem_cons_succ, List.getElem_cons_zero]
                          refine heldLast 24 (by kernel_rfl) rfl (by kernel_rfl) (by kernel_rfl) rfl (fun K hK => ?_)
                          gi_wp2_with fail
                          obtain ⟨X6, hX6⟩ : ∃ X6, Z.setCell ⟨Xb, 1, none⟩ (.slice ad (zs.length + 1) vcc) = X6 := ⟨_, rfl⟩
                          rw [hX6]
                          have hA6 : Z.ownsRow Xi.heap.size 75 3 (.slice ad (zs.length + 1) vcc) (zs ++ [((o1 : Int), (lo : Int), (hi : Int))]).length (flatR (zs ++ [((o1 : Int), (lo : Int), (hi : Int))]).length 3 (rowP (zs ++ [((o1 : Int), (lo : Int), (hi : Int))]))) := by
                            have h1 := HownZ.out
                            have e := flatP_snoc zs ((o1 : Int), (lo : Int), (hi : Int))
                            dsimp only at e
                            rw [e] at h1
                            have e : (zs ++ [((o1 : Int), (lo : Int), (hi : Int))]).length = zs.length + 1 := by simp
                            rw [e] at h1 ⊢; exact h1
                          have HR6 := Lib.hid (HRY.out.app hXs hz8 HgrZ.out hA6 hX6)
                          obtain ⟨hh1, hh2, hh3⟩ := Hhi.out
                          have hmo := more_place (p := p) (lo := (lo : Int)) (hi := (hi : Int)) Hop.out (by omega) (by omega) (by omega) (by omega) (by omega) Hgd2.out.1 Hgd2.out.2 (by omega)
                          rw [Ho1.out] at hmo
                          have Hmo := Lib.hid hmo
                          clear hmo hA6 hX6 cz cf hSZ hh1 hh2 hh3
                          go_wp2_with fail
                          go_roundw
                          case rel => exact ⟨z + 1, _, zs ++ [((o1 : Int), (lo : Int), (hi : Int))], .slice ad (zs.length + 1) vcc, by omega, by go_num, by omega, by simp; omega, HR6.out, Hmo.out.1, Hmo.out.2⟩
                          case measure => simp [intOf]; omega
                        · have hzC : z = CP := by omega
                          have hB : w.heap.size + 1 + 1 < w.heap.size + 3 := by omega
                          have hXb0 := HR.out.xb.c0
                          have hXb1 := HR.out.xb.c1
                          have hXb2 := HR.out.xb.c2
                          have r2 := HR.out.mw.r2
                          have hba := (Below.refl wr.heap.size wr).alloc (Nat.le_refl _) (.cells #[uA, uP, .bool db] 46)
                          have hRY := HR.out.keep hba
                          have hP0 := HPo.out.kept HR.out.gr (by
                            by_cases hn : vP.ownBlock = none
                            · exact .inl hn
                            · exact .inr fun e2 => by have := (HPo.out.lt _ e2).1; omega)
                          have hP1 := own_kept2 hP0 hba
                          have hO1 := (HOs.out.kept HR.out.gr hB).keep hba
                          obtain ⟨cL, hLr, hLmore⟩ := ((HL.out.kept HR.out.gr hB).keep hba).more (own_base hRY.oa hXs) (own_base hRY.op hXs)
                          have a1 := own_one HR.out.oa
                          have a2 := own_one HR.out.op
                          have n0 : (wr.alloc (.cells #[uA, uP, .bool db] 46)).cell? ⟨wr.heap.size, 0, none⟩ = some uA := cellN rfl rfl
                          have n1 : (wr.alloc (.cells #[uA, uP, .bool db] 46)).cell? ⟨wr.heap.size, 1, none⟩ = some uP := cellN rfl rfl
                          have n2 : (wr.alloc (.cells #[uA, uP, .bool db] 46)).cell? ⟨wr.heap.size, 2, none⟩ = some (.bool db) := cellN rfl rfl
                          have hosl : os.length = xs.length := HT.out.2.1
                          have hb46 : w.heap.size + 3 ≤ (wr.alloc (.cells #[uA, uP, .bool db] 46)).heap.size := by have := HR.out.mw.sz; simp; omega
                          obtain ⟨hi, hz0, hz1, hz2⟩ := Hi4.out
                          obtain ⟨v1, Z1, hap1, hown1, hgr1, _⟩ := run_append_own (P := Try.prog) (w := (wr.alloc (.cells #[uA, uP, .bool db] 46))) (w.heap.size + 3) 23 23 46 _ (.agg #[.slice none 0 0, .slice none 0 0, .bool false]) 3 56 und23 hi hz0 hz1 hz2 rfl (by decide) vL _ _ hLr ⟨wr.heap.size, 0, none⟩ 1 1 [uA, uP, .bool db] rfl (fun q z hz => by
                            rw [addN]
                            match q, hz with
                            | 0, hz => cases hz; exact n0
                            | 1, hz => cases hz; exact n1
                            | 2, hz => cases hz; exact n2
                            | q + 3, hz => simp at hz) (fun z hz => by
                              simp at hz
                              rcases hz with rfl | rfl | rfl
                              · exact a1
                              · exact a2
                              · rfl) (by unfold maxLen; omega) (by omega) hb46
                          clear hi hz0 hz1 hz2 n0 n1 n2 a1 a2
                          obtain ⟨ad1, c1, rfl⟩ : ∃ ad1 c1, v1 = .slice ad1 (xs.length + 1) c1 := by
                            rcases hown1.2 with ⟨_, h⟩ | ⟨g', cap', cur, h, _⟩
                            · omega
                            · exact ⟨_, _, h⟩
                          have hLz := hLmore hgr1 hown1
                          have hOz := hO1.apart hLr (by decide) (by decide) hgr1
                          have hwz := own_grown hRY.ow hLr (by decide) hgr1
                          have hPz := own_grown hP1 hLr (by decide) hgr1
                          have hMz := hRY.mw.keep ((Below.refl _ _).grown hgr1 hb46 (fun k e => (hLr.lt k e).1))
                          clear hLmore hown1 hgr1 hLr hO1 hP1 hP0 hRY hba hb46
                          have hbb := (Below.refl Z1.heap.size Z1).alloc (Nat.le_refl _) (.cells #[.slice (some ⟨g, 0, none⟩) m cap] 22)
                          have hMy := hMz.keep (hbb.mono hMz.sz)
                          have hPy := own_kept2 hPz hbb
                          have hLy := hLz.keep hbb
                          have hwy := own_kept2 hwz hbb
                          obtain ⟨cO, hOr, hOmore⟩ := (hOz.keep hbb).more (o := o) (by rw [hol]; exact own_base hwy hXs)
                          have n0 : (Z1.alloc (.cells #[.slice (some ⟨g, 0, none⟩) m cap] 22)).cell? ⟨Z1.heap.size, 0, none⟩ = some (.slice (some ⟨g, 0, none⟩) m cap) := cellN rfl rfl
                          obtain ⟨hi, hz0, hz1, hz2⟩ := Hi5.out
                          obtain ⟨v2, Z2, hap2, hown2, hgr2, _⟩ := run_append_own (P := Try.prog) (w := (Z1.alloc (.cells #[.slice (some ⟨g, 0, none⟩) m cap] 22))) (w.heap.size + 3) 51 51 22 _ (.slice none 0 0) 1 24 und51 hi hz0 hz1 hz2 rfl (by decide) u3 _ _ hOr ⟨Z1.heap.size, 0, none⟩ 1 1 [.slice (some ⟨g, 0, none⟩) m cap] rfl (fun q z hz => by
                            rw [addN]
                            match q, hz with
                            | 0, hz => cases hz; exact n0
                            | q + 1, hz => simp at hz) (fun z hz => by simp at hz; subst hz; rfl) (by unfold maxLen; omega) (by omega) hMy.sz
                          clear hi hz0 hz1 hz2 n0
                          have hO2 := hOmore hgr2 hown2
                          have hL2 := hLy.apart hOr (by decide) (by decide) (by decide) hgr2
                          have hP2 := own_grown hPy hOr (by decide) hgr2
                          have hM2 := hMy.keep ((Below.refl _ _).grown hgr2 hMy.sz (fun k e => (hOr.lt k e).1))
                          have s2 := hM2.r2
                          have sf := hM2.fr 2
                          have HO3 := Lib.hid (hO2.set (o := 2) (u := .slice ad1 (xs.length + 1) c1) (g := w.heap.size + 1) (by omega))
                          have HL3 := Lib.hid (hL2.set (o := 2) (u := .slice ad1 (xs.length + 1) c1) (g := w.heap.size + 1) (by omega))
                          have HP3 := Lib.hid (own_set (o := 2) (u := .slice ad1 (xs.length + 1) c1) (g := w.heap.size + 1) hP2 (fun e => by have := (hP2.lt _ e).1; omega))
                          have HM3 := Lib.hid (hM2.setR (k := 2) (u := .slice ad1 (xs.length + 1) c1) (.inr rfl) rfl rfl)
                          have Hap1 := Lib.hid hap1
                          have Hap2 := Lib.hid hap2
                          clear hMz hMy hPz hPy hLz hLy hwz hwy hOz hOmore hOr hown2 hgr2 hO2 hL2 hP2 hM2 hap1 hap2 hbb
                          have Hxl := Lib.hid hxl
                          clear hxl hosl
                          go_wp2_with (first | (at_builtin; refine wpList_append_run rfl (.tmp 152) (.tmp 154) 23 rfl _ _ rfl rfl Hap1.out ?_) | (at_builtin; refine wpList_append_run rfl (.tmp 156) (.tmp 158) 51 rfl _ _ rfl rfl Hap2.out ?_))
                          clear hXb0 hXb1 hXb2 r2 s2 sf
                          go_roundw
                          case rel =>
                            have hxl := Hxl.out
                            refine ⟨j + 1, q2, xs ++ [⟨ys, zs, db⟩], os ++ [o], .slice ad1 (xs.length + 1) c1, by omega, by go_num, by omega, by simp; omega, HM3.out, HP3.out, HL3.out, HO3.out, fun x hx => ?_, true_more HT.out.2 (by simpa using Hop.out) Hgd2.out.2⟩
                            rcases List.mem_append.1 hx with h | h
                            · exact HT.out.1 x h
                            · rw [List.mem_singleton.1 h]; exact Hgd2.out.1
                          case measure => simp [intOf]; omega
        · have hjC : j = CL := by omega
          obtain ⟨pa, pc, rfl⟩ : ∃ pa pc, vP = .slice pa pts.length pc := own_slice HPo.out
          obtain ⟨la, lc, rfl⟩ : ∃ la lc, vL = .slice la xs.length lc := HL.out.slice
          have r0 := HM.out.r0
          have r1 := HM.out.r1
          have r2 := HM.out.r2
          have f0 := HM.out.fr 0
          have f1 := HM.out.fr 1
          have f2 := HM.out.fr 2
          have Hxl := Lib.hid hxl
          clear hxl
          go_wp2
          obtain ⟨X6, hX6⟩ : ∃ X6, (((wr.setCell ⟨w.heap.size + 1, 0, none⟩ (.int .i64 (P : Int))).setCell ⟨w.heap.size + 1, 1, none⟩ (.slice pa pts.length pc)).setCell ⟨w.heap.size + 1, 2, none⟩ (.slice la xs.length lc)) = X6 := ⟨_, rfl⟩
          rw [hX6]
          have q0 : X6.cell? ⟨w.heap.size + 1, 0, none⟩ = some (.int .i64 (P : Int)) := by rw [← hX6]; exact cellOther (cellOther (cellSame r0) (by omega)) (by omega)
          have q1 : X6.cell? ⟨w.heap.size + 1, 1, none⟩ = some (.slice pa pts.length pc) := by rw [← hX6]; exact cellOther (cellSame (cellOther r1 (by omega))) (by omega)
          have q2 : X6.cell? ⟨w.heap.size + 1, 2, none⟩ = some (.slice la xs.length lc) := by rw [← hX6]; exact cellSame (cellOther (cellOther r2 (by omega)) (by omega))
          have hb6 : Below w.heap.size w X6 := by rw [← hX6]; exact ((HM.out.b.setCell (by show w.heap.size ≤ w.heap.size + 1; omega) _).setCell (by show w.heap.size ≤ w.heap.size + 1; omega) _).setCell (by show w.heap.size ≤ w.heap.size + 1; omega) _
          have hL6 : SprsB X6 (w.heap.size + 3) (.slice la xs.length lc) xs := by rw [← hX6]; exact ((HL.out.set (by omega)).set (by omega)).set (by omega)
          have hO6 : OrdsB X6 (w.heap.size + 3) u3 os := by rw [← hX6]; exact ((HOs.out.set (by omega)).set (by omega)).set (by omega)
          have hP6 : X6.ownsRow (w.heap.size + 3) 3 1 (.slice pa pts.length pc) pts.length (intV pts) := by
            have hs : ∀ {Z : World} {k : Nat} {u : Value}, Z.ownsRow (w.heap.size + 3) 3 1 (.slice pa pts.length pc) pts.length (intV pts) → (Z.setCell ⟨w.heap.size + 1, k, none⟩ u).ownsRow (w.heap.size + 3) 3 1 (.slice pa pts.length pc) pts.length (intV pts) := fun {Z k u} h => own_set h (fun e => by have := (h.lt _ e).1; omega)
            rw [← hX6]; exact hs (hs (hs HPo.out))
          have hxl := Hxl.out
          have hgood : goodSps ⟨P, pts, xs⟩ = true := by
            unfold goodSps
            simp only [Bool.and_eq_true, decide_eq_true_eq]
            refine ⟨⟨⟨⟨⟨by omega, by omega⟩, by omega⟩, by omega⟩, Hgp.out⟩, List.all_eq_true.2 fun x hx => HT.out.1 x hx⟩
          exact bodyPost_ret (v := .tuple #[.agg #[.int .i64 (P : Int), .slice pa pts.length pc, .slice la xs.length lc], u3]) (by simp [results, Try.results33, go_sem, q0, q1, q2]) rfl ⟨⟨P, pts, xs⟩, os, _, _, _, rfl, hL6.sps hP6, hO6.at, hgood, HT.out.2, hb6⟩
end Go.Proofs.Ytoabfffmjhdijaa
