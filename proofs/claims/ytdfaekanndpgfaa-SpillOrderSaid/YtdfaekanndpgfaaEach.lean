import Derived.Test.YtdfaekanndpgfaaVoids
/- each: the recursion over falls. -/
set_option linter.unusedSimpArgs false
set_option linter.unusedVariables false
namespace Go.Proofs.Ytdfaekanndpgfaa
open Go.RowKit Go.Shelf
attribute [local go_sem] Oper.semAt_some
/-- All is kept but the cells of some blocks. -/
def KpA (lo hi : Nat) (W W' : World) : Prop := W.heap.size ≤ W'.heap.size ∧ ∀ (k : Nat) (o : Obj), W.heap[k]? = some o → (k < lo ∨ hi ≤ k ∨ o.isCells = false) → W'.heap[k]? = some o
theorem KpA.refl (lo hi : Nat) (W : World) : KpA lo hi W W := ⟨Nat.le_refl _, fun _ _ h _ => h⟩
theorem KpA.trans {lo hi : Nat} {A B C : World} (h : KpA lo hi A B) (k : KpA lo hi B C) : KpA lo hi A C := ⟨Nat.le_trans h.1 k.1, fun i o hi hc => k.2 i o (h.2 i o hi hc) hc⟩
theorem KpA.below {lo hi : Nat} {W W' : World} (h : Below W.heap.size W W') : KpA lo hi W W' := ⟨h.size, fun k o hk _ => (h.block k (Array.getElem?_eq_some_iff.1 hk).1).trans hk⟩
theorem KpA.toW {lo hi : Nat} {W W' : World} (h : KpA lo hi W W') : KpW lo hi W W' := ⟨h.1, fun k o hk _ hb => h.2 k o hk (by omega)⟩
theorem KpA.keeps {lo hi : Nat} {W W' : World} (h : KpA lo hi W W') (B : Nat) : KeepsFrom B W W' := ⟨h.1, fun k o _ hk hc => h.2 k o hk (.inr (.inr hc))⟩
theorem KpA.put {lo hi : Nat} {W W' : World} (h : KpA lo hi W W') {l : Nat} (hl : W.heap.size ≤ l) (o : Obj) : KpA lo hi W (W'.putObj l o) :=
  ⟨by simpa [World.putObj] using h.1, fun k p hk hb => (World.putObj_heap_other (by have := (Array.getElem?_eq_some_iff.1 hk).1; omega)).trans (h.2 k p hk hb)⟩
theorem KpA.set {lo hi : Nat} (W : World) {b o : Nat} (v : Value) (h : lo ≤ b ∧ b < hi) (hc : ∃ p, W.heap[b]? = some p ∧ p.isCells = true) : KpA lo hi W (W.setCell ⟨b, o, none⟩ v) :=
  ⟨by simp, fun k p hk hb => (Below.heap_setCell _ _ _ _ (by
    show k ≠ b
    intro e; subst e
    obtain ⟨p', hp', hcp⟩ := hc
    rw [hk] at hp'; cases hp'
    rcases hb with h' | h' | h'
    · omega
    · omega
    · rw [hcp] at h'; cases h')).trans hk⟩
theorem KpA.cell {lo hi : Nat} {W W' : World} (h : KpA lo hi W W') {b o : Nat} {v : Value} (hv : W.cell? ⟨b, o, none⟩ = some v) (hb : b < lo ∨ hi ≤ b) : W'.cell? ⟨b, o, none⟩ = some v := h.toW.cell hv hb
theorem KpA.grown {lo hi : Nat} {W W' : World} {row : Option Nat} (h : KpA lo hi W W') {W2 : World} (hg : W'.grownBy W2 row) (hr : ∀ r, row = some r → W.heap.size ≤ r) : KpA lo hi W W2 :=
  ⟨Nat.le_trans h.1 hg.size, fun k o hk hb => by
    have hk' := (Array.getElem?_eq_some_iff.1 hk).1
    have := h.1
    exact (hg.block k (by omega) (fun e => by have := hr k e.symm; omega)).trans (h.2 k o hk hb)⟩
theorem KpA.rows {lo hi : Nat} {W W' : World} (h : KpA lo hi W W') {v : Value} {n sz : Nat} {row : Nat → Nat → Value} (hr : IsRows W v n sz row) (hb : 0 < n → ∀ a m c, v = .slice (some a) m c → a.block < lo ∨ hi ≤ a.block) : IsRows W' v n sz row := by
  obtain ⟨a, c, e1, e2, e3, e4⟩ := hr
  refine ⟨a, c, e1, e2, e3, fun hp => ?_⟩
  obtain ⟨b, off, e5, e6⟩ := e4 hp
  exact ⟨b, off, e5, fun k j hk hj => h.cell (e6 k j hk hj) (hb hp _ _ _ (by rw [e1, e5]))⟩
/-- What the recursion reads. -/
structure EnvE (W : World) (lo hi Fb Db Ob Ab dn : Nat) (dcap : Array Value) (fa : Option Addr) (fc : Nat) (fs : List Rep) : Prop where
  cf : W.cell? ⟨Fb, 0, none⟩ = some (.slice fa fs.length fc)
  cd : W.cell? ⟨Db, 0, none⟩ = some (.func (.func dn) #[] dcap)
  co : W.cell? ⟨Ob, 0, none⟩ = some (.func (.func 111) #[] #[.pointer (some ⟨Fb, 0, none⟩), .pointer (some ⟨Db, 0, none⟩), .pointer (some ⟨Ob, 0, none⟩), .pointer (some ⟨Ab, 0, none⟩)])
  ca : W.cell? ⟨Ab, 0, none⟩ = some (.func (.func 94) #[] #[])
  rf : IsReps W (.slice fa fs.length fc) fs
  o1 : hi ≤ Fb ∧ hi ≤ Db ∧ hi ≤ Ob ∧ hi ≤ Ab
  o2 : 0 < fs.length → ∀ a, fa = some a → a.block < lo ∨ hi ≤ a.block
  hs : hi ≤ W.heap.size
theorem EnvE.kept {W W' : World} {lo hi Fb Db Ob Ab dn : Nat} {dcap : Array Value} {fa : Option Addr} {fc : Nat} {fs : List Rep} (h : EnvE W lo hi Fb Db Ob Ab dn dcap fa fc fs) (hk : KpA lo hi W W') : EnvE W' lo hi Fb Db Ob Ab dn dcap fa fc fs :=
  ⟨hk.cell h.cf (.inr h.o1.1), hk.cell h.cd (.inr h.o1.2.1), hk.cell h.co (.inr h.o1.2.2.1), hk.cell h.ca (.inr h.o1.2.2.2), hk.rows h.rf (fun hp a m c e => by cases e; exact h.o2 hp _ rfl), h.o1, h.o2, Nat.le_trans h.hs hk.1⟩
/-- What is done with laps that can be void together. -/
structure Leaf (lo hi dn : Nat) (dcap : Array Value) (B0 : Nat) (Iv : List Nat → World → Prop) : Prop where
  enter : ∀ args w, (callFunc dn args).run Try.prog w = .ok (.enter dn args) w
  own : OwnFrom B0 Iv
  call : ∀ pre x W, Iv pre W → U64 x → Calls Try.prog dn (#[.int .u64 (x : Int)] ++ dcap) W fun e W' => e = .returned (.tuple #[]) ∧ Iv (pre ++ [x]) W' ∧ KpA lo hi W W'
theorem Leaf.below {lo hi dn : Nat} {dcap : Array Value} {B0 : Nat} {Iv : List Nat → World → Prop} (h : Leaf lo hi dn dcap B0 Iv) {pre : List Nat} {W W' : World} (hj : Iv pre W) (hb : Below W.heap.size W W') : Iv pre W' :=
  h.own _ _ _ none hj (grown_of_below hb none) (fun r e => by cases e)
theorem plus_b (a b : Nat) (ha : U64 a) (hb : U64 b) (w : World) : Calls Try.prog 94 #[.int .u64 (a : Int), .int .u64 (b : Int)] w fun e w' => e = .returned (.int .u64 ((a ||| b : Nat) : Int)) ∧ Below w.heap.size w w' :=
  (plus_any a b ha hb w).mono fun _ _ h => ⟨h.1, by rw [← h.2]; exact Below.refl _ _⟩
theorem voids_fn (r : Rep) (w : World) : Calls Try.prog 112 #[repV r] w fun e w' => e = .returned (.func (.func 114) #[] #[.pointer (some ⟨w.heap.size, 0, none⟩)]) ∧ w.alloc (.cells (repC r) 44) = w' := by
  go_enter Try.func112, Try.ntmps112
  go_wp2
  go_ret
  exact ⟨rfl, rfl⟩
theorem seqvoids (r : Rep) (hr : FallOk r) (lo hi Rb n : Nat) (w : World) (hR : RepAt w Rb 0 r) (hRb : Rb < lo ∨ hi ≤ Rb) (hs : hi ≤ w.heap.size) :
    SeqV Fence.wide n Try.prog 114 #[.pointer (some ⟨Rb, 0, none⟩)] (fun x : Nat => .int .u64 (x : Int)) (fun x _ => x < 2 ^ 60) (KpW lo hi) (fun xs => xs = voidsR r) w := by
  intro l J W hb hA hy hj
  refine (callsIn_wide (n := n)).2 ((voids_walk r hr lo hi Rb l J W ⟨hA, fun pre x W1 h1 h2 m => yield_wide (hy pre x W1 h1 h2)⟩
    ⟨Below.cellSome hb hR.c0, Below.cellSome hb hR.c1, Below.cellSome hb hR.c2, Below.cellSome hb hR.c3, Below.cellSome hb hR.c4, Below.cellSome hb hR.c5, Below.cellSome hb hR.c6, Below.cellSome hb hR.c7⟩ hRb (Nat.le_trans hs hb.size) hj).mono ?_)
  rintro e W' ⟨h1, h2⟩
  exact ⟨h1, _, rfl, h2⟩
/-- What holds between two rounds. -/
def eachI (lo hi : Nat) (Iv : List Nat → World → Prop) (W0 : World) (t : List Rep) (b : Nat) (pre xs : List Nat) (W : World) : Prop := Iv (pre ++ xs.flatMap fun v => eachR t (b ||| v)) W ∧ KpA lo hi W0 W
theorem eachI_own {lo hi dn : Nat} {dcap : Array Value} {B0 : Nat} {Iv : List Nat → World → Prop} (h : Leaf lo hi dn dcap B0 Iv) (W0 : World) (t : List Rep) (b : Nat) (pre : List Nat) {X : Nat} (hX : B0 ≤ X) (hX2 : W0.heap.size ≤ X) : OwnFrom X (eachI lo hi Iv W0 t b pre) := by
  rintro xs A C row ⟨h1, h2⟩ hgr hr
  exact ⟨h.own _ _ _ row h1 hgr (fun r e => ⟨by have := (hr r e).1; omega, (hr r e).2⟩), h2.grown hgr (fun r e => by have := (hr r e).1; omega)⟩
theorem own_lt60 (X : Nat) : OwnFrom X (fun (x : Nat) (_ : World) => x < 2 ^ 60) := fun _ _ _ _ h _ _ => h
set_option maxRecDepth 100000 in
set_option maxHeartbeats 4000000 in
theorem on_any (lo hi Fb Db Ob Ab dn B0 : Nat) (dcap : Array Value) (Iv : List Nat → World → Prop) (hL : Leaf lo hi dn dcap B0 Iv) (fa : Option Addr) (fc : Nat) (fs : List Rep) (hfs : ∀ r, r ∈ fs → FallOk r) (h100 : fs.length ≤ 100) :
    ∀ (d i b : Nat) (pre : List Nat) (W : World), i + d = fs.length → B0 ≤ W.heap.size → Iv pre W → EnvE W lo hi Fb Db Ob Ab dn dcap fa fc fs → U64 b →
    Calls Try.prog 111 #[.int .i64 (i : Int), .int .u64 (b : Int), .pointer (some ⟨Fb, 0, none⟩), .pointer (some ⟨Db, 0, none⟩), .pointer (some ⟨Ob, 0, none⟩), .pointer (some ⟨Ab, 0, none⟩)] W fun e W' => e = .returned (.tuple #[]) ∧ Iv (pre ++ eachR (fs.drop i) b) W' ∧ KpA lo hi W W' := by
  intro d
  induction d with
  | zero =>
    intro i b pre W hix hB hj hE hub
    have e : i = fs.length := by omega
    subst e
    rw [List.drop_length]
    obtain ⟨Y, hY⟩ : ∃ Y, (W.alloc (.cells #[.int .i64 (fs.length : Int)] 3)).alloc (.cells #[.int .u64 (b : Int)] 78) = Y := ⟨_, rfl⟩
    have hbY : Below W.heap.size W Y := by rw [← hY]; exact ((Below.refl _ _).alloc (Nat.le_refl _) _).alloc (by simp) _
    obtain ⟨N, hN⟩ : ∃ N, W.heap.size = N := ⟨_, rfl⟩
    have n0 : Y.cell? ⟨N, 0, none⟩ = some (.int .i64 (fs.length : Int)) := by rw [← hY]; exact cellP (cellN hN.symm rfl) _
    have n1 : Y.cell? ⟨N + 1, 0, none⟩ = some (.int .u64 (b : Int)) := by rw [← hY]; exact cellN (by simp; omega) rfl
    have hEY := hE.kept (KpA.below hbY)
    have cf := hEY.cf
    have cd := hEY.cd
    have he := hL.enter
    have HC := Lib.hid (hL.call pre b Y (hL.below hj hbY) hub)
    have HbY := Lib.hid hbY
    clear hEY hE hL hj hbY
    go_enter Try.func111, Try.ntmps111
    go_wp2_with (with_reducible refine HC.out.mono ?_; rintro e w' ⟨rfl, hj2, hk2⟩)
    exact bodyPost_ret (results_none rfl _ _ _) rfl ⟨rfl, hj2, (KpA.below HbY.out).trans hk2⟩
  | succ d ih =>
    intro i b pre W hix hB hj hE hub
    have hlt : i < fs.length := by omega
    have H := Lib.hid ih
    clear ih
    obtain ⟨Y, hY⟩ : ∃ Y, (W.alloc (.cells #[.int .i64 (i : Int)] 3)).alloc (.cells #[.int .u64 (b : Int)] 78) = Y := ⟨_, rfl⟩
    have hbY : Below W.heap.size W Y := by rw [← hY]; exact ((Below.refl _ _).alloc (Nat.le_refl _) _).alloc (by simp) _
    obtain ⟨N, hN⟩ : ∃ N, W.heap.size = N := ⟨_, rfl⟩
    have n0 : Y.cell? ⟨N, 0, none⟩ = some (.int .i64 (i : Int)) := by rw [← hY]; exact cellP (cellN hN.symm rfl) _
    have n1 : Y.cell? ⟨N + 1, 0, none⟩ = some (.int .u64 (b : Int)) := by rw [← hY]; exact cellN (by simp; omega) rfl
    have zY : Y.heap.size = N + 1 + 1 := by rw [← hY, ← hN]; simp
    have hEY := hE.kept (KpA.below hbY)
    have hjY := hL.below hj hbY
    have cf := hEY.cf
    obtain ⟨fb, fo, hfa, p0, p1, p2, p3, p4, p5, p6, p7⟩ := IsReps.get hEY.rf hlt
    obtain ⟨r, hr⟩ : ∃ r, fs[i] = r := ⟨_, rfl⟩
    rw [hr] at p0 p1 p2 p3 p4 p5 p6 p7
    have HF := Lib.hid (show FallOk r by rw [← hr]; exact hfs _ (List.getElem_mem hlt))
    have Hdrop := Lib.hid (show eachR (fs.drop i) b = (voidsR r).flatMap fun v => eachR (fs.drop (i + 1)) (b ||| v) by rw [List.drop_eq_getElem_cons hlt, hr]; rfl)
    subst hfa
    have d2 : ((i : Int) == (fs.length : Int)) = false := by simp; omega
    have i2 : (i : Int) < (fs.length : Int) := by omega
    obtain ⟨Z, hZ⟩ : ∃ Z, Y.alloc (.cells (repC r) 44) = Z := ⟨_, rfl⟩
    have hbZ : Below Y.heap.size Y Z := by rw [← hZ]; exact (Below.refl _ _).alloc (Nat.le_refl _) _
    have hRZ : RepAt Z (N + 1 + 1) 0 r := by
      rw [← hZ]
      exact ⟨cellN zY.symm rfl, cellN zY.symm rfl, cellN zY.symm rfl, cellN zY.symm rfl, cellN zY.symm rfl, cellN zY.symm rfl, cellN zY.symm rfl, cellN zY.symm rfl⟩
    have zZ : Z.heap.size = N + 1 + 1 + 1 := by rw [← hZ]; simp [zY]
    have hV : Calls Try.prog 112 #[repV r] Y fun e w' => e = .returned (.func (.func 114) #[] #[.pointer (some ⟨N + 1 + 1, 0, none⟩)]) ∧ Z = w' := by
      have := voids_fn r Y
      rw [hZ, zY] at this
      exact this
    have HEZ := Lib.hid (hEY.kept (KpA.below hbZ))
    have HjZ := Lib.hid (hL.below hjY hbZ)
    have n0Z := Below.cellSome hbZ n0
    have n1Z := Below.cellSome hbZ n1
    have HkZ := Lib.hid ((KpA.below (lo := lo) (hi := hi) hbY).trans (KpA.below hbZ))
    have HN := Lib.hid (And.intro n0Z n1Z)
    have hhi : hi ≤ N := by have := hE.hs; omega
    have HV := Lib.hid hV
    have HRZ := Lib.hid hRZ
    clear hV hRZ hbZ hbY hEY hE hj hjY hr n0Z n1Z
    refine (callsIn_wide (n := 3)).1 ?_
    refine callsIn_of_wp_marks Try.func111 rfl trivial ?_ rfl
    simp only [Try.ntmps111, List.size_toArray, List.length_cons, List.length_nil, Nat.reduceAdd, Nat.reduceSub, Array.replicate_succ, Array.replicate_zero, List.push_toArray, List.append_toArray, List.nil_append, List.cons_append]
    gi_wp2_with (refine ⟨trivial, ?_⟩; gi_at_call 112; refine (callsIn_wide.2 HV.out).mono ?_; rintro e w' ⟨rfl, rfl⟩)
    clear HV p0 p1 p2 p3 p4 p5 p6 p7 hZ n0 n1 cf hY
    refine rangeV (α := Nat) 21 8 rfl (by omega) (gf := 114) (lb := #[.pointer (some ⟨N + 1 + 1, 0, none⟩)]) rfl trivial (enters_of Try.func114 (by kernel_rfl) rfl)
      (seqvoids r HF.out lo hi (N + 1 + 1) 2 Z HRZ.out (.inr (by omega)) (by omega)) (Kp := KpW lo hi) KpW.trans ?hKb (Below.refl _ _)
      (eachI lo hi Iv Z (fs.drop (i + 1)) b pre) (eachI_own hL Z _ b pre (by omega) (Nat.le_refl _)) (own_lt60 _) ⟨by simpa using HjZ.out, KpA.refl _ _ _⟩
      ?assign ?body ?done
    case hKb => exact fun W' l o o' hl ho hc hw => KpW.putObj W' ho hc hw
    case assign =>
      intro l x W' K hK
      gi_wp2
      exact hK
    case body =>
      rintro l xs v W5 ⟨hj5, hk5⟩ hv
      simp only [List.setIfInBounds_toArray, List.set_cons_zero, List.set_cons_succ]
      have HE5 := HEZ.out.kept hk5
      have q0 := HE5.co
      have q1 := HE5.ca
      have q2 := hk5.cell HN.out.1 (.inr (by omega))
      have q3 := hk5.cell HN.out.2 (.inr (by omega))
      have Hub := Lib.hid hub
      have Huv := Lib.hid (show U64 v by unfold U64; omega)
      have Hadd := Lib.hid (show IntKind.i64.wrap ((i : Int) + 1) = ((i + 1 : Nat) : Int) by rw [IntWalk.i64_in _ (by omega)]; push_cast; rfl)
      obtain ⟨pre1, hpre1⟩ : ∃ p, pre ++ xs.flatMap (fun v => eachR (fs.drop (i + 1)) (b ||| v)) = p := ⟨_, rfl⟩
      rw [hpre1] at hj5
      have hsz5 := hk5.1
      have HR := Lib.hid (fun (X : World) (hX : Below W5.heap.size W5 X) => H.out (i + 1) (b ||| v) pre1 X (by omega) (Nat.le_trans (by omega) hX.size) (hL.below hj5 hX) (HE5.kept (KpA.below hX)) (hub.or Huv.out))
      have Hk5 := Lib.hid hk5
      have Hpre := Lib.hid hpre1
      clear HE5 hj5 hk5 hpre1 HjZ HRZ HkZ hub
      gi_wp2
      refine regionValsT [some 22, some 23, some 24, some 25, some 26, some 27, some 28, some 29] [.func (.func 111) #[] #[.pointer (some ⟨Fb, 0, none⟩), .pointer (some ⟨Db, 0, none⟩), .pointer (some ⟨Ob, 0, none⟩), .pointer (some ⟨Ab, 0, none⟩)], .int .i64 (i : Int), .int .i64 ((i + 1 : Nat) : Int), .func (.func 94) #[] #[], .int .u64 (b : Int), .int .u64 (v : Int), .int .u64 ((b ||| v : Nat) : Int), .tuple #[]] [22, 23, 24, 25, 26, 27, 28, 29] [(22, .func (.func 111) #[] #[.pointer (some ⟨Fb, 0, none⟩), .pointer (some ⟨Db, 0, none⟩), .pointer (some ⟨Ob, 0, none⟩), .pointer (some ⟨Ab, 0, none⟩)]), (23, .int .i64 (i : Int)), (24, .int .i64 ((i + 1 : Nat) : Int)), (25, .func (.func 94) #[] #[]), (26, .int .u64 (b : Int)), (27, .int .u64 (v : Int)), (28, .int .u64 ((b ||| v : Nat) : Int)), (29, .tuple #[])] (fun L X => (L 7 = false → Below W5.heap.size W5 X) ∧ (L 7 = true → Iv (pre1 ++ eachR (fs.drop (i + 1)) (b ||| v)) X ∧ KpA lo hi W5 X)) (by kernel_rfl) (by kernel_rfl) (by kernel_rfl) rfl rfl rfl rfl (fun k hk => ?sz) ⟨fun _ => (Below.refl _ _).drew, fun h => by cases h⟩ ?step ?fin
      case sz =>
        have : k < 30 := by simp at hk; omega
        exact this
      case step => as_aux_lemma =>
        intro L X i A hi hR hLi hpr hcl hev hevn hev0 K hK hK0
        have hi : i < 8 := hi
        have hc : i = 0 ∨ i = 1 ∨ i = 2 ∨ i = 3 ∨ i = 4 ∨ i = 5 ∨ i = 6 ∨ i = 7 := by omega
        rcases hc with rfl | rfl | rfl | rfl | rfl | rfl | rfl | rfl
        · -- 0
          have hl : L 7 = false := (by cases h : L 7; rfl; exact absurd (hcl 7 0 h (by kernel_rfl)) (by rw [hLi]; decide))
          have bb := hR.1 hl
          have f4 : A.eval (.tmp 4) = .pointer (some ⟨Ob, 0, none⟩) := hevn 4 (by decide)
          refine opRun (fun _ => trivial) rfl (fun c e => by cases e) rfl (v := .func (.func 111) #[] #[.pointer (some ⟨Fb, 0, none⟩), .pointer (some ⟨Db, 0, none⟩), .pointer (some ⟨Ob, 0, none⟩), .pointer (some ⟨Ab, 0, none⟩)]) (w' := X) (k := 22) rfl ?r0 (hK _ _ rfl ?k0)
          case r0 =>
            have kq0 := Below.cellSome bb q0
            have kq1 := Below.cellSome bb q1
            have kq2 := Below.cellSome bb q2
            have kq3 := Below.cellSome bb q3
            clear hK hK0 hpr hcl hev hevn hev0 Hub Huv HR Hadd q0 q1 q2 q3 bb hl hR
            generalize A.eval = ρ at f4 ⊢
            first | (go_simp; done) | (go_simp; simp [IntKind.wrap_i64, wrap64]; done) | (simp [execOp, go_sem, *]; done)
          case k0 =>
            exact ⟨fun _ => bb, fun h => by simp [updL, hl] at h⟩
        · -- 1
          have hl : L 7 = false := (by cases h : L 7; rfl; exact absurd (hcl 2 1 (hcl 7 2 h (by kernel_rfl)) (by kernel_rfl)) (by rw [hLi]; decide))
          have bb := hR.1 hl
          have f6 : A.eval (.tmp 6) = .pointer (some ⟨N, 0, none⟩) := hevn 6 (by decide)
          refine opRun (fun _ => trivial) rfl (fun c e => by cases e) rfl (v := .int .i64 (i : Int)) (w' := X) (k := 23) rfl ?r1 (hK _ _ rfl ?k1)
          case r1 =>
            have kq0 := Below.cellSome bb q0
            have kq1 := Below.cellSome bb q1
            have kq2 := Below.cellSome bb q2
            have kq3 := Below.cellSome bb q3
            clear hK hK0 hpr hcl hev hevn hev0 Hub Huv HR Hadd q0 q1 q2 q3 bb hl hR
            generalize A.eval = ρ at f6 ⊢
            first | (go_simp; done) | (go_simp; simp [IntKind.wrap_i64, wrap64]; done) | (simp [execOp, go_sem, *]; done)
          case k1 =>
            exact ⟨fun _ => bb, fun h => by simp [updL, hl] at h⟩
        · -- 2
          have hl : L 7 = false := (by cases h : L 7; rfl; exact absurd (hcl 7 2 h (by kernel_rfl)) (by rw [hLi]; decide))
          have bb := hR.1 hl
          have f23 : A.eval (.tmp 23) = .int .i64 (i : Int) := hev 1 23 rfl (hpr 1 (by kernel_rfl))
          have fc : ∀ v, A.eval (.const v) = v := fun _ => rfl
          refine opRun (fun _ => trivial) rfl (fun c e => by cases e) rfl (v := .int .i64 ((i + 1 : Nat) : Int)) (w' := X) (k := 24) rfl ?r2 (hK _ _ rfl ?k2)
          case r2 =>
            have q := Hadd.out
            clear hK hK0 hpr hcl hev hevn hev0 Hub Huv HR Hadd q0 q1 q2 q3 bb hl hR
            generalize A.eval = ρ at f23 fc ⊢
            first | (go_simp; done) | (go_simp; simp [IntKind.wrap_i64, wrap64]; done) | (simp [execOp, go_sem, *]; done)
          case k2 =>
            exact ⟨fun _ => bb, fun h => by simp [updL, hl] at h⟩
        · -- 3
          have hl : L 7 = false := (by cases h : L 7; rfl; exact absurd (hcl 6 3 (hcl 7 6 h (by kernel_rfl)) (by kernel_rfl)) (by rw [hLi]; decide))
          have bb := hR.1 hl
          have f5 : A.eval (.tmp 5) = .pointer (some ⟨Ab, 0, none⟩) := hevn 5 (by decide)
          refine opRun (fun _ => trivial) rfl (fun c e => by cases e) rfl (v := .func (.func 94) #[] #[]) (w' := X) (k := 25) rfl ?r3 (hK _ _ rfl ?k3)
          case r3 =>
            have kq0 := Below.cellSome bb q0
            have kq1 := Below.cellSome bb q1
            have kq2 := Below.cellSome bb q2
            have kq3 := Below.cellSome bb q3
            clear hK hK0 hpr hcl hev hevn hev0 Hub Huv HR Hadd q0 q1 q2 q3 bb hl hR
            generalize A.eval = ρ at f5 ⊢
            first | (go_simp; done) | (go_simp; simp [IntKind.wrap_i64, wrap64]; done) | (simp [execOp, go_sem, *]; done)
          case k3 =>
            exact ⟨fun _ => bb, fun h => by simp [updL, hl] at h⟩
        · -- 4
          have hl : L 7 = false := (by cases h : L 7; rfl; exact absurd (hcl 6 4 (hcl 7 6 h (by kernel_rfl)) (by kernel_rfl)) (by rw [hLi]; decide))
          have bb := hR.1 hl
          have f7 : A.eval (.tmp 7) = .pointer (some ⟨N + 1, 0, none⟩) := hevn 7 (by decide)
          refine opRun (fun _ => trivial) rfl (fun c e => by cases e) rfl (v := .int .u64 (b : Int)) (w' := X) (k := 26) rfl ?r4 (hK _ _ rfl ?k4)
          case r4 =>
            have kq0 := Below.cellSome bb q0
            have kq1 := Below.cellSome bb q1
            have kq2 := Below.cellSome bb q2
            have kq3 := Below.cellSome bb q3
            clear hK hK0 hpr hcl hev hevn hev0 Hub Huv HR Hadd q0 q1 q2 q3 bb hl hR
            generalize A.eval = ρ at f7 ⊢
            first | (go_simp; done) | (go_simp; simp [IntKind.wrap_i64, wrap64]; done) | (simp [execOp, go_sem, *]; done)
          case k4 =>
            exact ⟨fun _ => bb, fun h => by simp [updL, hl] at h⟩
        · -- 5
          have hl : L 7 = false := (by cases h : L 7; rfl; exact absurd (hcl 6 5 (hcl 7 6 h (by kernel_rfl)) (by kernel_rfl)) (by rw [hLi]; decide))
          have bb := hR.1 hl
          have f8 : A.eval (.tmp 8) = .int .u64 (v : Int) := hevn 8 (by decide)
          refine opRun (fun _ => trivial) rfl (fun c e => by cases e) rfl (v := .int .u64 (v : Int)) (w' := X) (k := 27) rfl ?r5 (hK _ _ rfl ?k5)
          case r5 =>
            clear hK hK0 hpr hcl hev hevn hev0 Hub Huv HR Hadd q0 q1 q2 q3 bb hl hR
            generalize A.eval = ρ at f8 ⊢
            first | (go_simp; done) | (go_simp; simp [IntKind.wrap_i64, wrap64]; done) | (simp [execOp, go_sem, *]; done)
          case k5 =>
            exact ⟨fun _ => bb, fun h => by simp [updL, hl] at h⟩
        · -- 6
          have hl : L 7 = false := (by cases h : L 7; rfl; exact absurd (hcl 7 6 h (by kernel_rfl)) (by rw [hLi]; decide))
          have bb := hR.1 hl
          have f25 : A.eval (.tmp 25) = .func (.func 94) #[] #[] := hev 3 25 rfl (hpr 3 (by kernel_rfl))
          have f26 : A.eval (.tmp 26) = .int .u64 (b : Int) := hev 4 26 rfl (hpr 4 (by kernel_rfl))
          have f27 : A.eval (.tmp 27) = .int .u64 (v : Int) := hev 5 27 rfl (hpr 5 (by kernel_rfl))
          refine opCall (fun _ => trivial) (fun _ => by decide) rfl (fun c e => by cases e) rfl (f := 94) (args := #[.int .u64 (b : Int), .int .u64 (v : Int)]) (w' := X) (k := 28) rfl ?r6 (CallsIn.inRound l <| callsIn_wide.2 (plus_b b v Hub.out Huv.out X)) ?k6
          case r6 =>
            clear hK hK0 hpr hcl hev hevn hev0 Hub Huv HR Hadd q0 q1 q2 q3 bb hl hR
            generalize A.eval = ρ at f25 f26 f27 ⊢
            first | (go_simp; done) | (go_simp; simp [IntKind.wrap_i64, wrap64]; done) | (simp [execOp, go_sem, *]; done)
          case k6 =>
            rintro e W' ⟨rfl, hbw⟩
            exact ⟨_, rfl, hK _ _ rfl ⟨fun _ => bb.trans (hbw.mono bb.size), fun h => by simp [updL, hl] at h⟩⟩
        · -- 7
          have hl : L 7 = false := hLi
          have bb := hR.1 hl
          have f22 : A.eval (.tmp 22) = .func (.func 111) #[] #[.pointer (some ⟨Fb, 0, none⟩), .pointer (some ⟨Db, 0, none⟩), .pointer (some ⟨Ob, 0, none⟩), .pointer (some ⟨Ab, 0, none⟩)] := hev 0 22 rfl (hpr 0 (by kernel_rfl))
          have f24 : A.eval (.tmp 24) = .int .i64 ((i + 1 : Nat) : Int) := hev 2 24 rfl (hpr 2 (by kernel_rfl))
          have f28 : A.eval (.tmp 28) = .int .u64 ((b ||| v : Nat) : Int) := hev 6 28 rfl (hpr 6 (by kernel_rfl))
          refine opCall (fun _ => trivial) (fun _ => by decide) rfl (fun c e => by cases e) rfl (f := 111) (args := #[.int .i64 ((i + 1 : Nat) : Int), .int .u64 ((b ||| v : Nat) : Int), .pointer (some ⟨Fb, 0, none⟩), .pointer (some ⟨Db, 0, none⟩), .pointer (some ⟨Ob, 0, none⟩), .pointer (some ⟨Ab, 0, none⟩)]) (w' := X) (k := 29) rfl ?r7 (CallsIn.inRound l <| callsIn_wide.2 (HR.out X bb)) ?k7
          case r7 =>
            clear hK hK0 hpr hcl hev hevn hev0 Hub Huv HR Hadd q0 q1 q2 q3 bb hl hR
            generalize A.eval = ρ at f22 f24 f28 ⊢
            first | (go_simp; done) | (go_simp; simp [IntKind.wrap_i64, wrap64]; done) | (simp [execOp, go_sem, *]; done)
          case k7 =>
            rintro e W' ⟨rfl, hj9, hk9⟩
            exact ⟨_, rfl, hK _ _ rfl ⟨fun h => by simp [updL] at h, fun _ => ⟨hj9, (KpA.below bb).trans hk9⟩⟩⟩
      case fin =>
        intro LL X hR hall
        have hR := hR.2 (hall 7 (by decide))
        simp -implicitDefEqProofs only [setP, List.foldl_cons, List.foldl_nil, List.setIfInBounds_toArray, List.set_cons_zero, List.set_cons_succ]
        obtain ⟨hj9, hk9⟩ := hR
        have HJ := Lib.hid hj9
        have HK9 := Lib.hid hk9
        clear hj9 hk9 hall
        show KeepsFrom _ _ _ ∧ KpW _ _ _ _ ∧ eachI _ _ _ _ _ _ _ _ _
        refine ⟨HK9.out.keeps _, HK9.out.toW, ?_, Hk5.out.trans HK9.out⟩
        have h := HJ.out
        rw [← Hpre.out] at h
        rw [List.flatMap_append, ← List.append_assoc]
        simpa using h
    case done =>
      rintro Dd xs W' hDd rfl ⟨hj9, hk9⟩ hKd
      have hjD := hL.own _ _ _ (some Dd) hj9 (grownBy_putObj' W' Dd (.deferred none)) (fun r e => by cases e; exact ⟨by omega, _, hKd, rfl⟩)
      have hkD := (HkZ.out.trans hk9).put (l := Dd) (by omega) (.deferred none)
      rw [← Hdrop.out] at hjD
      have HjD := Lib.hid hjD
      have HkD := Lib.hid hkD
      clear hj9 hk9 hjD hkD
      gi_wp2
      refine ⟨by simp, .inl ⟨_, _, rfl, run_takeDeferred hKd, ?_⟩⟩
      refine ⟨.tuple #[], ?_, ?_⟩
      · simp [results, Try.results111]
      exact ⟨rfl, HjD.out, HkD.out⟩
theorem JnI.lo {w X : World} {j : List Rep} {a : Option Addr} {n c : Nat} (h : JnI w j (.slice a n c) X) : ∀ x, a = some x → w.heap.size ≤ x.block := fun x e => own_lo h.o x.block (by rw [e]; rfl)
set_option maxRecDepth 20000 in
set_option maxHeartbeats 1000000 in
theorem each_any (lo hi dn B0 : Nat) (dcap : Array Value) (Iv : List Nat → World → Prop) (hL : Leaf lo hi dn dcap B0 Iv) (j : List Rep) (hj100 : j.length ≤ 100) (hfs : ∀ r, r ∈ fallsR j → FallOk r) (v : Value) (W : World) (hv : IsReps W v j) (hB : B0 ≤ W.heap.size) (hhi : hi ≤ W.heap.size) (hi0 : Iv [] W) :
    Calls Try.prog 95 #[v, .func (.func dn) #[] dcap] W fun e W' => e = .returned (.tuple #[]) ∧ Iv (eachJ j) W' ∧ KpA lo hi W W' := by
  obtain ⟨a, cap, rfl, _⟩ := IsRows.slice hv
  obtain ⟨D, hD⟩ : ∃ D, W.heap.size = D := ⟨_, rfl⟩
  obtain ⟨X1, hX1⟩ : ∃ X1, W.alloc (.cells #[.func (.func dn) #[] dcap] 112) = X1 := ⟨_, rfl⟩
  have hb1 : Below W.heap.size W X1 := by rw [← hX1]; exact (Below.refl _ _).alloc (Nat.le_refl _) _
  have z1 : X1.heap.size = D + 1 := by rw [← hX1, ← hD]; simp
  have x0 : X1.cell? ⟨D, 0, none⟩ = some (.func (.func dn) #[] dcap) := by rw [← hX1]; exact cellN hD.symm rfl
  have HF := Lib.hid (falls_any j hj100 _ X1 (hv.below hb1))
  have H0 := Lib.hid (hL.below hi0 hb1)
  have Hb1 := Lib.hid hb1
  clear hb1 hv hi0
  go_enter Try.func95, Try.ntmps95
  go_wp2_with fail
  with_reducible refine HF.out.mono ?_
  rintro e X2 ⟨u, rfl, hJ⟩
  obtain ⟨ua, uc, rfl⟩ := hJ.o.slice
  have hlen : (fallsR j).length ≤ 100 := Nat.le_trans (List.length_filter_le _ _) hj100
  obtain ⟨fs, hfs2⟩ : ∃ fs, fallsR j = fs := ⟨_, rfl⟩
  have He := Lib.hid (show eachJ j = eachR fs 0 by unfold eachJ; rw [hfs2])
  rw [hfs2] at hJ hlen hfs ⊢
  clear hfs2
  obtain ⟨N, hN⟩ : ∃ N, X2.heap.size = N := ⟨_, rfl⟩
  obtain ⟨X5, hX5⟩ : ∃ X5, (((X2.alloc (.cells #[.slice ua fs.length uc] 22)).alloc (.cells #[.func (.func 94) #[] #[]] 125)).alloc (.cells #[.func (.func 111) #[] #[.pointer (some ⟨N, 0, none⟩), .pointer (some ⟨D, 0, none⟩), .pointer (some ⟨N + 1 + 1, 0, none⟩), .pointer (some ⟨N + 1, 0, none⟩)]] 126)) = X5 := ⟨_, rfl⟩
  have hb5 : Below X2.heap.size X2 X5 := by rw [← hX5]; exact (((Below.refl _ _).alloc (Nat.le_refl _) _).alloc (by simp) _).alloc (by simp; omega) _
  have y0 : X5.cell? ⟨N, 0, none⟩ = some (.slice ua fs.length uc) := by rw [← hX5]; exact cellP (cellP (cellN hN.symm rfl) _) _
  have y1 : X5.cell? ⟨N + 1, 0, none⟩ = some (.func (.func 94) #[] #[]) := by rw [← hX5]; exact cellP (cellN (by simp; omega) rfl) _
  have y2 : X5.cell? ⟨N + 1 + 1, 0, none⟩ = some (.func (.func 111) #[] #[.pointer (some ⟨N, 0, none⟩), .pointer (some ⟨D, 0, none⟩), .pointer (some ⟨N + 1 + 1, 0, none⟩), .pointer (some ⟨N + 1, 0, none⟩)]) := by rw [← hX5]; exact cellN (by simp; omega) rfl
  have hND : D + 1 ≤ N := by have := hJ.b.size; omega
  have hE : EnvE X5 lo hi N D (N + 1 + 1) (N + 1) dn dcap ua uc fs :=
    ⟨y0, Below.cellSome hb5 (Below.cellSome hJ.b x0), y2, y1, hJ.o.reads.below hb5, by omega, fun _ x hx => .inr (by have := hJ.lo x hx; omega), by have := hb5.size; omega⟩
  have hR0 := on_any lo hi N D (N + 1 + 1) (N + 1) dn B0 dcap Iv hL ua uc fs hfs hlen fs.length 0 0 [] X5 (by omega) (by have := hb5.size; omega) (hL.below (hL.below H0.out hJ.b) hb5) hE (by unfold U64; omega)
  rw [show ((0 : Nat) : Int) = 0 from rfl] at hR0
  have HR := Lib.hid hR0
  clear hR0
  have HkX := Lib.hid ((KpA.below (lo := lo) (hi := hi) Hb1.out).trans ((KpA.below hJ.b).trans (KpA.below hb5)))
  clear hE hb5 hJ y0 y1
  go_wp2_with (go_at_call 111; with_reducible refine HR.out.mono ?_; rintro e w' ⟨rfl, hj9, hk9⟩)
  go_end0
  exact ⟨rfl, by rw [He.out]; simpa using hj9, HkX.out.trans hk9⟩
end Go.Proofs.Ytdfaekanndpgfaa
