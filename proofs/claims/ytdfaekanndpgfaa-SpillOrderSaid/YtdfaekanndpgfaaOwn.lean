import Derived.Test.YtdfaekanndpgfaaCopy
import Derived.Test.YtdfaekanndpgfaaHeld
/- Rows of the call's own: what leaves them as they are; appends. -/
set_option linter.unusedSimpArgs false
set_option linter.unusedVariables false
namespace Go.Proofs.Ytdfaekanndpgfaa
open Go.RowKit
theorem wpList_append_run {P : Program} {w : World} {ops : Array Oper} {rest : List Oper} {o : Oper} {a : Act} {Q : Exit → Act → World → Prop} (hgd : o.guard = none) (s x : Operand) (t : TypeId)
    (ho : o.op = .call { callee := .builtin .append, args := #[s, x], argTypes := #[t, t] }) (v u : Value) (hs : a.eval s = v) (hx : a.eval x = u) {v' : Value} {w' : World}
    (hr : (Builtin.append_ #[t, t] o.type #[v, u]).run P w = .ok v' w') (h : wpList P ops Q rest (a.put o.dst v') w') : wpList P ops Q (o :: rest) a w := by
  refine wpList_plain hgd fun K hK => ?_
  unfold Oper.wp
  simp [execOp, ho, resolve, invoke, builtin, hs, hx, hr, Result.andThen]
  exact hK _ _ h
theorem getD_flat' {m size : Nat} {row : Nat → Nat → Value} {k j : Nat} (hk : k < m) (hj : j < size) : (flatR m size row).getD (k * size + j) undef = row k j := by
  have h := getD_flat (row := row) hk hj []
  rwa [List.append_nil] at h
theorem own_not {w : World} {b1 n1 sz g : Nat} {e1 e2 : TypeId} {u : Value} {xs : List Value} {cur : Array Value} (h : w.ownsRow b1 e1 sz u n1 xs) (hg : w.heap[g]? = some (.cells cur e2 (0, 0))) (hne : e1 ≠ e2) : u.ownBlock ≠ some g := by
  rcases h.2 with ⟨rfl, h0⟩ | ⟨g', cap, c, rfl, hb, hg', _⟩
  · simp [Value.ownBlock]
  · intro e
    simp only [Value.ownBlock, Option.some.injEq] at e
    subst e
    rw [hg] at hg'
    simp at hg'
    exact hne hg'.2.symm
theorem wpIn_append_run {F : Fence} {n : Nat} {P : Program} (hF : ∀ f, F.fn f) (w : World) {o : Oper} {a : Act} {K : Act → World → Prop} {Q : Exit → Act → World → Prop} (d s : Operand) (t t' : TypeId)
    (ho : o.op = .call { callee := .builtin .append, args := #[d, s], argTypes := #[t, t'] }) (v u : Value) (hd : a.eval d = v) (hs : a.eval s = u) {v' : Value} {w' : World}
    (hr : (Builtin.append_ #[t, t'] o.type #[v, u]).run P w = .ok v' w') (h : K (a.put o.dst v') w') : o.wpIn F n P a w K Q := by
  unfold Oper.wpIn
  refine ⟨fun f hf => hF f, ?_⟩
  rw [Oper.semAt_eq _ _ _ (fun c => by rw [ho]; intro e; cases e)]
  have e : Sem.run P (execOp a.eval o) w = .ok (.value v') w' := by
    simp [execOp, ho, resolve, invoke, builtin, hd, hs, hr, Result.andThen]
  rw [e]
  exact h
theorem own_rows_at {w X : World} {base n m sz sz' : Nat} {e : TypeId} {v : Value} {xs : List Value} {row : Nat → Nat → Value} (h : w.ownsRow base e sz v n xs) (hX : ∀ k, base ≤ k → k < w.heap.size → X.heap[k]? = w.heap[k]?) (hr : IsRows w v m sz' row) : IsRows X v m sz' row := by
  obtain ⟨a, c, e1, e2, e3, e4⟩ := hr
  refine ⟨a, c, e1, e2, e3, fun hp => ?_⟩
  obtain ⟨b, off, e5, e6⟩ := e4 hp
  refine ⟨b, off, e5, fun k j hk hj => ?_⟩
  have hb := h.lt b (by rw [e1, e5]; simp [Value.ownBlock])
  rw [World.cell?_of_block (a := ⟨b, off + k * sz' + j, none⟩) (hX b hb.1 hb.2)]; exact e6 k j hk hj
theorem flatR_congr {m sz : Nat} {r1 r2 : Nat → Nat → Value} (hs : 0 < sz) (h : ∀ k j, k < m → j < sz → r1 k j = r2 k j) : flatR m sz r1 = flatR m sz r2 := by
  unfold flatR
  refine List.map_congr_left fun q hq => ?_
  rw [List.mem_range] at hq
  exact h _ _ (Nat.div_lt_of_lt_mul (by rw [Nat.mul_comm]; exact hq)) (Nat.mod_lt _ hs)
theorem own_nil (w : World) (base : Nat) (e : TypeId) (sz : Nat) : w.ownsRow base e sz (.slice none 0 0) 0 [] := ⟨by simp, .inl ⟨rfl, rfl⟩⟩
theorem own_apart {w : World} {b1 b2 e1 e2 s1 s2 n1 n2 : Nat} {u1 u2 : Value} {x1 x2 : List Value} (h1 : w.ownsRow b1 e1 s1 u1 n1 x1) (h2 : w.ownsRow b2 e2 s2 u2 n2 x2) (hne : e1 ≠ e2) : u1.ownBlock = none ∨ u1.ownBlock ≠ u2.ownBlock := by
  rcases h2.2 with ⟨rfl, _⟩ | ⟨g, cap, cur, rfl, _, hg, _⟩
  · by_cases h : u1.ownBlock = none
    · exact .inl h
    · exact .inr h
  · exact .inr (own_not h1 hg hne)
theorem own_set {Z : World} {base g o c sz : Nat} {e : TypeId} {v u : Value} {xs : List Value} (h : Z.ownsRow base e sz v c xs) (hne : v.ownBlock ≠ some g) : (Z.setCell ⟨g, o, none⟩ u).ownsRow base e sz v c xs :=
  h.kept (row := some g) ⟨rfl, rfl, rfl, by simp, fun k _ hk => heap_setCell_ne (fun e => hk (by show some k = some g; rw [e]))⟩ (.inr hne)
theorem own_kept2 {X Y : World} {base c sz : Nat} {e : TypeId} {v : Value} {xs : List Value} (h : X.ownsRow base e sz v c xs) (hb : Below X.heap.size X Y) : Y.ownsRow base e sz v c xs :=
  h.kept (row := none) ⟨hb.os, hb.tape, hb.output, hb.size, fun k hk _ => hb.block k hk⟩ (by cases v.ownBlock <;> simp)
theorem own_one {X : World} {b e s n : Nat} {v : Value} {xs : List Value} (h : X.ownsRow b e s v n xs) : v.oneCell' = true := by
  rcases h.2 with ⟨rfl, _⟩ | ⟨g, cap, cur, rfl, _⟩ <;> rfl
theorem own_slice {X : World} {b e s n : Nat} {v : Value} {xs : List Value} (h : X.ownsRow b e s v n xs) : ∃ a c, v = .slice a n c := by
  rcases h.2 with ⟨rfl, h0⟩ | ⟨g, cap, cur, rfl, _⟩
  · exact ⟨none, 0, by rw [h0]⟩
  · exact ⟨_, _, rfl⟩
theorem own_grown {X Z : World} {b1 b2 e1 e2 s1 s2 n1 n2 : Nat} {u1 u2 : Value} {x1 x2 : List Value} (h : X.ownsRow b1 e1 s1 u1 n1 x1) (hr : X.ownsRow b2 e2 s2 u2 n2 x2) (hne : e1 ≠ e2) (hgr : X.grownBy Z u2.ownBlock) : Z.ownsRow b1 e1 s1 u1 n1 x1 := h.kept hgr (own_apart h hr hne)
theorem own_base {X : World} {b1 b2 c sz : Nat} {e : TypeId} {v : Value} {xs : List Value} (h : X.ownsRow b1 e sz v c xs) (hb : b2 ≤ b1) : X.ownsRow b2 e sz v c xs := by
  rcases h.2 with hn | ⟨g, cap, cur, hv, hg, rest⟩
  · exact ⟨h.1, .inl hn⟩
  · exact ⟨h.1, .inr ⟨g, cap, cur, hv, by omega, rest⟩⟩
end Go.Proofs.Ytdfaekanndpgfaa
