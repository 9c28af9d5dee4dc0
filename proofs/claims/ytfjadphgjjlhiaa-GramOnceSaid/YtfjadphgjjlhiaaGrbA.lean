
/- The program's net and the document's one side by side: what each call leaves of both. No condition. -/
import Derived.Test.YtfjadphgjjlhiaaGraV
import Derived.Test.YtfjadphgjjlhiaaGraJ
import Derived.Laws.AppendOwnNone
namespace Go.Proofs.Ytfjadphgjjlhiaa
open Go.RowKit Go.Maps Gr Sok
set_option linter.unusedVariables false
set_option linter.unusedSimpArgs false
section
variable {W w w' : World} {b h c r N : Nat} {vL vC : Value} {last : Int} {L : List G} {C : Int → Int → Bool} {Cs : List (Int × Int)} {B : Nat}
/-- A block of cells of another type is none of the net's. -/
theorem NT.no (t : NT W w b h c last L C N) {k : Nat} {T : TypeId} {A : Array Value} (hk : Blk w k T A) (hT : T ≠ 64) : ¬ (k = b ∨ k = h ∨ k = c) := by
  unfold Blk at hk
  rintro (e | e | e)
  · subst e
    have := t.nw.blk
    unfold Blk at this
    rw [hk] at this
    injection this with this
    injection this with _ this
    exact hT this
  · subst e
    obtain ⟨D, ⟨es, clock, hb, _⟩, _⟩ := t.nw.gm
    rw [hk] at hb; cases hb
  · subst e
    obtain ⟨D, ⟨es, clock, hb, _⟩, _⟩ := t.nw.cm
    rw [hk] at hb; cases hb
theorem NT.onR (t : NT W w b h c last L C N) (o : OnR B r w w') {A : Array Value} (hr : Blk w r 45 A) (h1 : W.heap.size ≤ r) (h2 : W.heap.size ≤ B) : NT W w' b h c last L C N := by
  refine t.other o fun k hk => ?_
  have key : ¬ (k = b ∨ k = h ∨ k = c) ∧ W.heap.size ≤ k := by
    rcases hk with rfl | ⟨hb, cur, T, hc, hT⟩
    · exact ⟨t.no hr (by decide), h1⟩
    · refine ⟨t.no (k := k) (T := T) (A := cur) hc ?_, by omega⟩
      rcases hT with rfl | rfl <;> decide
  exact ⟨key.2, fun e => key.1 (.inl e), fun e => key.1 (.inr (.inl e)), fun e => key.1 (.inr (.inr e))⟩
theorem RW.onN (d : RW w B r vL vC last L Cs) {last' : Int} {L' : List G} {C' : Int → Int → Bool} {N' : Nat} (t : NT W w b h c last' L' C' N') (o : OnN b h c w w') : RW w' B r vL vC last L Cs := by
  refine d.only o (t.no d.blk (by decide)) (fun g hg => ?_) (fun g hg => ?_)
  · obtain ⟨cur, e, _⟩ := owns_type d.row hg
    exact t.no (k := g) (A := cur) e (by decide)
  · obtain ⟨cur, e, _⟩ := owns_type d.cuts hg
    exact t.no (k := g) (A := cur) e (by decide)
theorem blk_onN {Q : Nat} {T : TypeId} {A : Array Value} (q : Blk w Q T A) (t : NT W w b h c last L C N) (hT : T ≠ 64) (o : OnN b h c w w') : Blk w' Q T A := q.only o (t.no q hT)
theorem blk_onR {Q : Nat} {T : TypeId} {A : Array Value} (q : Blk w Q T A) (o : OnR B r w w') (h1 : Q ≠ r) (h2 : T ≠ 33) (h3 : T ≠ 59) : Blk w' Q T A := by
  refine q.only o ?_
  rintro (e | ⟨_, cur, T', e, hT⟩)
  · exact h1 e
  · unfold Blk at q
    rw [q] at e
    injection e with e
    injection e with _ e
    subst e
    rcases hT with e | e
    · exact h2 e
    · exact h3 e
end
/-- Both nets, in step. -/
structure PG (W w : World) (b h c r : Nat) (vL vC : Value) (last : Int) (L : List G) (Cs : List (Int × Int)) (N : Nat) : Prop where
  nt : NT W w b h c last L (cutL Cs) N
  rw : RW w W.heap.size r vL vC last L Cs
/-- .. behind i steps. -/
def PX (W : World) (b h c r i : Nat) (w : World) : Prop := ∃ vL vC last L Cs N, PG W w b h c r vL vC last L Cs N ∧ L.length ≤ 4096 ∧ last ≤ 50 * (i : Int) ∧ N ≤ 50 * i ∧ Cs.length ≤ i
section
variable {W w w' w1 : World} {b h c r N : Nat} {vL vC : Value} {last : Int} {L : List G} {Cs : List (Int × Int)}
theorem PG.below (p : PG W w b h c r vL vC last L Cs N) (o : Below w.heap.size w w') : PG W w' b h c r vL vC last L Cs N := ⟨p.nt.below o, p.rw.below o⟩
theorem PG.alloc (p : PG W w b h c r vL vC last L Cs N) (o : Obj) : PG W (w.alloc o) b h c r vL vC last L Cs N := p.below ((Below.refl _ _).alloc (Nat.le_refl _) o)
theorem PG.drew (p : PG W w b h c r vL vC last L Cs N) : PG W w.drew b h c r vL vC last L Cs N := p.below (Below.refl _ _).drew
theorem PX.below {i : Nat} (p : PX W b h c r i w) (o : Below w.heap.size w w') : PX W b h c r i w' := by
  obtain ⟨vL, vC, last, L, Cs, N, p, q⟩ := p
  exact ⟨vL, vC, last, L, Cs, N, p.below o, q⟩
theorem PX.bel {i : Nat} (p : PX W b h c r i w) : Below W.heap.size W w := by
  obtain ⟨vL, vC, last, L, Cs, N, p, q⟩ := p
  exact p.nt.bel
/-- Another block is there, and none of the nets'. -/
structure Oth (W w : World) (b h c r Q : Nat) (T : TypeId) (A : Array Value) : Prop where
  blk : Blk w Q T A
  nr : Q ≠ r
theorem Oth.below {Q : Nat} {T : TypeId} {A : Array Value} (q : Oth W w b h c r Q T A) (o : Below w.heap.size w w') : Oth W w' b h c r Q T A := ⟨q.blk.below o, q.nr⟩
theorem Oth.alloc {Q : Nat} {T : TypeId} {A : Array Value} (q : Oth W w b h c r Q T A) (o : Obj) : Oth W (w.alloc o) b h c r Q T A := q.below ((Below.refl _ _).alloc (Nat.le_refl _) o)
theorem cut_same (Cs : List (Int × Int)) (x y : Int) : cutC (cutL Cs) x y = cutL (if cutL Cs x y then Cs else Cs ++ [(x, y)]) := by
  funext p q
  unfold cutC
  cases hc : cutL Cs x y with
  | false =>
    show _ = cutL (Cs ++ [(x, y)]) p q
    unfold cutL
    rw [List.any_append]
    congr 1
    simp only [List.any_cons, List.any_nil, Bool.or_false]
    rw [Bool.beq_comm (a := p), Bool.beq_comm (a := q)]
  | true =>
    show _ = cutL Cs p q
    cases hpq : (p == x && q == y) with
    | false => rw [Bool.or_false]
    | true =>
      have : p = x ∧ q = y := by simpa using hpq
      rw [this.1, this.2, hc]; rfl
theorem heal_same (Cs : List (Int × Int)) (x y : Int) : healC (cutL Cs) x y = cutL (heaL Cs x y) := by
  funext p q
  unfold healC heaL cutL
  rw [List.any_filter]
  rw [Bool.eq_iff_iff]
  simp only [Bool.and_eq_true, List.any_eq_true, Bool.not_eq_true', Bool.and_eq_false_iff, beq_iff_eq, beq_eq_false_iff_ne]
  constructor
  · rintro ⟨⟨a, ha, h1, h2⟩, h3⟩
    exact ⟨a, ha, by rw [h1, h2]; exact h3, h1, h2⟩
  · rintro ⟨a, ha, h3, h1, h2⟩
    exact ⟨⟨a, ha, h1, h2⟩, by rw [← h1, ← h2]; exact h3⟩
end
section
variable {P : Program} {ops : Array Oper} {o : Oper} {a : Act} {K : Act → World → Prop} {Q : Exit → Act → World → Prop} {E : Prop}
theorem run_app_nil {w : World} (t ty e : TypeId) (i : TypeInfo) (ht : P.underlying t = some (.slice e)) (hi : P.info? e = some i) (c : Nat) :
    (Builtin.append_ #[t, t] ty #[.slice none 0 0, .slice none 0 c]).run P w = .ok (.slice none 0 0) w := by
  simp [Builtin.append_, run_underlying ht, sizeOf, typeInfo, hi, Builtin.lenOf, Builtin.firstCells]
/-- 'append([]int(nil), xs...)', xs any row of ints, as a step of a region that draws its order. -/
theorem step_append_ints {w0 : World} {ys : List Int} {s x : Operand} {t e : TypeId} {z : Value} {bytes m cap : Nat} {p : Option Addr}
    (hgd : o.guard = none) (ho : o.op = .call { callee := .builtin .append, args := #[s, x], argTypes := #[t, t] })
    (hx : a.eval x = .slice p m cap) (hs : a.eval s = .slice none 0 0)
    (ht : P.underlying t = some (.slice e)) (hi : Info P e z 1 bytes) (hz : z.cells.size = 1) (hb : bytes ≤ 1024)
    (hm : ys.length = m) (hmx : m ≤ 1000000) (hrow : 0 < ys.length → ∃ g o, p = some ⟨g, o, none⟩ ∧ ∀ i, i < ys.length → w0.cell? ⟨g, o + i, none⟩ = some (.int .i64 ys[i]!))
    (h : ∀ v' w', w'.ownsRow w0.heap.size e 1 v' m (ys.map (Value.int .i64)) → Below w0.heap.size w0 w' → K (a.put o.dst v') w') :
    if Region.wanted o (yielded ops a.tmps) = true then Oper.wp P o a w0 K Q else E := by
  rw [if_pos (by simp [Region.wanted, hgd])]
  obtain ⟨i, hi1, hi2, hi3, hi4⟩ := info_parts hi
  cases p with
  | none =>
    have h0 : ys = [] := by
      cases ys with
      | nil => rfl
      | cons y ys => obtain ⟨g, o, e, _⟩ := hrow (by simp); cases e
    subst h0
    have hm0 : m = 0 := by rw [← hm]; rfl
    subst hm0
    have hrun := run_app_nil (P := P) (w := w0) t o.type e i ht hi1 cap
    unfold Oper.wp
    simp [execOp, ho, resolve, invoke, builtin, hs, hx, hrun, Result.andThen]
    exact h _ _ (World.ownsRow_nil _ _ _ _) (Below.refl _ _)
  | some ad =>
    refine wp_append_own w0 s x t ho w0.heap.size e i z 1 bytes ht hi1 hi2 hi3 hi4 hz (by decide) _ 0 [] hs (World.ownsRow_nil _ _ _ _) ad m cap (ys.map (Value.int .i64)) hx (by simp [hm]) ?_ (by simp [Value.oneCell'])
      (by unfold maxLen; omega) (by have : (0 + m) * bytes ≤ 1000000 * 1024 := Nat.mul_le_mul (by omega) hb; omega) (Nat.le_refl _) ?_
    · intro j u hj
      have hjl : j < ys.length := by
        rcases Nat.lt_or_ge j ys.length with h | h
        · exact h
        · rw [List.getElem?_eq_none (by simpa using h)] at hj; cases hj
      obtain ⟨g, o, e, hc⟩ := hrow (by omega)
      injection e with e
      subst e
      have hadd : (⟨g, o, none⟩ : Addr).add j = ⟨g, o + j, none⟩ := by unfold Addr.add; split <;> simp_all
      rw [hadd, hc j hjl, ← hj, List.getElem?_map, List.getElem?_eq_getElem hjl, getElem!_pos ys j hjl]; rfl
    · intro v' w' h1 h2 _
      rw [Nat.zero_add, List.nil_append] at h1
      exact h v' w' h1 ⟨h2.os, h2.tape, h2.output, h2.size, fun k hk => h2.block k hk (by simp [Value.ownBlock])⟩
/-- A call that returns, under a guard that holds. -/
theorem step_callw {R : Ending → World → Prop} {w : World} (hw : Region.wanted o (yielded ops a.tmps) = true) (f : FuncId) (args : Array Value) (hrun : (execOp a.eval o).run P w = .ok (.enter f args) w) (hc : Calls P f args w R)
    (hr : ∀ e w', R e w' → ∃ v, e = .returned v) (h : ∀ v w', R (.returned v) w' → K (a.put o.dst v) w') : if Region.wanted o (yielded ops a.tmps) = true then Oper.wp P o a w K Q else E := by
  rw [if_pos hw]
  unfold Oper.wp
  rw [hrun]
  simp only [Oper.upon]
  refine hc.mono fun e w' hR => ?_
  obtain ⟨v, rfl⟩ := hr e w' hR
  exact h v w' hR
end
theorem rowI_at {W w : World} {p : Option Addr} {ts : List Int} (h : RowI W p ts) (hb : Below W.heap.size W w) : 0 < ts.length → ∃ g o, p = some ⟨g, o, none⟩ ∧ ∀ i, i < ts.length → w.cell? ⟨g, o + i, none⟩ = some (.int .i64 ts[i]!) := fun h0 => by
  obtain ⟨g, o, e, hg, hc⟩ := h h0
  exact ⟨g, o, e, fun i hi => by rw [hb.cell (p := ⟨g, _, none⟩) hg]; exact hc i hi⟩
theorem rowI_pl {W w : World} {p : Option Addr} {ts : List Int} (h : RowI W p ts) (hb : Below W.heap.size W w) : Pl w p ts := by
  cases ts with
  | nil => exact .inl rfl
  | cons y ys => obtain ⟨g, o, e, hc⟩ := rowI_at h hb (by simp); exact .inr ⟨g, o, e, hc⟩
theorem rowI_lt {W w : World} {p : Option Addr} {ts : List Int} (h : RowI W p ts) (hb : Below W.heap.size W w) : ts ≠ [] → ∀ g o, p = some ⟨g, o, none⟩ → g < w.heap.size ∧ g < W.heap.size := fun h0 g o e => by
  obtain ⟨g', o', e', hg, _⟩ := h (by cases ts with | nil => exact absurd rfl h0 | cons y ys => simp)
  rw [e'] at e
  injection e with e
  injection e with e _
  subst e
  exact ⟨Nat.lt_of_lt_of_le hg hb.size, hg⟩
theorem info_i64c : Info Try.prog 3 (.int .i64 0) 1 8 := by unfold Info; kernel_rfl
/-- A row of ints of one's own, handed on. -/
theorem to_own {w : World} {base m : Nat} {T : TypeId} {v : Value} {ts : List Int} (h : w.ownsRow base T 1 v m (ts.map (Value.int .i64))) (hm : ts.length = m) :
    ∃ p cap, v = .slice p m cap ∧ To w p cap ts ∧ ∀ g o, p = some ⟨g, o, none⟩ → base ≤ g ∧ g < w.heap.size := by
  rcases h.2 with ⟨rfl, h0⟩ | ⟨g, cap, cur, rfl, hb, hg, _, _, _, ht⟩
  · subst h0
    exact ⟨none, 0, rfl, .inl ⟨rfl, List.eq_nil_of_length_eq_zero hm, rfl⟩, fun g o e => by cases e⟩
  · obtain ⟨p, c, e, hp⟩ := pl_own h hm
    refine ⟨_, _, e, ?_, fun g' o' e' => ?_⟩
    · injection e with e1 _ e3
      subst e1
      rcases hp with hp | hp
      · exact .inr ⟨g, 0, rfl, fun i hi => by rw [hp] at hi; simp at hi⟩
      · exact .inr hp
    · injection e with e1 _ e3
      subst e1
      injection e' with e'
      injection e' with e' _
      subst e'
      exact ⟨hb, (Array.getElem?_eq_some_iff.1 hg).1⟩
end Go.Proofs.Ytfjadphgjjlhiaa
