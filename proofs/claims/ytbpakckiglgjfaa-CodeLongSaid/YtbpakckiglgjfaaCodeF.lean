
/- The walks of what says whether two programs are the same: 'Same'. No condition but that rows are not too long. -/
import Derived.Test.YtbpakckiglgjfaaCodeE
namespace Go.Proofs.Ytbpakckiglgjfaa
open Go.RowKit Cd
set_option linter.unusedVariables false
set_option maxRecDepth 100000 in
set_option maxHeartbeats 4000000 in
theorem same1_any {f g : FunV} {w : World} {v u : Value} (hv : OpsAt w v f.ops) (hu : OpsAt w u g.ops) (hn : f.ops.length < 1099511627776) :
    Calls Try.prog 45 #[.agg #[.int .i64 f.args, .int .i64 f.regs, v], .agg #[.int .i64 g.args, .int .i64 g.regs, u]] w fun e w' => (∃ r : Bool, e = .returned (.bool r) ∧ r = decide (f = g)) ∧ Below w.heap.size w w' := by
  have HEQ := Lib.hid (fun x y => eqops_any ((hv.alloc x).alloc y) ((hu.alloc x).alloc y) hn)
  have HB := Lib.hid (((Below.refl _ w).alloc (Nat.le_refl _) (.cells #[.int .i64 f.args, .int .i64 f.regs, v] 41)).alloc (by simp) (.cells #[.int .i64 g.args, .int .i64 g.regs, u] 41))
  obtain ⟨p1, c1, rfl⟩ := hv.slice
  obtain ⟨p2, c2, rfl⟩ := hu.slice
  clear hv hu
  obtain ⟨a0, a1, al⟩ := f
  obtain ⟨b0, b1, bl⟩ := g
  simp only at HEQ HB hn ⊢
  by_cases e0 : a0 = b0
  · subst e0
    by_cases e1 : a1 = b1
    · subst e1
      have hd : decide (FunV.mk a0 a1 al = FunV.mk a0 a1 bl) = decide (al = bl) := by
        by_cases h : al = bl
        · subst h; simp
        · rw [decide_eq_false h, decide_eq_false (fun e => h (congrArg FunV.ops e))]
      rw [hd]
      clear hd
      generalize decide (al = bl) = r at *
      go_enter Try.func45, Try.ntmps45
      go_wp2_with (go_at_call 46; ((with_reducible refine (HEQ.out _ _).mono ?_); rintro e w1 ⟨⟨r', rfl, rfl⟩, b1⟩))
      go_ret
      exact ⟨⟨_, rfl, rfl⟩, HB.out.step b1⟩
    · have hn' := Lib.hid (decide_eq_false (show ¬ FunV.mk a0 a1 al = FunV.mk a0 b1 bl from fun e => e1 (congrArg FunV.regs e)))
      have hb : (a1 == b1) = false := by simpa using e1
      clear e1 HEQ
      go_enter Try.func45, Try.ntmps45
      go_wp2
      go_ret
      exact ⟨⟨false, rfl, hn'.out.symm⟩, HB.out⟩
  · have hn' := Lib.hid (decide_eq_false (show ¬ FunV.mk a0 a1 al = FunV.mk b0 b1 bl from fun e => e0 (congrArg FunV.args e)))
    have hb : (a0 == b0) = false := by simpa using e0
    clear e0 HEQ
    go_enter Try.func45, Try.ntmps45
    go_wp2
    go_ret
    exact ⟨⟨false, rfl, hn'.out.symm⟩, HB.out⟩
set_option maxRecDepth 100000 in
set_option maxHeartbeats 4000000 in
theorem eqfuns_any {l m : List FunV} {w : World} {v u : Value} (hv : FunsAt w v l) (hu : FunsAt w u m) (hn : l.length < 1099511627776) (hll : ∀ f ∈ l, f.ops.length ≤ 200) :
    Calls Try.prog 44 #[v, u, .func (.func 45) #[] #[]] w fun e w' => (∃ r : Bool, e = .returned (.bool r) ∧ r = decide (l = m)) ∧ Below w.heap.size w w' := by
  obtain ⟨p1, c1, rfl, hS1⟩ := hv
  obtain ⟨p2, c2, rfl, hS2⟩ := hu
  have HS1 := Lib.hid hS1
  have HS2 := Lib.hid hS2
  have HLL := Lib.hid hll
  clear hS1 hS2 hll
  by_cases hlen : l.length = m.length
  · have hlen' : ((l.length : Int) == (m.length : Int)) = true := by simp [hlen]
    have HLEN := Lib.hid hlen
    clear hlen
    go_enter Try.func44, Try.ntmps44
    go_wp2
    clear hlen'
    generalize ((l.length : Int) != (m.length : Int)) = bz
    go_loopw [17] (fun u wr => EqRel l m w u wr) (fun u _ => ((l.length : Int) - intOf u).toNat)
    case atStart => exact ⟨0, by omega, rfl, rfl, Below.refl _ _⟩
    case round =>
      obtain ⟨k, hk1, rfl, htk, hb⟩ := hrel
      by_cases hk : k < l.length
      · have hk2 : k < m.length := by have := HLEN.out; omega
        obtain ⟨g1, o1, rfl, hg1, hx⟩ := HS1.out (by omega)
        obtain ⟨g2, o2, rfl, hg2, hy⟩ := HS2.out (by omega)
        obtain ⟨x0, x1, vo, x2, hvo⟩ := hx k hk
        obtain ⟨y0, y1, uo, y2, huo⟩ := hy k hk2
        have HSM := Lib.hid (fun x y => same1_any (f := l[k]) (g := m[k]) (((hvo.below hb).alloc x).alloc y) (((huo.below hb).alloc x).alloc y) (by have := HLL.out _ (List.getElem_mem hk); omega))
        rw [← hb.cell (p := ⟨g1, _, none⟩) hg1] at x0 x1 x2
        rw [← hb.cell (p := ⟨g2, _, none⟩) hg2] at y0 y1 y2
        obtain ⟨p3, c3, rfl⟩ := hvo.slice
        obtain ⟨p4, c4, rfl⟩ := huo.slice
        have hne := fun e => ne_of_at (a := l) (b := m) hk hk2 e
        have heq := fun e => take_succ_eq (a := l) (b := m) hk hk2 htk e
        have hki : (k : Int) < (m.length : Int) := by omega
        have hgl : g1 < wr.heap.size ∧ g2 < wr.heap.size := by have := hb.size; omega
        have HB := Lib.hid hb
        clear hx hy hb htk hvo huo
        generalize l[k] = fa at *
        generalize m[k] = fb at *
        have HNE := Lib.hid hne
        have HEQ := Lib.hid heq
        clear hne heq
        by_cases hfe : fa = fb
        · rw [decide_eq_true hfe] at HSM
          have hn := Lib.hid (HEQ.out hfe)
          clear HEQ HNE hfe
          generalize fa.args = a0 at *
          generalize fa.regs = a1 at *
          generalize fa.ops.length = a2 at *
          generalize fb.args = b0 at *
          generalize fb.regs = b1 at *
          generalize fb.ops.length = b2 at *
          go_wp2_with (go_at_call 45; ((with_reducible refine (HSM.out _ _).mono ?_); rintro e w1 ⟨⟨r', rfl, rfl⟩, hbe⟩; have HB1 := Lib.hid (((HB.out.alloc HB.out.size (.cells #[.int .i64 a0, .int .i64 a1, .slice p3 a2 c3] 41)).alloc (by have := HB.out.size; simp; omega) (.cells #[.int .i64 b0, .int .i64 b1, .slice p4 b2 c4] 41)).step hbe); clear hbe))
          go_roundw
          case rel => exact ⟨k + 1, by omega, rfl, hn.out, HB1.out⟩
          case measure => simp [intOf]; omega
        · rw [decide_eq_false hfe] at HSM
          have hn := Lib.hid (HNE.out hfe)
          clear HEQ HNE hfe
          generalize fa.args = a0 at *
          generalize fa.regs = a1 at *
          generalize fa.ops.length = a2 at *
          generalize fb.args = b0 at *
          generalize fb.regs = b1 at *
          generalize fb.ops.length = b2 at *
          go_wp2_with (go_at_call 45; ((with_reducible refine (HSM.out _ _).mono ?_); rintro e w1 ⟨⟨r', rfl, rfl⟩, hbe⟩; have HB1 := Lib.hid (((HB.out.alloc HB.out.size (.cells #[.int .i64 a0, .int .i64 a1, .slice p3 a2 c3] 41)).alloc (by have := HB.out.size; simp; omega) (.cells #[.int .i64 b0, .int .i64 b1, .slice p4 b2 c4] 41)).step hbe); clear hbe))
          go_ret
          exact ⟨⟨false, rfl, (decide_eq_false hn.out).symm⟩, HB1.out⟩
      · have : k = l.length := by omega
        subst this
        have HE := Lib.hid (eq_of_take HLEN.out htk)
        clear htk
        go_wp2
        go_ret
        exact ⟨⟨true, rfl, (decide_eq_true HE.out).symm⟩, hb⟩
  · have hlen' : ((l.length : Int) == (m.length : Int)) = false := by simpa using fun e => hlen (by omega)
    have HN := Lib.hid (show ¬ l = m from fun e => hlen (by rw [e]))
    clear hlen
    go_enter Try.func44, Try.ntmps44
    go_wp2
    go_ret
    exact ⟨⟨false, rfl, (decide_eq_false HN.out).symm⟩, Below.refl _ _⟩
set_option maxHeartbeats 1000000 in
theorem csame_any {l m : List FunV} {w : World} {v u : Value} (hv : FunsAt w v l) (hu : FunsAt w u m) (hl : Lim l) :
    Calls Try.prog 20 #[.agg #[v], .agg #[u]] w fun e w' => e = .returned (.bool (decide (l = m))) ∧ Below w.heap.size w w' := by
  have HE := Lib.hid (fun x y => eqfuns_any ((hv.alloc x).alloc y) ((hu.alloc x).alloc y) (by have := hl.1; omega) hl.2)
  have HB := Lib.hid (((Below.refl _ w).alloc (Nat.le_refl _) (.cells #[v] 24)).alloc (by simp) (.cells #[u] 24))
  obtain ⟨p1, c1, rfl⟩ := hv.slice
  obtain ⟨p2, c2, rfl⟩ := hu.slice
  clear hv hu
  generalize decide (l = m) = r at *
  go_enter Try.func20, Try.ntmps20
  go_wp2_with (go_at_call 44; ((with_reducible refine (HE.out _ _).mono ?_); rintro e w1 ⟨⟨r', rfl, rfl⟩, b1⟩))
  go_ret
  exact ⟨rfl, HB.out.step b1⟩
end Go.Proofs.Ytbpakckiglgjfaa
