
/- The walks of what says whether two programs are the same. No condition but that rows are not too long. -/
import Derived.Test.YtbpakckiglgjfaaCodeP
import Derived.Deep.QuietTactic
import Derived.BigQuiet
namespace Go.Proofs.Ytbpakckiglgjfaa
open Go.RowKit Cd
set_option linter.unusedVariables false
namespace Cd
theorem opV_ext {a b : OpV} (h1 : a.k = b.k) (h2 : a.d = b.d) (h3 : a.a = b.a) (h4 : a.b = b.b) (h5 : a.n = b.n) : a = b := by cases a; cases b; simp_all
instance : DecidableEq OpV := fun a b =>
  if h : a.k = b.k ∧ a.d = b.d ∧ a.a = b.a ∧ a.b = b.b ∧ a.n = b.n then isTrue (opV_ext h.1 h.2.1 h.2.2.1 h.2.2.2.1 h.2.2.2.2) else isFalse fun e => h (by subst e; exact ⟨rfl, rfl, rfl, rfl, rfl⟩)
theorem funV_ext {a b : FunV} (h1 : a.args = b.args) (h2 : a.regs = b.regs) (h3 : a.ops = b.ops) : a = b := by cases a; cases b; simp_all
instance : DecidableEq FunV := fun a b =>
  if h : a.args = b.args ∧ a.regs = b.regs ∧ a.ops = b.ops then isTrue (funV_ext h.1 h.2.1 h.2.2) else isFalse fun e => h (by subst e; exact ⟨rfl, rfl, rfl⟩)
theorem take_succ_eq {α : Type} {a b : List α} {i : Nat} (ha : i < a.length) (hb : i < b.length) (h : a.take i = b.take i) (e : a[i] = b[i]) : a.take (i + 1) = b.take (i + 1) := by
  rw [List.take_succ_eq_append_getElem ha, List.take_succ_eq_append_getElem hb, h, e]
theorem ne_of_at {α : Type} {a b : List α} {i : Nat} (ha : i < a.length) (hb : i < b.length) (e : ¬ a[i] = b[i]) : ¬ a = b := fun h => by subst h; exact e rfl
theorem eq_of_take {α : Type} {a b : List α} (hl : a.length = b.length) (h : a.take a.length = b.take a.length) : a = b := by
  rw [List.take_length, hl, List.take_length] at h; exact h
end Cd
def EqRel {α : Type} (a b : List α) (w : World) (u : Value) (wr : World) : Prop := ∃ i : Nat, i ≤ a.length ∧ u = .int .i64 i ∧ a.take i = b.take i ∧ Below w.heap.size w wr
theorem drewN_below' (w : World) (n : Nat) : Below w.heap.size w (w.drewN n) := ⟨rfl, rfl, rfl, Nat.le_refl _, fun _ _ => rfl⟩
set_option maxRecDepth 100000 in
set_option maxHeartbeats 4000000 in
theorem eqops_any {l m : List OpV} {w : World} {v u : Value} (hv : OpsAt w v l) (hu : OpsAt w u m) (hn : l.length < 1099511627776) :
    Calls Try.prog 46 #[v, u] w fun e w' => (∃ r : Bool, e = .returned (.bool r) ∧ r = decide (l = m)) ∧ Below w.heap.size w w' := by
  obtain ⟨p1, c1, rfl, hS1⟩ := hv
  obtain ⟨p2, c2, rfl, hS2⟩ := hu
  have HS1 := Lib.hid hS1
  have HS2 := Lib.hid hS2
  clear hS1 hS2
  by_cases hlen : l.length = m.length
  · have hlen' : ((l.length : Int) == (m.length : Int)) = true := by simp [hlen]
    have HLEN := Lib.hid hlen
    clear hlen
    go_enter Try.func46, Try.ntmps46
    go_wp2
    clear hlen'
    go_loopw [13] (fun u wr => EqRel l m w u wr) (fun u _ => ((l.length : Int) - intOf u).toNat)
    case atStart => exact ⟨0, by omega, rfl, rfl, Below.refl _ _⟩
    case round =>
      obtain ⟨k, hk1, rfl, htk, hb⟩ := hrel
      by_cases hk : k < l.length
      · have hk2 : k < m.length := by have := HLEN.out; omega
        obtain ⟨g1, o1, rfl, hg1, hx⟩ := HS1.out (by omega)
        obtain ⟨g2, o2, rfl, hg2, hy⟩ := HS2.out (by omega)
        have x0 := hx k hk 0 (by omega)
        have x1 := hx k hk 1 (by omega)
        have x2 := hx k hk 2 (by omega)
        have x3 := hx k hk 3 (by omega)
        have x4 := hx k hk 4 (by omega)
        have y0 := hy k hk2 0 (by omega)
        have y1 := hy k hk2 1 (by omega)
        have y2 := hy k hk2 2 (by omega)
        have y3 := hy k hk2 3 (by omega)
        have y4 := hy k hk2 4 (by omega)
        rw [← hb.cell (p := ⟨g1, _, none⟩) hg1] at x0 x1 x2 x3 x4
        rw [← hb.cell (p := ⟨g2, _, none⟩) hg2] at y0 y1 y2 y3 y4
        have hne := fun e => ne_of_at (a := l) (b := m) hk hk2 e
        have heq := fun e => take_succ_eq (a := l) (b := m) hk hk2 htk e
        have hki : (k : Int) < (m.length : Int) := by omega
        have HB := Lib.hid hb
        clear hx hy hb htk
        generalize l[k] = oa at *
        generalize m[k] = ob at *
        obtain ⟨a0, a1, a2, a3, a4⟩ := oa
        obtain ⟨b0, b1, b2, b3, b4⟩ := ob
        simp only [opA] at x0 x1 x2 x3 x4 y0 y1 y2 y3 y4
        simp at x0 x1 x2 x3 x4 y0 y1 y2 y3 y4
        have HNE := Lib.hid hne
        have HEQ := Lib.hid heq
        clear hne heq
        by_cases e0 : a0 = b0
        · subst e0
          by_cases e1 : a1 = b1
          · subst e1
            by_cases e2 : a2 = b2
            · subst e2
              by_cases e3 : a3 = b3
              · subst e3
                by_cases e4 : a4 = b4
                · subst e4
                  have hn := Lib.hid (HEQ.out rfl)
                  clear HEQ HNE
                  go_wp2
                  go_quiet (fail)
                  go_wp2
                  go_roundw
                  case rel => exact ⟨k + 1, by omega, rfl, hn.out, HB.out.trans ((drewN_below' wr _).mono HB.out.size)⟩
                  case measure => simp [intOf]; omega
                · as_aux_lemma =>
                  have hn := Lib.hid (HNE.out (fun h => e4 (congrArg OpV.n h)))
                  have hb' : (a4 == b4) = false := by simpa using e4
                  clear HEQ HNE e4
                  go_wp2
                  go_quiet (fail)
                  go_wp2
                  go_ret
                  exact ⟨⟨false, rfl, (decide_eq_false hn.out).symm⟩, HB.out.trans ((drewN_below' wr _).mono HB.out.size)⟩
              · as_aux_lemma =>
                have hn := Lib.hid (HNE.out (fun h => e3 (congrArg OpV.b h)))
                have hb' : (a3 == b3) = false := by simpa using e3
                clear HEQ HNE e3
                go_wp2
                go_quiet (fail)
                go_wp2
                go_ret
                exact ⟨⟨false, rfl, (decide_eq_false hn.out).symm⟩, HB.out.trans ((drewN_below' wr _).mono HB.out.size)⟩
            · as_aux_lemma =>
              have hn := Lib.hid (HNE.out (fun h => e2 (congrArg OpV.a h)))
              have hb' : (a2 == b2) = false := by simpa using e2
              clear HEQ HNE e2
              go_wp2
              go_quiet (fail)
              go_wp2
              go_ret
              exact ⟨⟨false, rfl, (decide_eq_false hn.out).symm⟩, HB.out.trans ((drewN_below' wr _).mono HB.out.size)⟩
          · as_aux_lemma =>
            have hn := Lib.hid (HNE.out (fun h => e1 (congrArg OpV.d h)))
            have hb' : (a1 == b1) = false := by simpa using e1
            clear HEQ HNE e1
            go_wp2
            go_quiet (fail)
            go_wp2
            go_ret
            exact ⟨⟨false, rfl, (decide_eq_false hn.out).symm⟩, HB.out.trans ((drewN_below' wr _).mono HB.out.size)⟩
        · as_aux_lemma =>
          have hn := Lib.hid (HNE.out (fun h => e0 (congrArg OpV.k h)))
          have hb' : (a0 == b0) = false := by simpa using e0
          clear HEQ HNE e0
          go_wp2
          go_quiet (fail)
          go_wp2
          go_ret
          exact ⟨⟨false, rfl, (decide_eq_false hn.out).symm⟩, HB.out.trans ((drewN_below' wr _).mono HB.out.size)⟩
      · have : k = l.length := by omega
        subst this
        have HE := Lib.hid (eq_of_take HLEN.out htk)
        clear htk
        go_wp2
        go_ret
        exact ⟨⟨true, rfl, (decide_eq_true HE.out).symm⟩, hb⟩
  · have hlen' : ((l.length : Int) == (m.length : Int)) = false := by simpa using fun e => hlen (by omega)
    have HN := Lib.hid (show ¬ l = m from fun e => hlen (by rw [e]))
    clear hlen
    go_enter Try.func46, Try.ntmps46
    go_wp2
    go_ret
    exact ⟨⟨false, rfl, (decide_eq_false HN.out).symm⟩, Below.refl _ _⟩
end Go.Proofs.Ytbpakckiglgjfaa
