import Derived.Test.YtpidhcogaoehhaaMgd
import Derived.Deep.QuietTactic
import Derived.BigQuiet
import Derived.Test.YtpidhcogaoehhaaCodeA

/- The walks of what says whether two programs are the same. No condition but that rows are not too long. -/
namespace Go.Proofs.Ytpidhcogaoehhaa
open Go.RowKit Cd
set_option linter.unusedVariables false
namespace Cd
theorem opV_ext {a b : OpV} (h1 : a.k = b.k) (h2 : a.d = b.d) (h3 : a.a = b.a) (h4 : a.b = b.b) (h5 : a.n = b.n) : a = b := by cases a; cases b; simp_all
instance : DecidableEq OpV := fun a b =>
  if h : a.k = b.k ∧ a.d = b.d ∧ a.a = b.a ∧ a.b = b.b ∧ a.n = b.n then isTrue (opV_ext h.1 h.2.1 h.2.2.1 h.2.2.2.1 h.2.2.2.2) else isFalse fun e => h (by subst e; exact ⟨rfl, rfl, rfl, rfl, rfl⟩)
theorem funV_ext {a b : FunV} (h1 : a.args = b.args) (h2 : a.regs = b.regs) (h3 : a.ops = b.ops) : a = b := by cases a; cases b; simp_all
instance : DecidableEq FunV := fun a b =>
  if h : a.args = b.args ∧ a.regs = b.regs ∧ a.ops = b.ops then isTrue (funV_ext h.1 h.2.1 h.2.2) else isFalse fun e => h (by subst e; exact ⟨rfl, rfl, rfl⟩)
theorem take_succ_eq {α : Type} {a b : List α} {i : Nat} (ha : i < a.length) (hb : i < b.length) (h : a.take i = b.take i) (e : a[i] = b[i]) : a.take (i + 1) = b.take (i + 1) := by
  rw [List.take_succ_eq_append_getElem ha, List.take_succ_eq_append_getElem hb, h, e]
theorem ne_of_at {α : Type} {a b : List α} {i : Nat} (ha : i < a.length) (hb : i < b.length) (e : ¬ a[i] = b[i]) : ¬ a = b := fun h => by subst h; exact e rfl
theorem eq_of_take {α : Type} {a b : List α} (hl : a.length = b.length) (h : a.take a.length = b.take a.length) : a = b := by
  rw [List.take_length, hl, List.take_length] at h; exact h
end Cd
def EqRel {α : Type} (a b : List α) (w : World) (u : Value) (wr : World) : Prop := ∃ i : Nat, i ≤ a.length ∧ u = .int .i64 i ∧ a.take i = b.take i ∧ Below w.heap.size w wr
theorem drewN_below' (w : World) (n : Nat) : Below w.heap.size w (w.drewN n) := ⟨rfl, rfl, rfl, Nat.le_refl _, fun _ _ => rfl⟩
end Go.Proofs.Ytpidhcogaoehhaa


/- The walk of the document's answer on whether a program has its form. No condition but that numbers fit their kinds and that rows are not too long. -/
namespace Go.Proofs.Ytpidhcogaoehhaa
open Go.RowKit Cd
set_option linter.unusedVariables false
def PreRel {α : Type} (l : List α) (bad : List α → Bool) (w : World) (u : Value) (wr : World) : Prop := ∃ i : Nat, i ≤ l.length ∧ u = .int .i64 i ∧ bad (l.take i) = false ∧ Below w.heap.size w wr
set_option maxRecDepth 100000 in
set_option maxHeartbeats 8000000 in
theorem rmay_go {l : List FunV} {W : World} {v : Value} (hv : FunsAt W v l) (hl : Lim l) (ho : OkP l) :
    Calls Try.prog 19 #[.agg #[v]] W fun e w' => ∃ r : Bool, e = .returned (.bool r) ∧ r = mayB l ∧ Below W.heap.size W w' := by
  have HB0 := Lib.hid ((Below.refl _ W).alloc (Nat.le_refl _) (.cells #[v] 24))
  have HT1 := Lib.hid (Blk.new W 24 #[v])
  have HV := Lib.hid hv
  have HLL := Lib.hid hl.2
  have HOK := Lib.hid ho
  have hl60 := hl.1
  have e0 : mayB l = (decide (l.length ≤ 16) && !badF l) := by unfold mayB; rw [badF_not]; simp
  obtain ⟨p1, c1, rfl⟩ := hv.slice
  clear hv hl ho
  by_cases h16 : 16 < l.length
  · have h16' : (16 : Int) < (l.length : Int) := by omega
    have e1 : decide (l.length ≤ 16) = false := decide_eq_false (by omega)
    rw [e1] at e0
    have E0 := Lib.hid e0
    clear e0 e1 h16 HV HT1
    generalize l.length = n at *
    go_enter Try.func19, Try.ntmps19
    go_wp2
    go_ret
    exact ⟨false, rfl, by rw [E0.out]; simp, HB0.out⟩
  · have h16' : decide ((16 : Int) < (l.length : Int)) = false := decide_eq_false (by omega)
    have e1 : decide (l.length ≤ 16) = true := decide_eq_true (by omega)
    rw [e1] at e0
    have E0 := Lib.hid e0
    clear e0 e1
    go_enter Try.func19, Try.ntmps19
    go_wp2
    have hz0 : PreRel l badF (W.alloc (.cells #[.slice p1 l.length c1] 24)) (.int .i64 0) (W.alloc (.cells #[.slice p1 l.length c1] 24)) := ⟨0, by omega, rfl, rfl, Below.refl _ _⟩
    clear h16'
    generalize W.alloc (.cells #[.slice p1 l.length c1] 24) = w0 at *
    go_loopw [3] (fun i wr => PreRel l badF w0 i wr) (fun i _ => ((l.length : Int) - intOf i).toNat)
    case atStart => exact hz0
    case round =>
      clear hz0
      obtain ⟨k, hk1, rfl, htk, hb⟩ := hrel
      have HB := Lib.hid hb
      have z0 : wr.cell? ⟨W.heap.size, 0, none⟩ = some (.slice p1 l.length c1) := (HT1.out.below hb).cell 0
      have hzl := (HT1.out.below hb).lt
      by_cases hk : k < l.length
      · obtain ⟨p1', c1', e1, hx⟩ := HV.out
        injection e1 with e1 e2 e3
        subst e1 e3
        obtain ⟨g1, o1, rfl, hg1, hx⟩ := hx (by omega)
        obtain ⟨x0, x1, vo, x2, hvo⟩ := hx k hk
        have hbW := HB0.out.trans (hb.mono HB0.out.size)
        rw [← hbW.cell (p := ⟨g1, _, none⟩) hg1] at x0 x1 x2
        obtain ⟨p3, c3, rfl⟩ := hvo.slice
        have htk2 := badF_take hk
        have hof := fun e => badF_of hk e
        rw [htk] at htk2
        have hfe := funB_eq l[k]
        have hki1 : (k : Int) < (l.length : Int) := by omega
        have hki0 : (0 : Int) ≤ (k : Int) := by omega
        have hgl : g1 < wr.heap.size := by have := hbW.size; omega
        have HVO := Lib.hid hvo
        have HBW := Lib.hid hbW
        have hfl := HLL.out _ (List.getElem_mem hk)
        have hok := HOK.out _ (List.getElem_mem hk)
        have HOO := Lib.hid hok.2.2
        have HF := Lib.hid (Blk.new wr 47 #[.int .i64 l[k].args, .int .i64 l[k].regs, .slice p3 l[k].ops.length c3])
        clear hx hb htk hvo hbW hok
        generalize l[k] = f at *
        obtain ⟨a0, a1, al⟩ := f
        simp only at x0 x1 x2 HVO hfl HF HOO hfe
        have RA := Lib.hid (rreg_any a0)
        have RB := Lib.hid (rreg_any a1)
        have HTK := Lib.hid htk2
        have HOF := Lib.hid hof
        clear htk2 hof
        cases ha : regB a0 with
        | false =>
          rw [ha] at RA hfe
          have hR := Lib.hid (show false = mayB l by rw [E0.out, HOF.out (by rw [hfe]; simp)]; simp)
          clear ha hfe
          go_wp2_with (first | (go_at_call 35; ((with_reducible refine (RA.out _).mono ?_); rintro e w' ⟨rfl, rfl⟩)) | (go_at_call 35; ((with_reducible refine (RB.out _).mono ?_); rintro e w' ⟨rfl, rfl⟩)))
          go_ret
          exact ⟨false, rfl, hR.out, HB0.out.trans ((HB.out.alloc HB.out.size _).mono HB0.out.size)⟩
        | true =>
          rw [ha] at RA hfe
          cases hb : regB a1 with
          | false =>
            rw [hb] at RB hfe
            have hR := Lib.hid (show false = mayB l by rw [E0.out, HOF.out (by rw [hfe]; simp)]; simp)
            clear ha hb hfe
            go_wp2_with (first | (go_at_call 35; ((with_reducible refine (RA.out _).mono ?_); rintro e w' ⟨rfl, rfl⟩)) | (go_at_call 35; ((with_reducible refine (RB.out _).mono ?_); rintro e w' ⟨rfl, rfl⟩)))
            go_ret
            exact ⟨false, rfl, hR.out, HB0.out.trans ((HB.out.alloc HB.out.size _).mono HB0.out.size)⟩
          | true =>
            rw [hb] at RB hfe
            by_cases h64 : 64 < al.length
            · have e : decide (al.length ≤ 64) = false := by simp; omega
              rw [e] at hfe
              have hR := Lib.hid (show false = mayB l by rw [E0.out, HOF.out (by rw [hfe]; simp)]; simp)
              have h64' : (64 : Int) < (al.length : Int) := by omega
              clear ha hb hfe h64 e
              go_wp2_with (first | (go_at_call 35; ((with_reducible refine (RA.out _).mono ?_); rintro e w' ⟨rfl, rfl⟩)) | (go_at_call 35; ((with_reducible refine (RB.out _).mono ?_); rintro e w' ⟨rfl, rfl⟩)))
              go_ret
              exact ⟨false, rfl, hR.out, HB0.out.trans ((HB.out.alloc HB.out.size _).mono HB0.out.size)⟩
            · have e : decide (al.length ≤ 64) = true := by simp; omega
              rw [e] at hfe
              have HFE := Lib.hid (show funB ⟨a0, a1, al⟩ = !badO al by rw [hfe]; simp)
              have h64' : decide ((64 : Int) < (al.length : Int)) = false := decide_eq_false (by omega)
              clear ha hb hfe h64 e
              go_wp2_with (first | (go_at_call 35; ((with_reducible refine (RA.out _).mono ?_); rintro e w' ⟨rfl, rfl⟩)) | (go_at_call 35; ((with_reducible refine (RB.out _).mono ?_); rintro e w' ⟨rfl, rfl⟩)))
              have hz1 : PreRel al badO (wr.alloc (.cells #[.int .i64 a0, .int .i64 a1, .slice p3 al.length c3] 47)) (.int .i64 0) (wr.alloc (.cells #[.int .i64 a0, .int .i64 a1, .slice p3 al.length c3] 47)) := ⟨0, by omega, rfl, rfl, Below.refl _ _⟩
              have HB1 := Lib.hid (HB.out.alloc HB.out.size (.cells #[.int .i64 a0, .int .i64 a1, .slice p3 al.length c3] 47))
              have HVW := Lib.hid ((HVO.out.below HBW.out).alloc (.cells #[.int .i64 a0, .int .i64 a1, .slice p3 al.length c3] 47))
              clear x0 x1 x2 z0 h64' RA RB HVO HBW HB hgl hzl
              generalize hwf : wr.alloc (.cells #[.int .i64 a0, .int .i64 a1, .slice p3 al.length c3] 47) = wf at *
              generalize wr.heap.size = fb at *
              clear hwf
              go_loopw [5] (fun i wq => PreRel al badO wf i wq) (fun i _ => ((al.length : Int) - intOf i).toNat)
              case atStart => exact hz1
              case round =>
                clear hz1
                obtain ⟨j, hj1, rfl, htj, hb2⟩ := hrel
                have HB2 := Lib.hid hb2
                have u2 : wr.cell? ⟨fb, 2, none⟩ = some (.slice p3 al.length c3) := (HF.out.below hb2).cell 2
                by_cases hj : j < al.length
                · obtain ⟨p5, c5, e5, hx⟩ := HVW.out
                  injection e5 with e5 e6 e7
                  subst e5 e7
                  obtain ⟨g3, o3, rfl, hg3, hx⟩ := hx (by omega)
                  have x0 := hx j hj 0 (by omega)
                  have x1 := hx j hj 1 (by omega)
                  have x2 := hx j hj 2 (by omega)
                  have x3 := hx j hj 3 (by omega)
                  have x4 := hx j hj 4 (by omega)
                  rw [← hb2.cell (p := ⟨g3, _, none⟩) hg3] at x0 x1 x2 x3 x4
                  have HR := Lib.hid (fun w => rop_any al[j] (HOO.out _ (List.getElem_mem hj)) w)
                  have htj2 := badO_take hj
                  have hoj := fun e => badO_of hj e
                  rw [htj] at htj2
                  have hki1 : (j : Int) < (al.length : Int) := by omega
                  have hki0 : (0 : Int) ≤ (j : Int) := by omega
                  clear hx hb2 htj
                  generalize al[j] = o at *
                  obtain ⟨q0, q1, q2, q3, q4⟩ := o
                  simp only [opA] at x0 x1 x2 x3 x4 HR
                  simp at x0 x1 x2 x3 x4
                  cases he : formB ⟨q0, q1, q2, q3, q4⟩ with
                  | false =>
                    rw [he] at HR
                    have hR := Lib.hid (show false = mayB l by rw [E0.out, HOF.out (by rw [HFE.out, hoj he]; rfl)]; simp)
                    clear he hoj htj2
                    go_wp2_with (go_at_call 36; ((with_reducible refine (HR.out _).mono ?_); rintro e w9 ⟨rfl, b9⟩))
                    go_ret
                    exact ⟨false, rfl, hR.out, HB0.out.trans ((HB1.out.trans ((HB2.out.step b9).mono HB1.out.size)).mono HB0.out.size)⟩
                  | true =>
                    rw [he] at HR htj2
                    have HTJ := Lib.hid htj2
                    clear he hoj htj2
                    go_wp2_with (go_at_call 36; ((with_reducible refine (HR.out _).mono ?_); rintro e w9 ⟨rfl, b9⟩; have HB9 := Lib.hid (HB2.out.step b9); clear b9))
                    go_roundw
                    case rel => exact ⟨j + 1, by omega, rfl, by rw [HTJ.out]; rfl, HB9.out⟩
                    case measure => simp [intOf]; omega
                · have : j = al.length := by omega
                  subst this
                  rw [List.take_length] at htj
                  have HTJ := Lib.hid htj
                  clear htj hb2 HF HVW
                  go_wp2
                  go_roundw
                  case rel => exact ⟨k + 1, by omega, rfl, by rw [HTK.out, HFE.out, HTJ.out]; rfl, HB1.out.trans (HB2.out.mono HB1.out.size)⟩
                  case measure => simp [intOf]; omega
      · have : k = l.length := by omega
        subst this
        rw [List.take_length] at htk
        have hR := Lib.hid (show true = mayB l by rw [E0.out, htk]; rfl)
        clear htk hb
        go_wp2
        go_ret
        exact ⟨true, rfl, hR.out, HB0.out.trans (HB.out.mono HB0.out.size)⟩
theorem rmay_any {l : List FunV} {W : World} {v : Value} (hv : FunsAt W v l) (hl : Lim l) (ho : OkP l) :
    Calls Try.prog 19 #[.agg #[v]] W fun e w' => e = .returned (.bool (mayB l)) ∧ Below W.heap.size W w' :=
  (rmay_go hv hl ho).mono fun e w' ⟨r, he, hr, hb⟩ => ⟨by rw [he, hr], hb⟩
end Go.Proofs.Ytpidhcogaoehhaa
