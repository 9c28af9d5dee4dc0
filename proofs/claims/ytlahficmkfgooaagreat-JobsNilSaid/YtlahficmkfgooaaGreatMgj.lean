import Derived.Test.YtlahficmkfgooaaGreatMgd
import Derived.Deep.QuietTactic
import Derived.BigQuiet
import Derived.Test.YtlahficmkfgooaaGreatCodeA
import Derived.Test.YtlahficmkfgooaaGreatChkF
import Derived.Test.YtlahficmkfgooaaGreatMgi
import Derived.Test.YtlahficmkfgooaaGreatMgg
import Derived.Test.YtlahficmkfgooaaGreatMgf
import Derived.Deep.MidRow
import Derived.ArgAppend

/- The walks of what says whether two programs are the same. No condition but that rows are not too long. -/
namespace Go.Proofs.YtlahficmkfgooaaGreat
open Go.RowKit Cd
set_option linter.unusedVariables false
namespace Cd
theorem opV_ext {a b : OpV} (h1 : a.k = b.k) (h2 : a.d = b.d) (h3 : a.a = b.a) (h4 : a.b = b.b) (h5 : a.n = b.n) : a = b := by cases a; cases b; simp_all
instance : DecidableEq OpV := fun a b =>
  if h : a.k = b.k ∧ a.d = b.d ∧ a.a = b.a ∧ a.b = b.b ∧ a.n = b.n then isTrue (opV_ext h.1 h.2.1 h.2.2.1 h.2.2.2.1 h.2.2.2.2) else isFalse fun e => h (by subst e; exact ⟨rfl, rfl, rfl, rfl, rfl⟩)
theorem funV_ext {a b : FunV} (h1 : a.args = b.args) (h2 : a.regs = b.regs) (h3 : a.ops = b.ops) : a = b := by cases a; cases b; simp_all
instance : DecidableEq FunV := fun a b =>
  if h : a.args = b.args ∧ a.regs = b.regs ∧ a.ops = b.ops then isTrue (funV_ext h.1 h.2.1 h.2.2) else isFalse fun e => h (by subst e; exact ⟨rfl, rfl, rfl⟩)
theorem take_succ_eq {α : Type} {a b : List α} {i : Nat} (ha : i < a.length) (hb : i < b.length) (h : a.take i = b.take i) (e : a[i] = b[i]) : a.take (i + 1) = b.take (i + 1) := by
  rw [List.take_succ_eq_append_getElem ha, List.take_succ_eq_append_getElem hb, h, e]
theorem ne_of_at {α : Type} {a b : List α} {i : Nat} (ha : i < a.length) (hb : i < b.length) (e : ¬ a[i] = b[i]) : ¬ a = b := fun h => by subst h; exact e rfl
theorem eq_of_take {α : Type} {a b : List α} (hl : a.length = b.length) (h : a.take a.length = b.take a.length) : a = b := by
  rw [List.take_length, hl, List.take_length] at h; exact h
end Cd
def EqRel {α : Type} (a b : List α) (w : World) (u : Value) (wr : World) : Prop := ∃ i : Nat, i ≤ a.length ∧ u = .int .i64 i ∧ a.take i = b.take i ∧ Below w.heap.size w wr
theorem drewN_below' (w : World) (n : Nat) : Below w.heap.size w (w.drewN n) := ⟨rfl, rfl, rfl, Nat.le_refl _, fun _ _ => rfl⟩
end Go.Proofs.YtlahficmkfgooaaGreat


/- The walk of the document's answer on whether a program has its form. No condition but that numbers fit their kinds and that rows are not too long. -/
namespace Go.Proofs.YtlahficmkfgooaaGreat
open Go.RowKit Cd
set_option linter.unusedVariables false
def PreRel {α : Type} (l : List α) (bad : List α → Bool) (w : World) (u : Value) (wr : World) : Prop := ∃ i : Nat, i ≤ l.length ∧ u = .int .i64 i ∧ bad (l.take i) = false ∧ Below w.heap.size w wr
set_option maxRecDepth 100000 in
set_option maxHeartbeats 8000000 in
theorem rmay_go {l : List FunV} {W : World} {v : Value} (hv : FunsAt W v l) (hl : Lim l) (ho : OkP l) :
    Calls Tryz.prog 124 #[.agg #[v]] W fun e w' => ∃ r : Bool, e = .returned (.bool r) ∧ r = mayB l ∧ Below W.heap.size W w' := by
  have HB0 := Lib.hid ((Below.refl _ W).alloc (Nat.le_refl _) (.cells #[v] 133))
  have HT1 := Lib.hid (Blk.new W 133 #[v])
  have HV := Lib.hid hv
  have HLL := Lib.hid hl.2
  have HOK := Lib.hid ho
  have hl60 := hl.1
  have e0 : mayB l = (decide (l.length ≤ 16) && !badF l) := by unfold mayB; rw [badF_not]; simp
  obtain ⟨p1, c1, rfl⟩ := hv.slice
  clear hv hl ho
  by_cases h16 : 16 < l.length
  · have h16' : (16 : Int) < (l.length : Int) := by omega
    have e1 : decide (l.length ≤ 16) = false := decide_eq_false (by omega)
    rw [e1] at e0
    have E0 := Lib.hid e0
    clear e0 e1 h16 HV HT1
    generalize l.length = n at *
    go_enter Tryz.func124, Tryz.ntmps124
    go_wp2
    go_ret
    exact ⟨false, rfl, by rw [E0.out]; simp, HB0.out⟩
  · have h16' : decide ((16 : Int) < (l.length : Int)) = false := decide_eq_false (by omega)
    have e1 : decide (l.length ≤ 16) = true := decide_eq_true (by omega)
    rw [e1] at e0
    have E0 := Lib.hid e0
    clear e0 e1
    go_enter Tryz.func124, Tryz.ntmps124
    go_wp2
    have hz0 : PreRel l badF (W.alloc (.cells #[.slice p1 l.length c1] 133)) (.int .i64 0) (W.alloc (.cells #[.slice p1 l.length c1] 133)) := ⟨0, by omega, rfl, rfl, Below.refl _ _⟩
    clear h16'
    generalize W.alloc (.cells #[.slice p1 l.length c1] 133) = w0 at *
    go_loopw [3] (fun i wr => PreRel l badF w0 i wr) (fun i _ => ((l.length : Int) - intOf i).toNat)
    case atStart => exact hz0
    case round =>
      clear hz0
      obtain ⟨k, hk1, rfl, htk, hb⟩ := hrel
      have HB := Lib.hid hb
      have z0 : wr.cell? ⟨W.heap.size, 0, none⟩ = some (.slice p1 l.length c1) := (HT1.out.below hb).cell 0
      have hzl := (HT1.out.below hb).lt
      by_cases hk : k < l.length
      · obtain ⟨p1', c1', e1, hx⟩ := HV.out
        injection e1 with e1 e2 e3
        subst e1 e3
        obtain ⟨g1, o1, rfl, hg1, hx⟩ := hx (by omega)
        obtain ⟨x0, x1, vo, x2, hvo⟩ := hx k hk
        have hbW := HB0.out.trans (hb.mono HB0.out.size)
        rw [← hbW.cell (p := ⟨g1, _, none⟩) hg1] at x0 x1 x2
        obtain ⟨p3, c3, rfl⟩ := hvo.slice
        have htk2 := badF_take hk
        have hof := fun e => badF_of hk e
        rw [htk] at htk2
        have hfe := funB_eq l[k]
        have hki1 : (k : Int) < (l.length : Int) := by omega
        have hki0 : (0 : Int) ≤ (k : Int) := by omega
        have hgl : g1 < wr.heap.size := by have := hbW.size; omega
        have HVO := Lib.hid hvo
        have HBW := Lib.hid hbW
        have hfl := HLL.out _ (List.getElem_mem hk)
        have hok := HOK.out _ (List.getElem_mem hk)
        have HOO := Lib.hid hok.2.2
        have HF := Lib.hid (Blk.new wr 168 #[.int .i64 l[k].args, .int .i64 l[k].regs, .slice p3 l[k].ops.length c3])
        clear hx hb htk hvo hbW hok
        generalize l[k] = f at *
        obtain ⟨a0, a1, al⟩ := f
        simp only at x0 x1 x2 HVO hfl HF HOO hfe
        have RA := Lib.hid (rreg_any a0)
        have RB := Lib.hid (rreg_any a1)
        have HTK := Lib.hid htk2
        have HOF := Lib.hid hof
        clear htk2 hof
        cases ha : regB a0 with
        | false =>
          rw [ha] at RA hfe
          have hR := Lib.hid (show false = mayB l by rw [E0.out, HOF.out (by rw [hfe]; simp)]; simp)
          clear ha hfe
          go_wp2_with (first | (go_at_call 145; ((with_reducible refine (RA.out _).mono ?_); rintro e w' ⟨rfl, rfl⟩)) | (go_at_call 145; ((with_reducible refine (RB.out _).mono ?_); rintro e w' ⟨rfl, rfl⟩)))
          go_ret
          exact ⟨false, rfl, hR.out, HB0.out.trans ((HB.out.alloc HB.out.size _).mono HB0.out.size)⟩
        | true =>
          rw [ha] at RA hfe
          cases hb : regB a1 with
          | false =>
            rw [hb] at RB hfe
            have hR := Lib.hid (show false = mayB l by rw [E0.out, HOF.out (by rw [hfe]; simp)]; simp)
            clear ha hb hfe
            go_wp2_with (first | (go_at_call 145; ((with_reducible refine (RA.out _).mono ?_); rintro e w' ⟨rfl, rfl⟩)) | (go_at_call 145; ((with_reducible refine (RB.out _).mono ?_); rintro e w' ⟨rfl, rfl⟩)))
            go_ret
            exact ⟨false, rfl, hR.out, HB0.out.trans ((HB.out.alloc HB.out.size _).mono HB0.out.size)⟩
          | true =>
            rw [hb] at RB hfe
            by_cases h64 : 64 < al.length
            · have e : decide (al.length ≤ 64) = false := by simp; omega
              rw [e] at hfe
              have hR := Lib.hid (show false = mayB l by rw [E0.out, HOF.out (by rw [hfe]; simp)]; simp)
              have h64' : (64 : Int) < (al.length : Int) := by omega
              clear ha hb hfe h64 e
              go_wp2_with (first | (go_at_call 145; ((with_reducible refine (RA.out _).mono ?_); rintro e w' ⟨rfl, rfl⟩)) | (go_at_call 145; ((with_reducible refine (RB.out _).mono ?_); rintro e w' ⟨rfl, rfl⟩)))
              go_ret
              exact ⟨false, rfl, hR.out, HB0.out.trans ((HB.out.alloc HB.out.size _).mono HB0.out.size)⟩
            · have e : decide (al.length ≤ 64) = true := by simp; omega
              rw [e] at hfe
              have HFE := Lib.hid (show funB ⟨a0, a1, al⟩ = !badO al by rw [hfe]; simp)
              have h64' : decide ((64 : Int) < (al.length : Int)) = false := decide_eq_false (by omega)
              clear ha hb hfe h64 e
              go_wp2_with (first | (go_at_call 145; ((with_reducible refine (RA.out _).mono ?_); rintro e w' ⟨rfl, rfl⟩)) | (go_at_call 145; ((with_reducible refine (RB.out _).mono ?_); rintro e w' ⟨rfl, rfl⟩)))
              have hz1 : PreRel al badO (wr.alloc (.cells #[.int .i64 a0, .int .i64 a1, .slice p3 al.length c3] 168)) (.int .i64 0) (wr.alloc (.cells #[.int .i64 a0, .int .i64 a1, .slice p3 al.length c3] 168)) := ⟨0, by omega, rfl, rfl, Below.refl _ _⟩
              have HB1 := Lib.hid (HB.out.alloc HB.out.size (.cells #[.int .i64 a0, .int .i64 a1, .slice p3 al.length c3] 168))
              have HVW := Lib.hid ((HVO.out.below HBW.out).alloc (.cells #[.int .i64 a0, .int .i64 a1, .slice p3 al.length c3] 168))
              clear x0 x1 x2 z0 h64' RA RB HVO HBW HB hgl hzl
              generalize hwf : wr.alloc (.cells #[.int .i64 a0, .int .i64 a1, .slice p3 al.length c3] 168) = wf at *
              generalize wr.heap.size = fb at *
              clear hwf
              go_loopw [5] (fun i wq => PreRel al badO wf i wq) (fun i _ => ((al.length : Int) - intOf i).toNat)
              case atStart => exact hz1
              case round =>
                clear hz1
                obtain ⟨j, hj1, rfl, htj, hb2⟩ := hrel
                have HB2 := Lib.hid hb2
                have u2 : wr.cell? ⟨fb, 2, none⟩ = some (.slice p3 al.length c3) := (HF.out.below hb2).cell 2
                by_cases hj : j < al.length
                · obtain ⟨p5, c5, e5, hx⟩ := HVW.out
                  injection e5 with e5 e6 e7
                  subst e5 e7
                  obtain ⟨g3, o3, rfl, hg3, hx⟩ := hx (by omega)
                  have x0 := hx j hj 0 (by omega)
                  have x1 := hx j hj 1 (by omega)
                  have x2 := hx j hj 2 (by omega)
                  have x3 := hx j hj 3 (by omega)
                  have x4 := hx j hj 4 (by omega)
                  rw [← hb2.cell (p := ⟨g3, _, none⟩) hg3] at x0 x1 x2 x3 x4
                  have HR := Lib.hid (fun w => rop_any al[j] (HOO.out _ (List.getElem_mem hj)) w)
                  have htj2 := badO_take hj
                  have hoj := fun e => badO_of hj e
                  rw [htj] at htj2
                  have hki1 : (j : Int) < (al.length : Int) := by omega
                  have hki0 : (0 : Int) ≤ (j : Int) := by omega
                  clear hx hb2 htj
                  generalize al[j] = o at *
                  obtain ⟨q0, q1, q2, q3, q4⟩ := o
                  simp only [opA] at x0 x1 x2 x3 x4 HR
                  simp at x0 x1 x2 x3 x4
                  cases he : formB ⟨q0, q1, q2, q3, q4⟩ with
                  | false =>
                    rw [he] at HR
                    have hR := Lib.hid (show false = mayB l by rw [E0.out, HOF.out (by rw [HFE.out, hoj he]; rfl)]; simp)
                    clear he hoj htj2
                    go_wp2_with (go_at_call 146; ((with_reducible refine (HR.out _).mono ?_); rintro e w9 ⟨rfl, b9⟩))
                    go_ret
                    exact ⟨false, rfl, hR.out, HB0.out.trans ((HB1.out.trans ((HB2.out.step b9).mono HB1.out.size)).mono HB0.out.size)⟩
                  | true =>
                    rw [he] at HR htj2
                    have HTJ := Lib.hid htj2
                    clear he hoj htj2
                    go_wp2_with (go_at_call 146; ((with_reducible refine (HR.out _).mono ?_); rintro e w9 ⟨rfl, b9⟩; have HB9 := Lib.hid (HB2.out.step b9); clear b9))
                    go_roundw
                    case rel => exact ⟨j + 1, by omega, rfl, by rw [HTJ.out]; rfl, HB9.out⟩
                    case measure => simp [intOf]; omega
                · have : j = al.length := by omega
                  subst this
                  rw [List.take_length] at htj
                  have HTJ := Lib.hid htj
                  clear htj hb2 HF HVW
                  go_wp2
                  go_roundw
                  case rel => exact ⟨k + 1, by omega, rfl, by rw [HTK.out, HFE.out, HTJ.out]; rfl, HB1.out.trans (HB2.out.mono HB1.out.size)⟩
                  case measure => simp [intOf]; omega
      · have : k = l.length := by omega
        subst this
        rw [List.take_length] at htk
        have hR := Lib.hid (show true = mayB l by rw [E0.out, htk]; rfl)
        clear htk hb
        go_wp2
        go_ret
        exact ⟨true, rfl, hR.out, HB0.out.trans (HB.out.mono HB0.out.size)⟩
theorem rmay_any {l : List FunV} {W : World} {v : Value} (hv : FunsAt W v l) (hl : Lim l) (ho : OkP l) :
    Calls Tryz.prog 124 #[.agg #[v]] W fun e w' => e = .returned (.bool (mayB l)) ∧ Below W.heap.size W w' :=
  (rmay_go hv hl ho).mono fun e w' ⟨r, he, hr, hb⟩ => ⟨by rw [he, hr], hb⟩
end Go.Proofs.YtlahficmkfgooaaGreat


/- The walks of the document's 'May' and 'Input'. No condition but that rows are not too long and numbers fit their kinds. -/
namespace Go.Proofs.YtlahficmkfgooaaGreat
open Go.RowKit Cd
set_option linter.unusedVariables false
set_option linter.unusedSimpArgs false
structure RmW (W : World) (x : Value) (wr : World) : Prop where
  t0 : Blk wr W.heap.size 133 #[x]
  bel : Below W.heap.size W wr
theorem RmW.step {W : World} {x : Value} {w w' : World} (h : RmW W x w) (k : Below w.heap.size w w') : RmW W x w' := ⟨h.t0.below k, h.bel.step k⟩
def RmRel (W : World) (l : List FunV) (x u : Value) (wr : World) : Prop := ∃ i : Nat, i ≤ l.length ∧ u = .int .i64 i ∧ (∀ j (hj : j < l.length), j < i → funE l l[j] = none) ∧ RmW W x wr
structure RmF (W : World) (x : Value) (F : Nat) (f : FunV) (vo : Value) (wr : World) : Prop where
  rm : RmW W x wr
  f : Blk wr F 168 #[.int .i64 f.args, .int .i64 f.regs, vo]
def RmRel2 (W : World) (l : List FunV) (x : Value) (F : Nat) (f : FunV) (vo : Value) (u : Value) (wr : World) : Prop := ∃ k : Nat, k ≤ f.ops.length ∧ u = .int .i64 k ∧ (∀ j (hj : j < f.ops.length), j < k → opE l f f.ops[j] = 0) ∧ RmF W x F f vo wr
def RMayPost (W : World) (l : List FunV) (e : Ending) (w' : World) : Prop := ∃ (c : Int) (fn op : Nat), e = .returned (.tuple #[.int .i64 c, .int .i64 fn, .int .i64 op]) ∧ lookE l = (c, fn, op) ∧ Below W.heap.size W w'
theorem lk_form2 {l : List FunV} (h : mayB l = true) : l.length ≤ 16 ∧ ∀ f ∈ l, (0 ≤ f.args ∧ f.args ≤ 16) ∧ (0 ≤ f.regs ∧ f.regs ≤ 16) ∧ f.ops.length ≤ 64 ∧ ∀ o ∈ f.ops, formB o = true := lk_form h
set_option maxRecDepth 100000 in
set_option maxHeartbeats 8000000 in
theorem rmay11_any {W : World} {x : Value} {l : List FunV} (hx : FunsAt W x l) (hl : Lim l) (ho : OkP l) : Calls Tryz.prog 112 #[.agg #[x]] W (RMayPost W l) := by
  have HV := Lib.hid hx
  have HL0 : Hid (RmW W x (W.alloc (.cells #[x] 133))) := Lib.hid ⟨Blk.new _ _ _, (Below.refl _ W).alloc (Nat.le_refl _) _⟩
  have HM := Lib.hid (rmay_any (hx.alloc (.cells #[x] 133)) hl ho)
  obtain ⟨p, cap, rfl⟩ := hx.slice
  have HLI := Lib.hid hl
  have HOK := Lib.hid ho
  clear hx hl ho
  cases hm : mayB l with
  | false =>
    rw [hm] at HM
    have hE : lookE l = (8, 0, 0) := by unfold lookE; rw [if_pos hm]
    clear hm
    as_aux_lemma =>
    go_enter Tryz.func112, Tryz.ntmps112
    go_wp2_with (go_at_call 124; ((with_reducible refine HM.out.mono ?_); rintro e w1 ⟨rfl, b1⟩))
    go_ret3
    exact ⟨8, 0, 0, rfl, hE, (HL0.out.step b1).bel⟩
  | true =>
    rw [hm] at HM
    obtain ⟨hm16, hmf⟩ := lk_form hm
    have HMF := Lib.hid hmf
    clear hmf
    by_cases hne : l = []
    · have hE : lookE l = (110, 0, 0) := by unfold lookE; rw [if_neg (by rw [hm]; decide), if_pos hne]
      subst hne
      clear hm HMF HOK HLI
      simp only [List.length_nil] at *
      as_aux_lemma =>
      go_enter Tryz.func112, Tryz.ntmps112
      go_wp2_with (go_at_call 124; ((with_reducible refine HM.out.mono ?_); rintro e w1 ⟨rfl, b1⟩; have HL1 := Lib.hid (HL0.out.step b1); have c00 : w1.cell? ⟨W.heap.size, 0, none⟩ = some (.slice p 0 cap) := HL1.out.t0.cell 0; clear b1))
      go_ret3
      exact ⟨110, 0, 0, rfl, hE, HL1.out.bel⟩
    · have hE0 : lookE l = funsE l 0 l := by unfold lookE; rw [if_neg (by rw [hm]; decide), if_neg hne]
      have hlp : 0 < l.length := List.length_pos_iff.2 hne
      have HE := Lib.hid hE0
      clear hE0 hm hne
      go_enter Tryz.func112, Tryz.ntmps112
      have hlz : ((l.length : Int) == 0) = false := beq_eq_false_iff_ne.2 (by omega)
      go_wp2_with (go_at_call 124; ((with_reducible refine HM.out.mono ?_); rintro e w1 ⟨rfl, b1⟩; have HL1 := Lib.hid (HL0.out.step b1); have c00 : w1.cell? ⟨W.heap.size, 0, none⟩ = some (.slice p l.length cap) := HL1.out.t0.cell 0; clear b1))
      have hz0 : RmRel W l (.slice p l.length cap) (.int .i64 0) w1 := ⟨0, by omega, rfl, fun j hj hlt => by omega, HL1.out⟩
      clear HL0 HM HL1 c00 hlz
      go_loopw [5] (fun u wr => RmRel W l (.slice p l.length cap) u wr) (fun u _ => ((l.length : Int) - intOf u).toNat)
      case atStart => exact hz0
      case round =>
        clear hz0
        obtain ⟨i, hi1, rfl, hno, hL⟩ := hrel
        obtain ⟨wz, rfl⟩ : ∃ wz, wz = wr := ⟨_, rfl⟩
        have HNO := Lib.hid hno
        have HLk := Lib.hid hL
        have p0 : wz.cell? ⟨W.heap.size, 0, none⟩ = some (.slice p l.length cap) := hL.t0.cell 0
        have hpl := hL.t0.lt
        clear hno
        by_cases hi : i < l.length
        · obtain ⟨p', c', e1, hy⟩ := HV.out
          injection e1 with e1 _ e3
          subst e1 e3
          obtain ⟨g, off, rfl, hg, hy⟩ := hy hlp
          obtain ⟨x0, x1, vo, x2, hvo⟩ := hy i hi
          rw [← hL.bel.cell (p := ⟨g, _, none⟩) hg] at x0 x1 x2
          obtain ⟨pj, cj, rfl⟩ := hvo.slice
          have hgl : g < wz.heap.size := Nat.lt_of_lt_of_le hg hL.bel.size
          have hki : (i : Int) < (l.length : Int) := by omega
          have hki0 : (0 : Int) ≤ (i : Int) := by omega
          have hfl := HLI.out.2 _ (List.getElem_mem hi)
          have hff := HMF.out _ (List.getElem_mem hi)
          have hfo := HOK.out _ (List.getElem_mem hi)
          have HVO := Lib.hid hvo
          have hfe := fun e k h => funsE_at l l 0 i hi (fun j hj hlt => HNO.out j hj hlt) e k h
          have hfn : ∀ h : funE l l[i] = none, ∀ j (hj : j < l.length), j < i + 1 → funE l l[j] = none := fun h j hj hlt => by
            rcases Nat.lt_or_ge j i with h2 | h2
            · exact HNO.out j hj h2
            · have : j = i := by omega
              subst this; exact h
          clear hy hvo hL
          generalize l[i] = f at *
          have HFE := Lib.hid hfe
          have HFN := Lib.hid hfn
          have HFF := Lib.hid hff
          have HFO := Lib.hid hfo.2.2
          clear hfe hfn hff hfo
          have HF2 : Hid (RmF W (.slice (some ⟨g, off, none⟩) l.length cap) wz.heap.size f (.slice pj f.ops.length cj) (wz.alloc (.cells #[.int .i64 f.args, .int .i64 f.regs, .slice pj f.ops.length cj] 168))) := Lib.hid
            ⟨HLk.out.step ((Below.refl _ wz).alloc (Nat.le_refl _) _), Blk.new wz _ _⟩
          by_cases ha : f.regs < f.args
          · have hE : lookE l = (110, i, 0) := by rw [HE.out, HFE.out 110 0 (by unfold funE; rw [if_pos ha]), Nat.zero_add]
            as_aux_lemma =>
            go_wp2_with fail
            go_ret3
            exact ⟨110, i, 0, rfl, hE, HF2.out.rm.bel⟩
          · have ha' : decide (f.regs < f.args) = false := decide_eq_false ha
            have HA := Lib.hid ha
            go_wp2_with fail
            have hz1 : RmRel2 W l (.slice (some ⟨g, off, none⟩) l.length cap) wz.heap.size f (.slice pj f.ops.length cj) (.int .i64 0) _ := ⟨0, by omega, rfl, fun j hj hlt => by omega, HF2.out⟩
            clear HF2 HLk x0 x1 x2 ha ha' p0
            generalize wz.heap.size = F at *
            go_loopw [7] (fun u wq => RmRel2 W l (.slice (some ⟨g, off, none⟩) l.length cap) F f (.slice pj f.ops.length cj) u wq) (fun u _ => ((f.ops.length : Int) - intOf u).toNat)
            case atStart => exact hz1
            case round =>
              clear hz1
              obtain ⟨k, hk1, rfl, hS, hF⟩ := hrel
              have HS := Lib.hid hS
              have HF := Lib.hid hF
              have p0 : wr.cell? ⟨W.heap.size, 0, none⟩ = some (.slice (some ⟨g, off, none⟩) l.length cap) := hF.rm.t0.cell 0
              have y0 : wr.cell? ⟨F, 0, none⟩ = some (.int .i64 f.args) := hF.f.cell 0
              have y1 : wr.cell? ⟨F, 1, none⟩ = some (.int .i64 f.regs) := hF.f.cell 1
              have y2 : wr.cell? ⟨F, 2, none⟩ = some (.slice pj f.ops.length cj) := hF.f.cell 2
              by_cases hk : k < f.ops.length
              · obtain ⟨pj', cj', e1, hz0⟩ := HVO.out
                injection e1 with e1 _ e3
                subst e1 e3
                obtain ⟨g5, off5, rfl, hg5, hz⟩ := hz0 (by omega)
                have w0 := hz k hk 0 (by decide)
                have w1 := hz k hk 1 (by decide)
                have w2 := hz k hk 2 (by decide)
                have w3 := hz k hk 3 (by decide)
                have w4 := hz k hk 4 (by decide)
                rw [← hF.rm.bel.cell (p := ⟨g5, _, none⟩) hg5] at w0 w1 w2 w3 w4
                have hform := HFF.out.2.2.2 _ (List.getElem_mem hk)
                have hok8 := (HFO.out _ (List.getElem_mem hk)).1
                have hkk : (k : Int) < (f.ops.length : Int) := by omega
                have hkk0 : (0 : Int) ≤ (k : Int) := by omega
                have hbad : opE l f f.ops[k] ≠ 0 → lookE l = (opE l f f.ops[k], i, k) := fun h => by
                  rw [HE.out, HFE.out (opE l f f.ops[k]) k (by unfold funE; rw [if_neg (by have := HA.out; omega), opsE_at l f f.ops 0 k hk (fun j hj hlt => HS.out j hj hlt) h, Nat.zero_add]), Nat.zero_add]
                have hnext : opE l f f.ops[k] = 0 → ∀ j (hj : j < f.ops.length), j < k + 1 → opE l f f.ops[j] = 0 := fun h j hj hlt => by
                  rcases Nat.lt_or_ge j k with h2 | h2
                  · exact HS.out j hj h2
                  · have : j = k := by omega
                    subst this; exact h
                clear hz hz0 hS hF
                generalize f.ops[k] = o at *
                obtain ⟨ok, od, oa, ob, on⟩ := o
                simp only [opA, List.getElem?_toArray, List.getElem?_cons_zero, List.getElem?_cons_succ, Nat.add_zero] at w0 w1 w2 w3 w4
                have HRT : Hid (∀ w, Below W.heap.size W w → Calls Tryz.prog 125 #[.agg #[.slice (some ⟨g, off, none⟩) l.length cap], .agg #[.int .i64 f.args, .int .i64 f.regs, .slice (some ⟨g5, off5, none⟩) f.ops.length cj], .agg #[.int .u8 ok, .int .i64 od, .int .i64 oa, .int .i64 ob, .int .i64 on]] w fun e w' => ∃ r : Int, e = .returned (.int .i64 r) ∧ r = opE l f ⟨ok, od, oa, ob, on⟩ ∧ Below w.heap.size w w') :=
                  Lib.hid (fun w hb => rop11_any (o := ⟨ok, od, oa, ob, on⟩) (f := f) (HV.out.below hb) rfl hok8 hform (fun g hg => (HMF.out g hg).1))
                generalize opE l f ⟨ok, od, oa, ob, on⟩ = E at *
                have HBAD := Lib.hid hbad
                have HNEXT := Lib.hid hnext
                have HBD := Lib.hid HF.out.rm.bel.drew
                have hg5l : g5 < wr.heap.size := Nat.lt_of_lt_of_le hg5 HF.out.rm.bel.size
                clear hbad hnext hform hok8
                go_upto_region 14 with fail
                go_cut [8] (fun rv wc => rv = .int .i64 E ∧ Below wr.heap.size wr wc)
                case first =>
                  go_region_with (go_at_call 125; ((with_reducible refine (HRT.out _ HBD.out).mono ?_); rintro e w5 ⟨r, rfl, hr, b5⟩; have hb5 := below_undrew b5; subst hr; have HB5 := Lib.hid hb5; clear b5 hb5))
                  all_goals (go_wp2_with fail; go_meet)
                  all_goals exact ⟨rfl, HB5.out⟩
                case rest =>
                  obtain ⟨rfl, hb⟩ := hcut
                  have HB5 := Lib.hid hb
                  clear hb w0 w1 w2 w3 w4 y0 y1 y2 p0
                  by_cases hE0 : E = 0
                  · have HN := Lib.hid (HNEXT.out hE0)
                    subst hE0
                    go_wp2_with fail
                    go_roundw
                    case rel => exact ⟨k + 1, by omega, rfl, HN.out, HF.out.rm.step HB5.out, HF.out.f.below HB5.out⟩
                    case measure => simp [intOf]; omega
                  · have hE' : (E == 0) = false := by simpa using hE0
                    have hE := HBAD.out hE0
                    clear hE0
                    go_wp2_with fail
                    go_ret3
                    exact ⟨E, i, k, rfl, hE, (HF.out.rm.step HB5.out).bel⟩
              · have : k = f.ops.length := by omega
                subst this
                have hends : funE l f = if endsB f.ops = true then none else some (113, f.ops.length - 1) := by
                  unfold funE; rw [if_neg (by have := HA.out; omega), opsE_none l f f.ops 0 (fun j hj => hS j hj hj)]
                clear hk hk1 y0 y1 hS HS hF
                by_cases hn0 : f.ops.length = 0
                · have hnz : ((f.ops.length : Int) == 0) = true := by simp [hn0]
                  have hE : lookE l = (113, i, 0) := by
                    rw [HE.out, HFE.out 113 0 (by rw [hends, List.eq_nil_of_length_eq_zero hn0]; rfl), Nat.zero_add]
                  clear hends hn0
                  generalize f.ops.length = n at *
                  as_aux_lemma =>
                  go_wp2_with fail
                  go_ret3
                  exact ⟨113, i, 0, rfl, hE, HF.out.rm.bel⟩
                · obtain ⟨pj', cj', e1, hz0⟩ := HVO.out
                  injection e1 with e1 _ e3
                  subst e1 e3
                  obtain ⟨g5, off5, rfl, hg5, hz⟩ := hz0 (by omega)
                  have w0 := hz (f.ops.length - 1) (by omega) 0 (by decide)
                  rw [← HF.out.rm.bel.cell (p := ⟨g5, _, none⟩) hg5] at w0
                  have hg5l : g5 < wr.heap.size := Nat.lt_of_lt_of_le hg5 HF.out.rm.bel.size
                  have hB := endsB_of (l := f.ops) (by omega)
                  simp only [opA, List.getElem?_toArray, List.getElem?_cons_zero, Nat.add_zero] at w0
                  generalize f.ops[f.ops.length - 1].k = K at *
                  have HB := Lib.hid hB
                  have HOPS := Lib.hid hends
                  clear hz hz0 hB hends
                  obtain ⟨N, hN⟩ : ∃ N, f.ops.length = N + 1 := ⟨f.ops.length - 1, by omega⟩
                  generalize f.ops.length = n at *
                  subst hN
                  clear hn0
                  simp only [Nat.add_sub_cancel] at w0 HOPS
                  have hnz : (((N + 1 : Nat) : Int) == 0) = false := beq_eq_false_iff_ne.2 (by omega)
                  by_cases h10 : K = 10
                  · subst h10
                    have hE : funE l f = none := by rw [HOPS.out, HB.out]; rfl
                    go_wp2_with fail
                    go_roundw
                    case rel => exact ⟨i + 1, by omega, rfl, HFN.out hE, HF.out.rm⟩
                    case measure => simp [intOf]; omega
                  · have h10' : (K == 10) = false := by simpa using h10
                    by_cases h14 : K = 14
                    · subst h14
                      have hE : funE l f = none := by rw [HOPS.out, HB.out]; rfl
                      go_wp2_with fail
                      go_roundw
                      case rel => exact ⟨i + 1, by omega, rfl, HFN.out hE, HF.out.rm⟩
                      case measure => simp [intOf]; omega
                    · have h14' : (K == 14) = false := by simpa using h14
                      have hE : lookE l = (113, i, N) := by
                        rw [HE.out, HFE.out 113 N (by rw [HOPS.out, HB.out, h10', h14']; rfl), Nat.zero_add]
                      have n10 : ¬ K = 10 := h10
                      have n14 : ¬ K = 14 := h14
                      have m10 : (K != 10) = true := by simpa using h10
                      have m14 : (K != 14) = true := by simpa using h14
                      as_aux_lemma =>
                      go_wp2_with fail
                      go_ret3
                      exact ⟨113, i, N, rfl, hE, HF.out.rm.bel⟩
        · have : i = l.length := by omega
          subst this
          have hE : lookE l = (0, 0, 0) := by rw [HE.out, funsE_none l l 0 (fun j hj => HNO.out j hj hj)]
          clear hL
          as_aux_lemma =>
          go_wp2_with fail
          go_ret3
          exact ⟨0, 0, 0, rfl, hE, HLk.out.bel⟩
end Go.Proofs.YtlahficmkfgooaaGreat


/- Rows of numbers as results; 'same' at the same ones; the document's 'Input'. No condition but that rows are not too long and numbers fit their kinds. -/
namespace Go.Proofs.YtlahficmkfgooaaGreat
open Go.RowKit Cd
set_option linter.unusedVariables false
set_option linter.unusedSimpArgs false
def IntsAt (w : World) (v : Value) (l : List Int) : Prop :=
  ∃ p cap, v = .slice p l.length cap ∧ (0 < l.length → ∃ g off, p = some ⟨g, off, none⟩ ∧ g < w.heap.size ∧ ∀ i (h : i < l.length), w.cell? ⟨g, off + i, none⟩ = some (.int .i64 l[i]))
theorem IntsAt.below {w w' : World} {v : Value} {l : List Int} (h : IntsAt w v l) (hb : Below w.heap.size w w') : IntsAt w' v l := by
  obtain ⟨p, cap, rfl, hx⟩ := h
  refine ⟨p, cap, rfl, fun hl => ?_⟩
  obtain ⟨g, off, rfl, hg, hc⟩ := hx hl
  exact ⟨g, off, rfl, Nat.lt_of_lt_of_le hg hb.size, fun i hi => by rw [hb.cell (p := ⟨g, _, none⟩) hg]; exact hc i hi⟩
theorem IntsAt.slice {w : World} {v : Value} {l : List Int} (h : IntsAt w v l) : ∃ p cap, v = .slice p l.length cap := by obtain ⟨p, cap, e, _⟩ := h; exact ⟨p, cap, e⟩
theorem IntsAt.of {w : World} {B : Nat} {T : TypeId} {v : Value} {l : List Int} (h : w.ownsRow B T 1 v l.length (l.map (Value.int .i64))) : IntsAt w v l := by
  obtain ⟨hl, ⟨rfl, h0⟩ | ⟨g, cap, cur, rfl, hb, hg, h1, h2, h3, h4⟩⟩ := h
  · exact ⟨none, 0, by rw [h0], fun h => by omega⟩
  · refine ⟨_, cap, rfl, fun _ => ⟨g, 0, rfl, (Array.getElem?_eq_some_iff.1 hg).1, fun i hi => ?_⟩⟩
    rw [Nat.zero_add, (show Blk w g T cur from hg).cell i, ← Array.getElem?_toList]
    have e3 : cur.toList[i]? = (cur.toList.take (l.length * 1))[i]? := by rw [List.getElem?_take, if_pos (by omega)]
    rw [e3, h4, List.getElem?_map, List.getElem?_eq_getElem hi]
    rfl
set_option maxRecDepth 100000 in
set_option maxHeartbeats 2000000 in
theorem rinput11_any {W : World} {x : Value} {l : List FunV} {q : Option Addr} {m cq : Nat} (hx : FunsAt W x l) (hl : Lim l) (ho : OkP l) : Calls Tryz.prog 96 #[.agg #[x], .slice q m cq] W fun e w' => ∃ r : Int, e = .returned (.int .i64 r) ∧ r = inE l m ∧ Below W.heap.size W w' := by
  have HB := Lib.hid ((Below.refl _ W).alloc (Nat.le_refl _) (.cells #[x] 133))
  have HK := Lib.hid (rmay11_any (hx.alloc (.cells #[x] 133)) hl ho)
  have HT := Lib.hid (Blk.new W 133 #[x])
  have HV := Lib.hid hx
  obtain ⟨p, cap, rfl⟩ := hx.slice
  clear hx hl ho
  go_enter Tryz.func96, Tryz.ntmps96
  go_upto_region 2 with (go_at_call 112; ((with_reducible refine HK.out.mono ?_); rintro e w2 ⟨c, fn, op, rfl, hE, b1⟩; have HB2 := Lib.hid (HB.out.step b1); have HT1 := Lib.hid (HT.out.below b1); have HE := Lib.hid hE; have t0 : w2.cell? ⟨W.heap.size, 0, none⟩ = some (.slice p l.length cap) := HT1.out.cell 0; clear b1 hE))
  clear HB HK HT HT1
  by_cases hc : c = 0
  · subst hc
    have hlp := look_cons HE.out
    obtain ⟨p', c', e1, hy⟩ := HV.out
    injection e1 with e1 _ e3
    subst e1 e3
    obtain ⟨g, off, rfl, hg, hy⟩ := hy hlp
    have x0 := (hy 0 hlp).1
    rw [← HB2.out.cell (p := ⟨g, _, none⟩) hg] at x0
    have hA : argsAt l 0 = l[0].args := by unfold argsAt; rw [show (0 : Int).toNat = 0 from rfl, List.getElem?_eq_getElem hlp]; rfl
    have hin : inE l m = if (m : Int) ≠ l[0].args then 114 else 0 := by unfold inE; rw [HE.out, hA]; rfl
    rw [Nat.zero_mul, Nat.add_zero] at x0
    clear hy hA
    generalize l[0].args = A at *
    by_cases hm : (m : Int) = A
    · have hr : inE l m = 0 := by rw [hin, if_neg (by simp [hm])]
      have hm' : ((m : Int) == A) = true := by simpa using hm
      have HR := Lib.hid hr
      clear hin hm hr
      go_wp2_with fail
      go_ret
      exact ⟨_, rfl, HR.out.symm, HB2.out⟩
    · have hr : inE l m = 114 := by rw [hin, if_pos hm]
      have hm' : ((m : Int) == A) = false := by simpa using hm
      have HR := Lib.hid hr
      clear hin hm hr
      go_wp2_with fail
      go_ret
      exact ⟨_, rfl, HR.out.symm, HB2.out⟩
  · have hc' : (c == 0) = false := by simpa using hc
    have hr : inE l m = c := by unfold inE; rw [HE.out, if_pos hc]
    have HR := Lib.hid hr
    clear hr hc
    go_wp2_with fail
    go_ret
    exact ⟨_, rfl, HR.out.symm, HB2.out⟩
end Go.Proofs.YtlahficmkfgooaaGreat


/- Loads and stores of whole blocks. No condition. -/
namespace Go.Proofs.YtlahficmkfgooaaGreat
open Go.RowKit
set_option linter.unusedVariables false
set_option linter.unusedSimpArgs false
section
variable {P : Program} {ops : Array Oper} {rest : List Oper} {o : Oper} {a : Act} {Q : Exit → Act → World → Prop}
/-- A load of a whole block. -/
theorem wpl_load_blk {w : World} {g : Nat} {T : TypeId} {c : Array Value} (hb : Blk w g T c) (hgd : o.guard = none) (ty : TypeId) (x : Operand) (ho : o.op = .load ty x) (hx : a.eval x = .pointer (some ⟨g, 0, none⟩)) {d : TypeDesc}
    (hu : P.underlying ty = some d) (hd : (match d with | .struct _ | .array _ _ => true | _ => false) = true) (hi : (P.info? ty).map (·.size) = some c.size)
    (h : wpList P ops Q rest (a.put o.dst (.agg c)) w) : wpList P ops Q (o :: rest) a w :=
  wpList_plain hgd fun K hK => by
    unfold Oper.wp execOp
    simp only [ho, hx, Instr.loadAt, Instr.sureAddr, Sem.run_bind, Sem.run_pure, Result.andThen_ok, run_loadVar_row w g T ty c (0, 0) d hb hu hd hi]
    exact hK _ _ h
theorem wpList_want (hw : Region.wanted o (yielded ops a.tmps) = true) {w : World} (h : ∀ K : Act → World → Prop, (∀ A W, wpList P ops Q rest A W → K A W) → o.wp P a w K Q) : wpList P ops Q (o :: rest) a w := by
  show if Region.wanted o (yielded ops a.tmps) then _ ∨ _ else _
  rw [if_pos hw]
  exact .inl (h _ fun A W h => h)
/-- .. under a guard that holds. -/
theorem wpl_load_blkg {w : World} {g : Nat} {T : TypeId} {c : Array Value} (hb : Blk w g T c) (hw : Region.wanted o (yielded ops a.tmps) = true) (ty : TypeId) (x : Operand) (ho : o.op = .load ty x) (hx : a.eval x = .pointer (some ⟨g, 0, none⟩)) {d : TypeDesc}
    (hu : P.underlying ty = some d) (hd : (match d with | .struct _ | .array _ _ => true | _ => false) = true) (hi : (P.info? ty).map (·.size) = some c.size)
    (h : wpList P ops Q rest (a.put o.dst (.agg c)) w) : wpList P ops Q (o :: rest) a w :=
  wpList_want hw fun K hK => by
    unfold Oper.wp execOp
    simp only [ho, hx, Instr.loadAt, Instr.sureAddr, Sem.run_bind, Sem.run_pure, Result.andThen_ok, run_loadVar_row w g T ty c (0, 0) d hb hu hd hi]
    exact hK _ _ h
/-- A store into a whole block. -/
theorem wpl_store_blk {w : World} {g : Nat} {T : TypeId} {c c' : Array Value} (hb : Blk w g T c) (hgd : o.guard = none) (ty : TypeId) (x y : Operand) (ho : o.op = .store ty x y) (hx : a.eval x = .pointer (some ⟨g, 0, none⟩)) (hy : a.eval y = .agg c')
    (hi : (P.info? ty).map (·.size) = some c'.size) (hs : c.size = c'.size) (h1 : c'.all (·.oneCell') = true)
    (h : ∀ w', Blk w' g T c' → Only (· = g) w w' → wpList P ops Q rest (a.put o.dst undef) w') : wpList P ops Q (o :: rest) a w :=
  wpList_plain hgd fun K hK => by
    unfold Oper.wp execOp
    simp only [ho, hx, hy, Instr.storeAt, Instr.sureAddr, Sem.run_bind, Sem.run_pure, Result.andThen_ok, run_storeVar_row w g T ty c c' hb hi hs h1]
    refine hK _ _ (h _ ?_ ?_)
    · unfold Blk World.setRow
      dsimp only
      rw [Array.getElem?_modify, if_pos rfl, show w.heap[g]? = some (.cells c T (0, 0)) from hb]
      rfl
    · refine ⟨rfl, rfl, rfl, by unfold World.setRow; simp, fun k hk hne => ?_⟩
      unfold World.setRow
      dsimp only
      rw [Array.getElem?_modify, if_neg (fun e => hne e.symm)]
end
theorem al_step {w3 w5 : World} {ob : Obj} (h5 : Only (· = w3.heap.size) (w3.alloc ob) w5) : Below w3.heap.size w3 w5 :=
  ((Below.refl _ w3).alloc (Nat.le_refl _) ob).trans (Only.below h5 (by simp) fun j e => by have e' : j = w3.heap.size := e; omega)
end Go.Proofs.YtlahficmkfgooaaGreat


/- Rows of the call's own of which the front was cut off: appended to, kept. No condition. -/
namespace Go.Proofs.YtlahficmkfgooaaGreat
open Go.RowKit
set_option linter.unusedVariables false
theorem flat_len {α : Type} {LAY : α → List Value} {sz : Nat} (hsz : ∀ x, (LAY x).length = sz) : ∀ l : List α, (l.flatMap LAY).length = l.length * sz := by
  intro l
  induction l with
  | nil => simp
  | cons a l ih => rw [List.flatMap_cons, List.length_append, hsz, ih, List.length_cons, Nat.succ_mul]; omega
theorem flat_take {α : Type} {LAY : α → List Value} {sz : Nat} (hsz : ∀ x, (LAY x).length = sz) (l : List α) (i : Nat) (hi : i ≤ l.length) : (l.take i).flatMap LAY = (l.flatMap LAY).take (i * sz) := by
  have e : l.flatMap LAY = (l.take i).flatMap LAY ++ (l.drop i).flatMap LAY := by rw [← List.flatMap_append, List.take_append_drop]
  rw [e, List.take_append_of_le_length (by rw [flat_len hsz, List.length_take, Nat.min_eq_left hi]; exact Nat.le_refl _)]
  exact (List.take_of_length_le (by rw [flat_len hsz, List.length_take, Nat.min_eq_left hi]; exact Nat.le_refl _)).symm
theorem flat_drop {α : Type} {LAY : α → List Value} {sz : Nat} (hsz : ∀ x, (LAY x).length = sz) (l : List α) (i : Nat) (hi : i ≤ l.length) : (l.drop i).flatMap LAY = (l.flatMap LAY).drop (i * sz) := by
  have e : l.flatMap LAY = (l.take i).flatMap LAY ++ (l.drop i).flatMap LAY := by rw [← List.flatMap_append, List.take_append_drop]
  have h : ((l.take i).flatMap LAY).length = i * sz := by rw [flat_len hsz, List.length_take]; congr 1; omega
  rw [e, ← h, List.drop_left]
theorem flat_get {α : Type} {LAY : α → List Value} {sz : Nat} (hsz : ∀ x, (LAY x).length = sz) (l : List α) (i j : Nat) (hi : i < l.length) (hj : j < sz) : (l.flatMap LAY)[i * sz + j]? = (LAY l[i])[j]? := by
  have h := flat_drop hsz l i (by omega)
  have e : (l.flatMap LAY)[i * sz + j]? = ((l.flatMap LAY).drop (i * sz))[j]? := by rw [List.getElem?_drop]
  rw [e, ← h, ← List.getElem_cons_drop hi, List.flatMap_cons, List.getElem?_append_left (by rw [hsz]; exact hj)]
/-- Cells put into an array, one behind the other. -/
def putAll (A : Array Value) (o : Nat) : List Value → Array Value
  | [] => A
  | v :: vs => putAll (A.setIfInBounds o v) (o + 1) vs
theorem putAll_size : ∀ (vs : List Value) (A : Array Value) (o : Nat), (putAll A o vs).size = A.size := by
  intro vs
  induction vs with
  | nil => intro A o; rfl
  | cons v vs ih => intro A o; unfold putAll; rw [ih]; simp
theorem putAll_out : ∀ (vs : List Value) (A : Array Value) (o k : Nat), k < o ∨ o + vs.length ≤ k → (putAll A o vs)[k]? = A[k]? := by
  intro vs
  induction vs with
  | nil => intro A o k _; rfl
  | cons v vs ih =>
    intro A o k hk
    unfold putAll
    rw [List.length_cons] at hk
    rw [ih _ _ _ (by omega), Array.getElem?_setIfInBounds, if_neg (by omega)]
theorem putAll_in : ∀ (vs : List Value) (A : Array Value) (o j : Nat) (u : Value), o + vs.length ≤ A.size → vs[j]? = some u → (putAll A o vs)[o + j]? = some u := by
  intro vs
  induction vs with
  | nil => intro A o j u _ h; simp at h
  | cons v vs ih =>
    intro A o j u hs h
    rw [List.length_cons] at hs
    unfold putAll
    cases j with
    | zero =>
      simp at h
      subst h
      rw [putAll_out _ _ _ _ (by omega), Nat.add_zero, Array.getElem?_setIfInBounds, if_pos rfl, if_pos (by omega)]
    | succ j =>
      have h' : vs[j]? = some u := by simpa using h
      have := ih (A.setIfInBounds o v) (o + 1) j u (by simp; omega) h'
      rw [show o + (j + 1) = o + 1 + j by omega]
      exact this
theorem Blk.setCells : ∀ (vs : List Value) {w : World} {g : Nat} {T : TypeId} {A : Array Value} (o : Nat), Blk w g T A → Blk (w.setCells g o vs) g T (putAll A o vs) ∧ Only (· = g) w (w.setCells g o vs) := by
  intro vs
  induction vs with
  | nil => intro w g T A o h; exact ⟨h, Only.refl _ _⟩
  | cons v vs ih =>
    intro w g T A o h
    have h1 := h.set o v
    have h2 := ih (o + 1) h1
    exact ⟨h2.1, ((Only.refl (· = g) w).set1).trans h2.2⟩
/-- n elements of sz cells each, in a block behind base, wherever they begin. -/
def RowV (w : World) (base : Nat) (T : TypeId) (sz : Nat) (v : Value) (n : Nat) (xs : List Value) : Prop :=
  xs.length = n * sz ∧ ((v = .slice none 0 0 ∧ n = 0) ∨ ∃ g off cap A, v = .slice (some ⟨g, off, none⟩) n cap ∧ base ≤ g ∧ Blk w g T A ∧ n ≤ cap ∧ off + cap * sz ≤ A.size ∧ ∀ j u, xs[j]? = some u → A[off + j]? = some u)
section
variable {w w' : World} {base n sz : Nat} {T : TypeId} {v : Value} {xs : List Value}
theorem RowV.of_own (h : w.ownsRow base T sz v n xs) : RowV w base T sz v n xs := by
  obtain ⟨hl, h | ⟨g, cap, cur, rfl, hb, hg, h1, h2, h3, h4⟩⟩ := h
  · exact ⟨hl, .inl h⟩
  · refine ⟨hl, .inr ⟨g, 0, cap, cur, rfl, hb, hg, h1, by omega, fun j u hu => ?_⟩⟩
    rw [← h4] at hu
    rw [Nat.zero_add, ← Array.getElem?_toList]
    rw [List.getElem?_take] at hu
    split at hu
    · exact hu
    · cases hu
theorem RowV.nil : RowV w base T sz (.slice none 0 0) 0 [] := ⟨by simp, .inl ⟨rfl, rfl⟩⟩
theorem RowV.slice (h : RowV w base T sz v n xs) : ∃ p cap, v = .slice p n cap := by
  obtain ⟨_, ⟨rfl, rfl⟩ | ⟨g, off, cap, A, rfl, _⟩⟩ := h
  · exact ⟨none, 0, rfl⟩
  · exact ⟨_, _, rfl⟩
theorem RowV.ty (h : RowV w base T sz v n xs) {g : Nat} (hg : v.ownBlock = some g) : ∃ A, Blk w g T A ∧ base ≤ g := by
  obtain ⟨_, ⟨rfl, _⟩ | ⟨g', off, cap, A, rfl, hb, hk, _⟩⟩ := h
  · cases hg
  · cases hg; exact ⟨A, hk, hb⟩
theorem RowV.only {S : Nat → Prop} (h : RowV w base T sz v n xs) (ho : Only S w w') (hS : ∀ g, v.ownBlock = some g → ¬ S g) : RowV w' base T sz v n xs := by
  obtain ⟨hl, h | ⟨g, off, cap, A, rfl, hb, hk, r⟩⟩ := h
  · exact ⟨hl, .inl h⟩
  · exact ⟨hl, .inr ⟨g, off, cap, A, rfl, hb, hk.only ho (hS g rfl), r⟩⟩
theorem RowV.below (h : RowV w base T sz v n xs) (hb : Below w.heap.size w w') : RowV w' base T sz v n xs := h.only (Only.of_below (S := fun _ => False) hb) (fun _ _ h => h)
/-- The cells. -/
theorem RowV.at (h : RowV w base T sz v n xs) (hn : 0 < n) : ∃ g off cap, v = .slice (some ⟨g, off, none⟩) n cap ∧ n ≤ cap ∧ g < w.heap.size ∧ (∀ o, w.frozen? ⟨g, o, none⟩ = false) ∧ ∀ j u, xs[j]? = some u → w.cell? ⟨g, off + j, none⟩ = some u := by
  obtain ⟨hl, ⟨_, h0⟩ | ⟨g, off, cap, A, rfl, hb, hk, hc, hs, hx⟩⟩ := h
  · omega
  · exact ⟨g, off, cap, rfl, hc, hk.lt, hk.frozen, fun j u hu => by rw [hk.cell]; exact hx j u hu⟩
/-- What is left once the first element was cut off. -/
theorem RowV.tail {g off cap : Nat} {ys zs : List Value} (h : RowV w base T sz (.slice (some ⟨g, off, none⟩) (n + 1) cap) (n + 1) (ys ++ zs)) (hy : ys.length = sz) : RowV w base T sz (.slice (some ⟨g, off + sz, none⟩) n (cap - 1)) n zs := by
  obtain ⟨hl, ⟨h0, _⟩ | ⟨g', off', cap', A, e, hb, hk, hc, hs, hx⟩⟩ := h
  · cases h0
  · injection e with e1 _ e3
    injection e1 with e1
    injection e1 with e4 e5
    subst e3 e4 e5
    have hm : (n + 1) * sz = n * sz + sz := Nat.succ_mul n sz
    have hm2 : cap * sz = (cap - 1) * sz + sz := by rw [← Nat.succ_mul]; congr 1; omega
    rw [List.length_append] at hl
    refine ⟨by omega, .inr ⟨g, off + sz, cap - 1, A, rfl, hb, hk, by omega, by omega, fun j u hu => ?_⟩⟩
    have := hx (sz + j) u (by rw [List.getElem?_append_right (by omega), show sz + j - ys.length = j by omega]; exact hu)
    rw [← Nat.add_assoc] at this
    exact this
end
section
variable {P : Program} {ops : Array Oper} {rest : List Oper} {o : Oper} {a : Act} {Q : Exit → Act → World → Prop}
/-- 's = append(s, y)', y just laid, s a row wherever it begins. -/
theorem wp_append_view {K : Act → World → Prop} {w0 : World} {ys : List Value} {e' : TypeId} {s x : Operand} {t e : TypeId} {z : Value} {size bytes : Nat} {base : Nat} {v : Value} {n : Nat} {xs : List Value} {nb : Nat}
    (ho : o.op = .call { callee := .builtin .append, args := #[s, x], argTypes := #[t, t] })
    (hx : a.eval x = .slice (some ⟨nb, 0, none⟩) 1 1) (hs : a.eval s = v)
    (ht : P.underlying t = some (.slice e)) (hi : Info P e z size bytes) (hz : z.cells.size = size) (hy : ys.all (·.oneCell') = true) (hl : ys.length = 1 * size) (hsz : 0 < size) (hb : bytes ≤ 1024)
    (hown : RowV w0 base e size v n xs) (hn : n < 2147483648) (hbase : base ≤ w0.heap.size) (hnb : nb = w0.heap.size)
    (h : ∀ v' w', RowV w' base e size v' (n + 1) (xs ++ ys) → Only (fun k => v.ownBlock = some k) w0 w' → K (a.put o.dst v') w') :
    o.wp P a (w0.alloc (.cells ys.toArray e')) K Q := by
  subst hnb
  obtain ⟨i, hi1, hi2, hi3, hi4⟩ := info_parts hi
  have hnew : ∀ j u, ys[j]? = some u → (w0.alloc (.cells ys.toArray e')).cell? ((⟨w0.heap.size, 0, none⟩ : Addr).add j) = some u := fun j u hj => by
    have : (⟨w0.heap.size, 0, none⟩ : Addr).add j = ⟨w0.heap.size, j, none⟩ := by unfold Addr.add; split <;> simp_all
    rw [this, (Blk.new w0 e' ys.toArray).cell j]; simpa using hj
  have h1c : ∀ u ∈ ys, u.oneCell' = true := fun u hu => List.all_eq_true.1 hy u hu
  have hby : (n + 1) * bytes ≤ 140737488355328 := by have : (n + 1) * bytes ≤ 2147483648 * 1024 := Nat.mul_le_mul (by omega) hb; omega
  have hmx : n + 1 ≤ maxLen := by unfold maxLen; omega
  obtain ⟨hlx, ⟨rfl, rfl⟩ | ⟨g, off, cap, A, rfl, hg, hk, hc, hs2, hxs⟩⟩ := hown
  · have h0 : xs = [] := List.eq_nil_of_length_eq_zero (by simpa using hlx)
    subst h0
    refine wp_append_own _ s x t ho base e i z size bytes ht hi1 hi2 hi3 hi4 hz hsz (.slice none 0 0) 0 [] hs ⟨by simp, .inl ⟨rfl, rfl⟩⟩ _ 1 1 ys hx hl hnew h1c hmx hby (by simp; omega) ?_
    intro v' w' h1 h2 _
    exact h v' w' (.of_own h1) ⟨h2.os, h2.tape, h2.output, by have := h2.size; simp at this; omega, fun k hk hne => (h2.block k (by simp; omega) (fun e => by cases e)).trans (Below.heap_alloc _ _ _ hk)⟩
  · have hlt := hk.lt
    have hk2 := hk.alloc (.cells ys.toArray e')
    by_cases hr : n + 1 ≤ cap
    · have hm : (n + 1) * size ≤ cap * size := Nat.mul_le_mul_right size hr
      rw [Nat.succ_mul] at hm
      have hcell : ∀ j, j < ys.length → ((w0.alloc (.cells ys.toArray e')).cell? ⟨g, off + n * size + j, none⟩).isSome = true := fun j hj => by
        rw [hk2.cell, Array.getElem?_eq_getElem (by omega)]; rfl
      have hrun := run_append_room_cells (P := P) (w := w0.alloc (.cells ys.toArray e')) t o.type e i ht hi1 g off n cap ⟨w0.heap.size, 0, none⟩ 1 1 ys (by rw [hi3]; exact hl) hnew h1c hr (by rw [hi3]; exact hcell) (fun j hj => hk2.frozen _)
      rw [hi3] at hrun
      have hsc := Blk.setCells ys (off + n * size) hk2
      unfold Oper.wp
      simp [execOp, ho, resolve, invoke, builtin, hs, hx, hrun, Result.andThen]
      refine h _ _ ⟨by rw [List.length_append, hlx, hl, ← Nat.add_mul], .inr ⟨g, off, cap, _, rfl, hg, hsc.1, hr, by rw [putAll_size]; exact hs2, fun j u hu => ?_⟩⟩ ?_
      · by_cases hj : j < xs.length
        · rw [List.getElem?_append_left hj] at hu
          rw [putAll_out _ _ _ _ (by left; omega)]
          exact hxs j u hu
        · rw [List.getElem?_append_right (by omega)] at hu
          have := putAll_in ys A (off + n * size) (j - xs.length) u (by omega) hu
          rwa [show off + n * size + (j - xs.length) = off + j by omega] at this
      · exact ⟨hsc.2.os, hsc.2.tape, hsc.2.output, by have := hsc.2.size; simp at this; omega, fun k hk hne => (hsc.2.block k (by simp; omega) (fun e => hne (by rw [e]; rfl))).trans (Below.heap_alloc _ _ _ hk)⟩
    · obtain ⟨v', w', hrun, h1, h2⟩ := run_append_arg_grows (P := P) (w := w0.alloc (.cells ys.toArray e')) t o.type e i z size bytes ht hi1 hi2 hi3 hi4 hz hsz ⟨g, off, none⟩ n cap xs hlx (fun j u hu => by rw [Addr.add_lit, hk2.cell]; exact hxs j u hu) ⟨w0.heap.size, 0, none⟩ 1 1 ys hl hnew (by omega) hmx hby
      unfold Oper.wp
      simp [execOp, ho, resolve, invoke, builtin, hs, hx, hrun, Result.andThen]
      refine h v' w' (.of_own (owns_ge h1 (by simp; omega))) ⟨h2.os, h2.tape, h2.output, by have := h2.size; simp at this; omega, fun k hk hne => (h2.block k (by simp; omega) (fun e => by cases e)).trans (Below.heap_alloc _ _ _ hk)⟩
theorem wpl_append_view {w0 : World} {ys : List Value} {e' : TypeId} {s x : Operand} {t e : TypeId} {z : Value} {size bytes : Nat} {base : Nat} {v : Value} {n : Nat} {xs : List Value} {nb : Nat}
    (hgd : o.guard = none) (ho : o.op = .call { callee := .builtin .append, args := #[s, x], argTypes := #[t, t] })
    (hx : a.eval x = .slice (some ⟨nb, 0, none⟩) 1 1) (hs : a.eval s = v)
    (ht : P.underlying t = some (.slice e)) (hi : Info P e z size bytes) (hz : z.cells.size = size) (hy : ys.all (·.oneCell') = true) (hl : ys.length = 1 * size) (hsz : 0 < size) (hb : bytes ≤ 1024)
    (hown : RowV w0 base e size v n xs) (hn : n < 2147483648) (hbase : base ≤ w0.heap.size) (hnb : nb = w0.heap.size)
    (h : ∀ v' w', RowV w' base e size v' (n + 1) (xs ++ ys) → Only (fun k => v.ownBlock = some k) w0 w' → wpList P ops Q rest (a.put o.dst v') w') :
    wpList P ops Q (o :: rest) a (w0.alloc (.cells ys.toArray e')) :=
  wpList_plain hgd fun _ hK => wp_append_view ho hx hs ht hi hz hy hl hsz hb hown hn hbase hnb fun v' w' h1 h2 => hK _ _ (h v' w' h1 h2)
/-- .. as a step of a drawn region. -/
theorem step_append_view {K : Act → World → Prop} {E : Prop} {w0 : World} {ys : List Value} {e' : TypeId} {s x : Operand} {t e : TypeId} {z : Value} {size bytes : Nat} {base : Nat} {v : Value} {n : Nat} {xs : List Value} {nb : Nat}
    (hgd : o.guard = none) (ho : o.op = .call { callee := .builtin .append, args := #[s, x], argTypes := #[t, t] })
    (hx : a.eval x = .slice (some ⟨nb, 0, none⟩) 1 1) (hs : a.eval s = v)
    (ht : P.underlying t = some (.slice e)) (hi : Info P e z size bytes) (hz : z.cells.size = size) (hy : ys.all (·.oneCell') = true) (hl : ys.length = 1 * size) (hsz : 0 < size) (hb : bytes ≤ 1024)
    (hown : RowV w0 base e size v n xs) (hn : n < 2147483648) (hbase : base ≤ w0.heap.size) (hnb : nb = w0.heap.size)
    (h : ∀ v' w', RowV w' base e size v' (n + 1) (xs ++ ys) → Only (fun k => v.ownBlock = some k) w0 w' → K (a.put o.dst v') w') :
    if Region.wanted o (yielded ops a.tmps) = true then Oper.wp P o a (w0.alloc (.cells ys.toArray e')) K Q else E := by
  rw [if_pos (by simp [Region.wanted, hgd])]
  exact wp_append_view ho hx hs ht hi hz hy hl hsz hb hown hn hbase hnb h
end
end Go.Proofs.YtlahficmkfgooaaGreat
