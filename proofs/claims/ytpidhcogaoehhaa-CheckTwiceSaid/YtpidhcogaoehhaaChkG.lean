import Derived.Test.YtpidhcogaoehhaaChkF
import Derived.Test.YtpidhcogaoehhaaMge
import Derived.Test.YtpidhcogaoehhaaMgf

/- The walks of the document's 'May' and 'Input'. No condition but that rows are not too long and numbers fit their kinds. -/
namespace Go.Proofs.Ytpidhcogaoehhaa
open Go.RowKit Cd
set_option linter.unusedVariables false
set_option linter.unusedSimpArgs false
structure RmW (W : World) (x : Value) (wr : World) : Prop where
  t0 : Blk wr W.heap.size 24 #[x]
  bel : Below W.heap.size W wr
theorem RmW.step {W : World} {x : Value} {w w' : World} (h : RmW W x w) (k : Below w.heap.size w w') : RmW W x w' := ⟨h.t0.below k, h.bel.step k⟩
def RmRel (W : World) (l : List FunV) (x u : Value) (wr : World) : Prop := ∃ i : Nat, i ≤ l.length ∧ u = .int .i64 i ∧ (∀ j (hj : j < l.length), j < i → funE l l[j] = none) ∧ RmW W x wr
structure RmF (W : World) (x : Value) (F : Nat) (f : FunV) (vo : Value) (wr : World) : Prop where
  rm : RmW W x wr
  f : Blk wr F 47 #[.int .i64 f.args, .int .i64 f.regs, vo]
def RmRel2 (W : World) (l : List FunV) (x : Value) (F : Nat) (f : FunV) (vo : Value) (u : Value) (wr : World) : Prop := ∃ k : Nat, k ≤ f.ops.length ∧ u = .int .i64 k ∧ (∀ j (hj : j < f.ops.length), j < k → opE l f f.ops[j] = 0) ∧ RmF W x F f vo wr
def RMayPost (W : World) (l : List FunV) (e : Ending) (w' : World) : Prop := ∃ (c : Int) (fn op : Nat), e = .returned (.tuple #[.int .i64 c, .int .i64 fn, .int .i64 op]) ∧ lookE l = (c, fn, op) ∧ Below W.heap.size W w'
theorem lk_form2 {l : List FunV} (h : mayB l = true) : l.length ≤ 16 ∧ ∀ f ∈ l, (0 ≤ f.args ∧ f.args ≤ 16) ∧ (0 ≤ f.regs ∧ f.regs ≤ 16) ∧ f.ops.length ≤ 64 ∧ ∀ o ∈ f.ops, formB o = true := lk_form h
set_option maxRecDepth 100000 in
set_option maxHeartbeats 8000000 in
theorem rmay11_any {W : World} {x : Value} {l : List FunV} (hx : FunsAt W x l) (hl : Lim l) (ho : OkP l) : Calls Try.prog 8 #[.agg #[x]] W (RMayPost W l) := by
  have HV := Lib.hid hx
  have HL0 : Hid (RmW W x (W.alloc (.cells #[x] 24))) := Lib.hid ⟨Blk.new _ _ _, (Below.refl _ W).alloc (Nat.le_refl _) _⟩
  have HM := Lib.hid (rmay_any (hx.alloc (.cells #[x] 24)) hl ho)
  obtain ⟨p, cap, rfl⟩ := hx.slice
  have HLI := Lib.hid hl
  have HOK := Lib.hid ho
  clear hx hl ho
  cases hm : mayB l with
  | false =>
    rw [hm] at HM
    have hE : lookE l = (8, 0, 0) := by unfold lookE; rw [if_pos hm]
    clear hm
    as_aux_lemma =>
    go_enter Try.func8, Try.ntmps8
    go_wp2_with (go_at_call 19; ((with_reducible refine HM.out.mono ?_); rintro e w1 ⟨rfl, b1⟩))
    go_ret3
    exact ⟨8, 0, 0, rfl, hE, (HL0.out.step b1).bel⟩
  | true =>
    rw [hm] at HM
    obtain ⟨hm16, hmf⟩ := lk_form hm
    have HMF := Lib.hid hmf
    clear hmf
    by_cases hne : l = []
    · have hE : lookE l = (110, 0, 0) := by unfold lookE; rw [if_neg (by rw [hm]; decide), if_pos hne]
      subst hne
      clear hm HMF HOK HLI
      simp only [List.length_nil] at *
      as_aux_lemma =>
      go_enter Try.func8, Try.ntmps8
      go_wp2_with (go_at_call 19; ((with_reducible refine HM.out.mono ?_); rintro e w1 ⟨rfl, b1⟩; have HL1 := Lib.hid (HL0.out.step b1); have c00 : w1.cell? ⟨W.heap.size, 0, none⟩ = some (.slice p 0 cap) := HL1.out.t0.cell 0; clear b1))
      go_ret3
      exact ⟨110, 0, 0, rfl, hE, HL1.out.bel⟩
    · have hE0 : lookE l = funsE l 0 l := by unfold lookE; rw [if_neg (by rw [hm]; decide), if_neg hne]
      have hlp : 0 < l.length := List.length_pos_iff.2 hne
      have HE := Lib.hid hE0
      clear hE0 hm hne
      go_enter Try.func8, Try.ntmps8
      have hlz : ((l.length : Int) == 0) = false := beq_eq_false_iff_ne.2 (by omega)
      go_wp2_with (go_at_call 19; ((with_reducible refine HM.out.mono ?_); rintro e w1 ⟨rfl, b1⟩; have HL1 := Lib.hid (HL0.out.step b1); have c00 : w1.cell? ⟨W.heap.size, 0, none⟩ = some (.slice p l.length cap) := HL1.out.t0.cell 0; clear b1))
      have hz0 : RmRel W l (.slice p l.length cap) (.int .i64 0) w1 := ⟨0, by omega, rfl, fun j hj hlt => by omega, HL1.out⟩
      clear HL0 HM HL1 c00 hlz
      go_loopw [5] (fun u wr => RmRel W l (.slice p l.length cap) u wr) (fun u _ => ((l.length : Int) - intOf u).toNat)
      case atStart => exact hz0
      case round =>
        clear hz0
        obtain ⟨i, hi1, rfl, hno, hL⟩ := hrel
        obtain ⟨wz, rfl⟩ : ∃ wz, wz = wr := ⟨_, rfl⟩
        have HNO := Lib.hid hno
        have HLk := Lib.hid hL
        have p0 : wz.cell? ⟨W.heap.size, 0, none⟩ = some (.slice p l.length cap) := hL.t0.cell 0
        have hpl := hL.t0.lt
        clear hno
        by_cases hi : i < l.length
        · obtain ⟨p', c', e1, hy⟩ := HV.out
          injection e1 with e1 _ e3
          subst e1 e3
          obtain ⟨g, off, rfl, hg, hy⟩ := hy hlp
          obtain ⟨x0, x1, vo, x2, hvo⟩ := hy i hi
          rw [← hL.bel.cell (p := ⟨g, _, none⟩) hg] at x0 x1 x2
          obtain ⟨pj, cj, rfl⟩ := hvo.slice
          have hgl : g < wz.heap.size := Nat.lt_of_lt_of_le hg hL.bel.size
          have hki : (i : Int) < (l.length : Int) := by omega
          have hki0 : (0 : Int) ≤ (i : Int) := by omega
          have hfl := HLI.out.2 _ (List.getElem_mem hi)
          have hff := HMF.out _ (List.getElem_mem hi)
          have hfo := HOK.out _ (List.getElem_mem hi)
          have HVO := Lib.hid hvo
          have hfe := fun e k h => funsE_at l l 0 i hi (fun j hj hlt => HNO.out j hj hlt) e k h
          have hfn : ∀ h : funE l l[i] = none, ∀ j (hj : j < l.length), j < i + 1 → funE l l[j] = none := fun h j hj hlt => by
            rcases Nat.lt_or_ge j i with h2 | h2
            · exact HNO.out j hj h2
            · have : j = i := by omega
              subst this; exact h
          clear hy hvo hL
          generalize l[i] = f at *
          have HFE := Lib.hid hfe
          have HFN := Lib.hid hfn
          have HFF := Lib.hid hff
          have HFO := Lib.hid hfo.2.2
          clear hfe hfn hff hfo
          have HF2 : Hid (RmF W (.slice (some ⟨g, off, none⟩) l.length cap) wz.heap.size f (.slice pj f.ops.length cj) (wz.alloc (.cells #[.int .i64 f.args, .int .i64 f.regs, .slice pj f.ops.length cj] 47))) := Lib.hid
            ⟨HLk.out.step ((Below.refl _ wz).alloc (Nat.le_refl _) _), Blk.new wz _ _⟩
          by_cases ha : f.regs < f.args
          · have hE : lookE l = (110, i, 0) := by rw [HE.out, HFE.out 110 0 (by unfold funE; rw [if_pos ha]), Nat.zero_add]
            as_aux_lemma =>
            go_wp2_with fail
            go_ret3
            exact ⟨110, i, 0, rfl, hE, HF2.out.rm.bel⟩
          · have ha' : decide (f.regs < f.args) = false := decide_eq_false ha
            have HA := Lib.hid ha
            go_wp2_with fail
            have hz1 : RmRel2 W l (.slice (some ⟨g, off, none⟩) l.length cap) wz.heap.size f (.slice pj f.ops.length cj) (.int .i64 0) _ := ⟨0, by omega, rfl, fun j hj hlt => by omega, HF2.out⟩
            clear HF2 HLk x0 x1 x2 ha ha' p0
            generalize wz.heap.size = F at *
            go_loopw [7] (fun u wq => RmRel2 W l (.slice (some ⟨g, off, none⟩) l.length cap) F f (.slice pj f.ops.length cj) u wq) (fun u _ => ((f.ops.length : Int) - intOf u).toNat)
            case atStart => exact hz1
            case round =>
              clear hz1
              obtain ⟨k, hk1, rfl, hS, hF⟩ := hrel
              have HS := Lib.hid hS
              have HF := Lib.hid hF
              have p0 : wr.cell? ⟨W.heap.size, 0, none⟩ = some (.slice (some ⟨g, off, none⟩) l.length cap) := hF.rm.t0.cell 0
              have y0 : wr.cell? ⟨F, 0, none⟩ = some (.int .i64 f.args) := hF.f.cell 0
              have y1 : wr.cell? ⟨F, 1, none⟩ = some (.int .i64 f.regs) := hF.f.cell 1
              have y2 : wr.cell? ⟨F, 2, none⟩ = some (.slice pj f.ops.length cj) := hF.f.cell 2
              by_cases hk : k < f.ops.length
              · obtain ⟨pj', cj', e1, hz0⟩ := HVO.out
                injection e1 with e1 _ e3
                subst e1 e3
                obtain ⟨g5, off5, rfl, hg5, hz⟩ := hz0 (by omega)
                have w0 := hz k hk 0 (by decide)
                have w1 := hz k hk 1 (by decide)
                have w2 := hz k hk 2 (by decide)
                have w3 := hz k hk 3 (by decide)
                have w4 := hz k hk 4 (by decide)
                rw [← hF.rm.bel.cell (p := ⟨g5, _, none⟩) hg5] at w0 w1 w2 w3 w4
                have hform := HFF.out.2.2.2 _ (List.getElem_mem hk)
                have hok8 := (HFO.out _ (List.getElem_mem hk)).1
                have hkk : (k : Int) < (f.ops.length : Int) := by omega
                have hkk0 : (0 : Int) ≤ (k : Int) := by omega
                have hbad : opE l f f.ops[k] ≠ 0 → lookE l = (opE l f f.ops[k], i, k) := fun h => by
                  rw [HE.out, HFE.out (opE l f f.ops[k]) k (by unfold funE; rw [if_neg (by have := HA.out; omega), opsE_at l f f.ops 0 k hk (fun j hj hlt => HS.out j hj hlt) h, Nat.zero_add]), Nat.zero_add]
                have hnext : opE l f f.ops[k] = 0 → ∀ j (hj : j < f.ops.length), j < k + 1 → opE l f f.ops[j] = 0 := fun h j hj hlt => by
                  rcases Nat.lt_or_ge j k with h2 | h2
                  · exact HS.out j hj h2
                  · have : j = k := by omega
                    subst this; exact h
                clear hz hz0 hS hF
                generalize f.ops[k] = o at *
                obtain ⟨ok, od, oa, ob, on⟩ := o
                simp only [opA, List.getElem?_toArray, List.getElem?_cons_zero, List.getElem?_cons_succ, Nat.add_zero] at w0 w1 w2 w3 w4
                have HRT : Hid (∀ w, Below W.heap.size W w → Calls Try.prog 20 #[.agg #[.slice (some ⟨g, off, none⟩) l.length cap], .agg #[.int .i64 f.args, .int .i64 f.regs, .slice (some ⟨g5, off5, none⟩) f.ops.length cj], .agg #[.int .u8 ok, .int .i64 od, .int .i64 oa, .int .i64 ob, .int .i64 on]] w fun e w' => ∃ r : Int, e = .returned (.int .i64 r) ∧ r = opE l f ⟨ok, od, oa, ob, on⟩ ∧ Below w.heap.size w w') :=
                  Lib.hid (fun w hb => rop11_any (o := ⟨ok, od, oa, ob, on⟩) (f := f) (HV.out.below hb) rfl hok8 hform (fun g hg => (HMF.out g hg).1))
                generalize opE l f ⟨ok, od, oa, ob, on⟩ = E at *
                have HBAD := Lib.hid hbad
                have HNEXT := Lib.hid hnext
                have HBD := Lib.hid HF.out.rm.bel.drew
                have hg5l : g5 < wr.heap.size := Nat.lt_of_lt_of_le hg5 HF.out.rm.bel.size
                clear hbad hnext hform hok8
                go_upto_region 14 with fail
                go_cut [8] (fun rv wc => rv = .int .i64 E ∧ Below wr.heap.size wr wc)
                case first =>
                  go_region_with (go_at_call 20; ((with_reducible refine (HRT.out _ HBD.out).mono ?_); rintro e w5 ⟨r, rfl, hr, b5⟩; have hb5 := below_undrew b5; subst hr; have HB5 := Lib.hid hb5; clear b5 hb5))
                  all_goals (go_wp2_with fail; go_meet)
                  all_goals exact ⟨rfl, HB5.out⟩
                case rest =>
                  obtain ⟨rfl, hb⟩ := hcut
                  have HB5 := Lib.hid hb
                  clear hb w0 w1 w2 w3 w4 y0 y1 y2 p0
                  by_cases hE0 : E = 0
                  · have HN := Lib.hid (HNEXT.out hE0)
                    subst hE0
                    go_wp2_with fail
                    go_roundw
                    case rel => exact ⟨k + 1, by omega, rfl, HN.out, HF.out.rm.step HB5.out, HF.out.f.below HB5.out⟩
                    case measure => simp [intOf]; omega
                  · have hE' : (E == 0) = false := by simpa using hE0
                    have hE := HBAD.out hE0
                    clear hE0
                    go_wp2_with fail
                    go_ret3
                    exact ⟨E, i, k, rfl, hE, (HF.out.rm.step HB5.out).bel⟩
              · have : k = f.ops.length := by omega
                subst this
                have hends : funE l f = if endsB f.ops = true then none else some (113, f.ops.length - 1) := by
                  unfold funE; rw [if_neg (by have := HA.out; omega), opsE_none l f f.ops 0 (fun j hj => hS j hj hj)]
                clear hk hk1 y0 y1 hS HS hF
                by_cases hn0 : f.ops.length = 0
                · have hnz : ((f.ops.length : Int) == 0) = true := by simp [hn0]
                  have hE : lookE l = (113, i, 0) := by
                    rw [HE.out, HFE.out 113 0 (by rw [hends, List.eq_nil_of_length_eq_zero hn0]; rfl), Nat.zero_add]
                  clear hends hn0
                  generalize f.ops.length = n at *
                  as_aux_lemma =>
                  go_wp2_with fail
                  go_ret3
                  exact ⟨113, i, 0, rfl, hE, HF.out.rm.bel⟩
                · obtain ⟨pj', cj', e1, hz0⟩ := HVO.out
                  injection e1 with e1 _ e3
                  subst e1 e3
                  obtain ⟨g5, off5, rfl, hg5, hz⟩ := hz0 (by omega)
                  have w0 := hz (f.ops.length - 1) (by omega) 0 (by decide)
                  rw [← HF.out.rm.bel.cell (p := ⟨g5, _, none⟩) hg5] at w0
                  have hg5l : g5 < wr.heap.size := Nat.lt_of_lt_of_le hg5 HF.out.rm.bel.size
                  have hB := endsB_of (l := f.ops) (by omega)
                  simp only [opA, List.getElem?_toArray, List.getElem?_cons_zero, Nat.add_zero] at w0
                  generalize f.ops[f.ops.length - 1].k = K at *
                  have HB := Lib.hid hB
                  have HOPS := Lib.hid hends
                  clear hz hz0 hB hends
                  obtain ⟨N, hN⟩ : ∃ N, f.ops.length = N + 1 := ⟨f.ops.length - 1, by omega⟩
                  generalize f.ops.length = n at *
                  subst hN
                  clear hn0
                  simp only [Nat.add_sub_cancel] at w0 HOPS
                  have hnz : (((N + 1 : Nat) : Int) == 0) = false := beq_eq_false_iff_ne.2 (by omega)
                  by_cases h10 : K = 10
                  · subst h10
                    have hE : funE l f = none := by rw [HOPS.out, HB.out]; rfl
                    go_wp2_with fail
                    go_roundw
                    case rel => exact ⟨i + 1, by omega, rfl, HFN.out hE, HF.out.rm⟩
                    case measure => simp [intOf]; omega
                  · have h10' : (K == 10) = false := by simpa using h10
                    by_cases h14 : K = 14
                    · subst h14
                      have hE : funE l f = none := by rw [HOPS.out, HB.out]; rfl
                      go_wp2_with fail
                      go_roundw
                      case rel => exact ⟨i + 1, by omega, rfl, HFN.out hE, HF.out.rm⟩
                      case measure => simp [intOf]; omega
                    · have h14' : (K == 14) = false := by simpa using h14
                      have hE : lookE l = (113, i, N) := by
                        rw [HE.out, HFE.out 113 N (by rw [HOPS.out, HB.out, h10', h14']; rfl), Nat.zero_add]
                      have n10 : ¬ K = 10 := h10
                      have n14 : ¬ K = 14 := h14
                      have m10 : (K != 10) = true := by simpa using h10
                      have m14 : (K != 14) = true := by simpa using h14
                      as_aux_lemma =>
                      go_wp2_with fail
                      go_ret3
                      exact ⟨113, i, N, rfl, hE, HF.out.rm.bel⟩
        · have : i = l.length := by omega
          subst this
          have hE : lookE l = (0, 0, 0) := by rw [HE.out, funsE_none l l 0 (fun j hj => HNO.out j hj hj)]
          clear hL
          as_aux_lemma =>
          go_wp2_with fail
          go_ret3
          exact ⟨0, 0, 0, rfl, hE, HLk.out.bel⟩
end Go.Proofs.Ytpidhcogaoehhaa
