import Derived.Test.YtgdgonmhgpflcaaRpdC
import Derived.BigRegion
import Derived.BigQuiet

/- The walks of the document's Take, Stop, Call. No condition but that the caller's rows are not too long. -/
namespace Go.Proofs.Ytgdgonmhgpflcaa
open Go.RowKit Go.Maps Wire Rp
set_option linter.unusedVariables false
set_option linter.unusedSimpArgs false
section
variable {w w' w1 : World} {B0 bD bO r : Nat} {vL vD vO : Value} {s : St}
theorem onK_r (o : Only (· = r) w w') : OnK B0 bD bO r w w' := o.mono fun k _ e => .inl e
/-! ### Stop -/
def RStopP (w : World) (B0 bD bO r : Nat) (vD vO : Value) (q : Int × St) (e : Ending) (w' : World) : Prop := e = .returned (.int .i64 q.1) ∧ ∃ vL', RC w' B0 bD bO r vL' vD vO q.2 ∧ Only (· = r) w w'
set_option maxRecDepth 100000 in
theorem rstop_any (c : RC w B0 bD bO r vL vD vO s) (x : Int) : Calls Try.prog 40 #[.pointer (some ⟨r, 0, none⟩), .int .u64 x] w (RStopP w B0 bD bO r vD vO (stop1 s x)) := by
  have HC := Lib.hid c
  have HF := Lib.hid (find_any c x)
  cases hix : ixS s.L x with
  | none =>
    have HT : Hid (stop1 s x = (0, s)) := Lib.hid (by unfold stop1 hasS; rw [(ix_no hix).2]; rfl)
    have e1 : ixI s.L x = -1 := by unfold ixI; rw [hix]
    rw [e1] at HF
    clear hix e1 c
    go_enter Try.func40, Try.ntmps40
    go_wp2_with (go_at_call 72; go_loud ((with_reducible refine HF.out.mono ?_); rintro e w9 ⟨rfl, hw9⟩; have hw9 := hw9.symm; subst hw9))
    go_ret
    rw [HT.out]
    exact ⟨rfl, _, HC.out, Only.refl _ _⟩
  | some i =>
    obtain ⟨hi, hx, hfi⟩ := ix_some hix
    have HT : Hid (stop1 s x = (1, { s with L := s.L.filter (fun c => !(c.seq == x)) })) := Lib.hid (by
      have : hasS s x = true := by unfold hasS; rw [List.any_eq_true]; exact ⟨_, List.getElem_mem hi, by simp [hx]⟩
      unfold stop1; rw [this]; rfl)
    have e1 : ixI s.L x = (i : Int) := by unfold ixI; rw [hix]
    rw [e1] at HF
    have HG := gone_any c hi
    rw [hx] at HG
    have HG := Lib.hid HG
    have hi0 : ¬ (i : Int) < 0 := by omega
    clear hix e1 c hi hx hfi
    go_enter Try.func40, Try.ntmps40
    go_wp2_with (first
      | (go_at_call 72; go_loud ((with_reducible refine HF.out.mono ?_); rintro e w9 ⟨rfl, hw9⟩; have hw9 := hw9.symm; subst hw9))
      | (go_at_call 73; go_loud ((with_reducible refine HG.out.mono ?_); rintro e w5 ⟨rfl, vL5, hc5, ho5⟩; have HC5 := Lib.hid hc5; have HO5 := Lib.hid ho5; clear hc5 ho5)))
    go_ret
    rw [HT.out]
    exact ⟨rfl, _, HC5.out, HO5.out⟩
/-! ### Take -/
def RTakeP (w : World) (B0 bD bO r : Nat) (vD : Value) (q : Bool × Int × St) (e : Ending) (w' : World) : Prop := e = .returned (.tuple #[.bool q.1, .int .i64 q.2.1]) ∧ ∃ vL' vO', RC w' B0 bD bO r vL' vD vO' q.2.2 ∧ OnK B0 bD bO r w w'
set_option maxRecDepth 100000 in
set_option maxHeartbeats 4000000 in
theorem rtake_any (c : RC w B0 bD bO r vL vD vO s) {fr : Int} {p : Pk} (hn : s.ov.length < 2147483648) {q : Bool × Int × St} (hr : takeS s fr p = q) :
    Calls Try.prog 37 #[.pointer (some ⟨r, 0, none⟩), .int .i64 fr, pv p] w (RTakeP w B0 bD bO r vD q) := by
  have HR := Lib.hid hr
  have hc := c.alloc (.cells (pcells p) 24)
  have HC := Lib.hid hc
  have HX := Lib.hid (Blk.new w 24 (pcells p))
  have HPL := Lib.hid (rplace_any fr (w.alloc (.cells (pcells p) 24)))
  have HMY := Lib.hid (rmay_any p (w.alloc (.cells (pcells p) 24)))
  have HBW : Hid (OnK B0 bD bO r w (w.alloc (.cells (pcells p) 24))) := Lib.hid (OnK.of_below ((Below.refl _ _).alloc (Nat.le_refl _) _))
  have HN := Lib.hid hn
  clear hr hc c hn
  unfold takeS at HR
  cases hpl : placeB fr with
  | false =>
    rw [hpl] at HPL HR
    simp only [Bool.false_and, if_true] at HR
    have HT := Lib.hid HR.out.symm
    clear HR hpl
    obtain ⟨an, inc, sq, body⟩ := p
    unfold pv pcells at *
    go_enter Try.func37, Try.ntmps37
    go_wp2_with (go_at_call 59; ((with_reducible refine HPL.out.mono ?_); rintro e w9 ⟨rfl, hw9⟩; have hw9 := hw9.symm; subst hw9))
    go_ret2
    rw [HT.out]
    exact ⟨rfl, _, _, HC.out, HBW.out⟩
  | true =>
    cases hmy : mayP p with
    | false =>
      rw [hpl] at HPL
      rw [hmy] at HMY
      rw [hpl, hmy] at HR
      simp only [Bool.and_false, if_true] at HR
      have HT := Lib.hid HR.out.symm
      clear HR hpl hmy
      obtain ⟨an, inc, sq, body⟩ := p
      unfold pv pcells at *
      go_enter Try.func37, Try.ntmps37
      go_wp2_with (first | (go_at_call 59; ((with_reducible refine HPL.out.mono ?_); rintro e w9 ⟨rfl, hw9⟩; have hw9 := hw9.symm; subst hw9)) | (go_at_call 13; ((with_reducible refine HMY.out.mono ?_); rintro e w1 ⟨rfl, hb1⟩; have HB1 := Lib.hid hb1; clear hb1)))
      go_ret2
      rw [HT.out]
      exact ⟨rfl, _, _, HC.out.below HB1.out, HBW.out.step HB1.out⟩
    | true =>
      rw [hpl] at HPL
      rw [hmy] at HMY
      rw [hpl, hmy] at HR
      simp only [Bool.and_self, Bool.true_eq_false, if_false] at HR
      clear hpl hmy
      obtain ⟨an, inc, sq, body⟩ := p
      unfold pv pcells at *
      dsimp only at HR
      go_enter Try.func37, Try.ntmps37
      go_upto_region 3 with (first | (go_at_call 59; ((with_reducible refine HPL.out.mono ?_); rintro e w9 ⟨rfl, hw9⟩; have hw9 := hw9.symm; subst hw9)) | (go_at_call 13; ((with_reducible refine HMY.out.mono ?_); rintro e w1 ⟨rfl, hb1⟩; have HB1 := Lib.hid hb1; clear hb1)))
      have HC1 := Lib.hid (HC.out.below HB1.out)
      have HX1 := Lib.hid (HX.out.below HB1.out)
      have HO1 := Lib.hid (HBW.out.step HB1.out)
      clear HC HX HBW HB1
      generalize w.heap.size = Q at *
      have HF := Lib.hid (find_any HC1.out sq)
      have c5 := HC1.out.c5
      have c0 := HC1.out.c0
      have y0 : w1.cell? ⟨Q, 0, none⟩ = some (.bool an) := by rw [HX1.out.cell 0]; rfl
      have y1 : w1.cell? ⟨Q, 1, none⟩ = some (.int .u64 inc) := by rw [HX1.out.cell 1]; rfl
      have y2 : w1.cell? ⟨Q, 2, none⟩ = some (.int .u64 sq) := by rw [HX1.out.cell 2]; rfl
      have y3 : w1.cell? ⟨Q, 3, none⟩ = some (.string body) := by rw [HX1.out.cell 3]; rfl
      cases hix : ixS s.L sq with
      | none =>
        rw [(ix_no hix).1] at HR
        have HT := Lib.hid HR.out.symm
        dsimp only at HT
        have e1 : ixI s.L sq = -1 := by unfold ixI; rw [hix]
        rw [e1] at HF
        clear hix e1 HR
        generalize hsi : s.inc = si at *
        have HSI := Lib.hid hsi
        clear hsi
        cases an with
        | false =>
          go_upto_region 4 with (go_at_call 72; go_loud ((with_reducible refine HF.out.mono ?_); rintro e w9 ⟨rfl, hw9⟩; have hw9 := hw9.symm; subst hw9))
          refine Reg.wp_text (by kernel_rfl) (by kernel_rfl) ?_
          go_wp2_with fail
          refine Reg.fin (by kernel_rfl) ?_
          go_wp2_with fail
          go_ret2
          rw [HT.out]
          exact ⟨rfl, _, _, HC1.out.below (Below.refl _ w1).drew, HO1.out.step (Below.refl _ w1).drew⟩
        | true =>
          by_cases hi : inc = si
          · subst hi
            go_upto_region 4 with (go_at_call 72; go_loud ((with_reducible refine HF.out.mono ?_); rintro e w9 ⟨rfl, hw9⟩; have hw9 := hw9.symm; subst hw9))
            refine Reg.wp_text (by kernel_rfl) (by kernel_rfl) ?_
            go_wp2_with fail
            refine Reg.fin (by kernel_rfl) ?_
            go_wp2_with fail
            go_ret2
            rw [HT.out]
            exact ⟨rfl, _, _, HC1.out.below (Below.refl _ w1).drew, HO1.out.step (Below.refl _ w1).drew⟩
          · have hi' : (inc == si) = false := by simpa using hi
            have hi2 : (inc != si) = true := by simpa using hi
            go_upto_region 4 with (go_at_call 72; go_loud ((with_reducible refine HF.out.mono ?_); rintro e w9 ⟨rfl, hw9⟩; have hw9 := hw9.symm; subst hw9))
            refine Reg.wp_text (by kernel_rfl) (by kernel_rfl) ?_
            go_wp2_with fail
            refine Reg.fin (by kernel_rfl) ?_
            go_wp2_with fail
            go_ret2
            rw [HT.out]
            exact ⟨rfl, _, _, HC1.out.below (Below.refl _ w1).drew, HO1.out.step (Below.refl _ w1).drew⟩
      | some i =>
        obtain ⟨hi, hx, hfi⟩ := ix_some hix
        rw [hfi] at HR
        dsimp only at HR
        have e1 : ixI s.L sq = (i : Int) := by unfold ixI; rw [hix]
        rw [e1] at HF
        have HG := Lib.hid (fun (W : World) (h : RC W B0 bD bO r vL vD vO s) => gone_any h hi)
        rw [hx] at HG
        obtain ⟨g, cap, ev, _, hg, hgr, _, hz⟩ := HC1.out.call hi
        subst ev
        have z1 : w1.cell? ⟨g, i * 6 + 1, none⟩ = some (.int .i64 s.L[i].wh) := hz 1 (by decide)
        have hi0 : ¬ (i : Int) < 0 := by omega
        have hi1 : (0 : Int) ≤ (i : Int) := by omega
        have hil : (i : Int) < (s.L.length : Int) := by omega
        clear hix e1 hx hfi hz
        generalize s.L[i].wh = xw at *
        clear hi
        generalize hsi : s.inc = si at *
        have HSI := Lib.hid hsi
        clear hsi
        by_cases hgood : an = true ∧ inc = si ∧ xw = fr
        · obtain ⟨rfl, rfl, rfl⟩ := hgood
          have HT : Hid (q = (true, 0, endsS s ⟨sq, xw, body, 0⟩)) := Lib.hid (by rw [← HR.out]; simp)
          clear HR
          go_upto_region 4 with (go_at_call 72; go_loud ((with_reducible refine HF.out.mono ?_); rintro e w9 ⟨rfl, hw9⟩; have hw9 := hw9.symm; subst hw9))
          go_quiet (fail)
          have HC2 := Lib.hid (HC1.out.below (drewN_below' _ nq))
          have HO2 := Lib.hid (HO1.out.step (drewN_below' _ nq))
          have HX2 := Lib.hid (HX1.out.below (drewN_below' _ nq))
          clear HF c5 c0 y0 y1 y2 y3 z1 HC1 HO1 HX1
          generalize w1.drewN nq = w2 at *
          have HG2 := Lib.hid (HG.out _ HC2.out)
          go_upto_region 7 with (go_at_call 73; go_loud ((with_reducible refine HG2.out.mono ?_); rintro e w5 ⟨rfl, vL5, hc5, ho5⟩; have HC5 := Lib.hid hc5; have HO5 := Lib.hid ho5; have HX5 := Lib.hid (HX2.out.only ho5 (fun e => by have h1 := HX2.out; rw [show _ = r from e] at h1; exact absurd (blk_ne h1 HC2.out.blk) (by decide))); clear hc5 ho5))
          obtain ⟨po, co, rfl⟩ := HC5.out.oslice
          have HN5 := Lib.hid (show RC w5.drew _ _ _ _ _ _ _ _ from HC5.out.drew)
          have c7 := HC5.out.c7
          have c7n : ∀ o, (w5.alloc o).cell? ⟨r, 7, none⟩ = some (.slice po s.ov.length co) := fun o => (HC5.out.alloc o).c7
          have y2 : w5.cell? ⟨Q, 2, none⟩ = some (.int .u64 sq) := by rw [HX5.out.cell 2]; rfl
          have y3 : w5.cell? ⟨Q, 3, none⟩ = some (.string body) := by rw [HX5.out.cell 3]; rfl
          dsimp only at c7
          go_region_law (refine step_append_row2 (ys := ocells ⟨sq, xw, body, 0⟩) (by rfl) (by rfl) (by rfl) (by rfl) Try.underlying80 info_ended rfl rfl rfl (by decide) (by decide) HN5.out.ov HN.out (by have := HN5.out.sz; omega) (by first | rfl | simp) ?_; intro v6 w6 h6 o6; obtain ⟨p6, c6, rfl⟩ := owns_slice h6; obtain ⟨b6, hr6, on6⟩ := HN5.out.appO h6 o6; have HR6 := Lib.hid hr6; have HON6 := Lib.hid on6; have d1 : w6.cell? ⟨r, 7, none⟩ = some (.slice po s.ov.length co) := (by rw [b6.cell 7]; rfl); have f1 := b6.frozen 7; clear h6 o6 b6 hr6 on6)
          all_goals (clear d1 f1; generalize w6.setCell ⟨r, 7, none⟩ (.slice p6 (s.ov.length + 1) c6) = W6 at *)
          all_goals (go_wp2_with fail)
          all_goals go_ret2
          all_goals rw [HT.out]
          all_goals (have hsi := HSI.out; subst hsi)
          all_goals exact ⟨rfl, _, _, HR6.out, HO2.out.trans (OnK.trans (onK_r HO5.out) (OnK.undrew HON6.out))⟩
        · have HT : Hid (q = (false, 0, s)) := Lib.hid (by
            rw [← HR.out, if_neg]
            intro h
            simp only [Bool.and_eq_true, beq_iff_eq] at h
            exact hgood ⟨h.1.1, h.1.2, h.2⟩)
          clear HR
          cases an with
          | false =>
            clear hgood
            go_upto_region 4 with (go_at_call 72; go_loud ((with_reducible refine HF.out.mono ?_); rintro e w9 ⟨rfl, hw9⟩; have hw9 := hw9.symm; subst hw9))
            refine Reg.wp_text (by kernel_rfl) (by kernel_rfl) ?_
            go_wp2_with fail
            refine Reg.fin (by kernel_rfl) ?_
            go_wp2_with fail
            go_ret2
            rw [HT.out]
            exact ⟨rfl, _, _, HC1.out.below (Below.refl _ w1).drew, HO1.out.step (Below.refl _ w1).drew⟩
          | true =>
            by_cases hi : inc = si
            · subst hi
              have hw : ¬ xw = fr := fun e => hgood ⟨rfl, rfl, e⟩
              have hw' : (xw == fr) = false := by simpa using hw
              have hw2 : (xw != fr) = true := by simpa using hw
              clear hgood
              go_upto_region 4 with (go_at_call 72; go_loud ((with_reducible refine HF.out.mono ?_); rintro e w9 ⟨rfl, hw9⟩; have hw9 := hw9.symm; subst hw9))
              go_quiet (fail)
              go_wp2_with fail
              go_ret2
              rw [HT.out]
              exact ⟨rfl, _, _, HC1.out.below (drewN_below' _ nq), HO1.out.step (drewN_below' _ nq)⟩
            · have hi' : (inc == si) = false := by simpa using hi
              have hi2 : (inc != si) = true := by simpa using hi
              clear hgood
              go_upto_region 4 with (go_at_call 72; go_loud ((with_reducible refine HF.out.mono ?_); rintro e w9 ⟨rfl, hw9⟩; have hw9 := hw9.symm; subst hw9))
              refine Reg.wp_text (by kernel_rfl) (by kernel_rfl) ?_
              go_wp2_with fail
              refine Reg.fin (by kernel_rfl) ?_
              go_wp2_with fail
              go_ret2
              rw [HT.out]
              exact ⟨rfl, _, _, HC1.out.below (Below.refl _ w1).drew, HO1.out.step (Below.refl _ w1).drew⟩
end
end Go.Proofs.Ytgdgonmhgpflcaa
