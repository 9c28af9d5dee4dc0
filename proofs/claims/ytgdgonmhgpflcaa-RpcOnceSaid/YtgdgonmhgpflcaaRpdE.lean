import Derived.Test.YtgdgonmhgpflcaaRpdD

/- The walk of the document's Call. No condition but that the caller's rows are not too long. -/
namespace Go.Proofs.Ytgdgonmhgpflcaa
open Go.RowKit Go.Maps Wire Rp
set_option linter.unusedVariables false
set_option linter.unusedSimpArgs false
namespace Rp
theorem SInv.last1 {s : St} (hi : SInv s) (hl : s.last < 4611686018427387904) : SInv { s with last := s.last + 1 } :=
  ⟨hi.inc, hi.wait, hi.most, hi.tries, by have := hi.last; dsimp only; omega, hi.len, hi.ris, fun y hy => by have := hi.ok y hy; unfold C0ok at *; dsimp only at *; omega⟩
theorem SInv.add {s : St} (hi : SInv { s with last := s.last + 1 }) (hi0 : SInv s) {x : C0} (hx : x.seq = s.last + 1) (hok : C0ok { s with last := s.last + 1 } x) (hlen : s.L.length < 64) : SInv { s with last := s.last + 1, L := s.L ++ [x] } := by
  refine ⟨hi.inc, hi.wait, hi.most, hi.tries, hi.last, ?_, ?_, fun y hy => ?_⟩
  · simp; omega
  · refine List.pairwise_append.2 ⟨hi.ris, List.pairwise_singleton _ _, fun y hy z hz => ?_⟩
    simp at hz; subst hz
    have := (hi0.ok y hy).2.1; omega
  · rcases List.mem_append.1 hy with hy | hy
    · exact hi.ok y hy
    · simp at hy; subst hy; exact hok
end Rp
section
variable {w w' w1 : World} {B0 bD bO r : Nat} {vL vD vO : Value} {s : St}
theorem RC.setLast (c : RC w B0 bD bO r vL vD vO s) (hl : s.last < 4611686018427387904) : RC (w.setCell ⟨r, 4, none⟩ (.int .u64 (s.last + 1))) B0 bD bO r vL vD vO { s with last := s.last + 1 } := by
  have o7 : Only (· = r) w (w.setCell ⟨r, 4, none⟩ (.int .u64 (s.last + 1))) := (Only.refl _ w).set1
  have hs2 := setCell_size w ⟨r, 4, none⟩ (.int .u64 (s.last + 1))
  have hne : ∀ {base size n : Nat} {e : TypeId} {v : Value} {xs : List Value}, w.ownsRow base e size v n xs → 97 ≠ e → ∀ g, v.ownBlock = some g → ¬ g = r := fun h ht g hg => owns_ne h c.blk ht g hg
  refine ⟨?_, owns_only c.row o7 (hne c.row (by decide)), owns_only c.du o7 (hne c.du (by decide)), owns_only c.ov o7 (hne c.ov (by decide)), c.ge, ⟨by rw [hs2]; exact c.sz.1, by rw [hs2]; exact c.sz.2⟩, c.inv.last1 hl⟩
  have := c.blk.set 4 (.int .u64 (s.last + 1))
  rwa [setIf4] at this
def RCallP (w : World) (B0 bD bO r : Nat) (vO : Value) (q : Int × Int × St) (e : Ending) (w' : World) : Prop := e = .returned (.tuple #[.int .u64 q.1, .int .i64 q.2.1]) ∧ ∃ vL' vD', RC w' B0 bD bO r vL' vD' vO q.2.2 ∧ OnK B0 bD bO r w w'
set_option maxRecDepth 100000 in
set_option maxHeartbeats 4000000 in
theorem rcall_any (c : RC w B0 bD bO r vL vD vO s) {wh now : Int} {body : ByteArray} (hn : s.du.length < 2147483648) {q : Int × Int × St} (hr : callS s wh body now = q) :
    Calls Try.prog 35 #[.pointer (some ⟨r, 0, none⟩), .int .i64 wh, .string body, .int .i64 now] w (RCallP w B0 bD bO r vO q) := by
  have HR := Lib.hid hr
  have HC := Lib.hid c
  have HPL := Lib.hid (rplace_any wh w)
  have HTM := Lib.hid (rtime_any now w)
  have HN := Lib.hid hn
  unfold callS at HR
  clear hr hn
  cases hpl : placeB wh with
  | false =>
    rw [hpl] at HPL HR
    simp only [Bool.false_and, if_true] at HR
    clear hpl c
    go_enter Try.func35, Try.ntmps35
    go_wp2_with (go_at_call 59; ((with_reducible refine HPL.out.mono ?_); rintro e w9 ⟨rfl, hw9⟩; have hw9 := hw9.symm; subst hw9))
    go_ret2
    have := HR.out
    subst this
    exact ⟨rfl, _, _, HC.out, OnK.refl _ _ _ _ _⟩
  | true =>
    cases htm : timeB now with
    | false =>
      rw [hpl] at HPL
      rw [htm] at HTM
      rw [hpl, htm] at HR
      simp only [Bool.and_false, if_true] at HR
      clear hpl htm c
      go_enter Try.func35, Try.ntmps35
      go_wp2_with (first | (go_at_call 59; ((with_reducible refine HPL.out.mono ?_); rintro e w9 ⟨rfl, hw9⟩; have hw9 := hw9.symm; subst hw9)) | (go_at_call 70; ((with_reducible refine HTM.out.mono ?_); rintro e w9 ⟨rfl, hw9⟩; have hw9 := hw9.symm; subst hw9)))
      go_ret2
      have := HR.out
      subst this
      exact ⟨rfl, _, _, HC.out, OnK.refl _ _ _ _ _⟩
    | true =>
      rw [hpl] at HPL
      have HPV := Lib.hid hpl
      have HTV := Lib.hid htm
      rw [htm] at HTM
      rw [hpl, htm] at HR
      simp only [Bool.and_self, Bool.true_eq_false, if_false] at HR
      clear hpl htm
      have c5 := c.c5
      have c4 := c.c4
      obtain ⟨pL, cL, rfl⟩ := c.lslice
      clear c
      by_cases hbig : 8192 < body.size
      · have hbig' : (8192 : Int) < (body.size : Int) := by omega
        rw [if_pos hbig] at HR
        clear hbig
        go_enter Try.func35, Try.ntmps35
        go_wp2_with (first | (go_at_call 59; ((with_reducible refine HPL.out.mono ?_); rintro e w9 ⟨rfl, hw9⟩; have hw9 := hw9.symm; subst hw9)) | (go_at_call 70; ((with_reducible refine HTM.out.mono ?_); rintro e w9 ⟨rfl, hw9⟩; have hw9 := hw9.symm; subst hw9)))
        go_ret2
        have := HR.out
        subst this
        exact ⟨rfl, _, _, HC.out, OnK.refl _ _ _ _ _⟩
      · have hbig' : ¬ (8192 : Int) < (body.size : Int) := by omega
        have HBG := Lib.hid hbig
        rw [if_neg hbig] at HR
        clear hbig
        by_cases hfull : 64 ≤ s.L.length
        · have hf' : (64 : Int) ≤ (s.L.length : Int) := by omega
          rw [if_pos hfull] at HR
          clear hfull
          go_enter Try.func35, Try.ntmps35
          go_wp2_with (first | (go_at_call 59; ((with_reducible refine HPL.out.mono ?_); rintro e w9 ⟨rfl, hw9⟩; have hw9 := hw9.symm; subst hw9)) | (go_at_call 70; ((with_reducible refine HTM.out.mono ?_); rintro e w9 ⟨rfl, hw9⟩; have hw9 := hw9.symm; subst hw9)))
          go_ret2
          have := HR.out
          subst this
          exact ⟨rfl, _, _, HC.out, OnK.refl _ _ _ _ _⟩
        · have hf' : ¬ (64 : Int) ≤ (s.L.length : Int) := by omega
          have HFU := Lib.hid hfull
          rw [if_neg hfull] at HR
          clear hfull
          by_cases hl : 4611686018427387904 ≤ s.last
          · rw [if_pos hl] at HR
            go_enter Try.func35, Try.ntmps35
            go_wp2_with (first | (go_at_call 59; ((with_reducible refine HPL.out.mono ?_); rintro e w9 ⟨rfl, hw9⟩; have hw9 := hw9.symm; subst hw9)) | (go_at_call 70; ((with_reducible refine HTM.out.mono ?_); rintro e w9 ⟨rfl, hw9⟩; have hw9 := hw9.symm; subst hw9)))
            go_ret2
            have := HR.out
            subst this
            exact ⟨rfl, _, _, HC.out, OnK.refl _ _ _ _ _⟩
          · rw [if_neg hl] at HR
            have e1 : IntKind.u64.wrap (s.last + 1) = s.last + 1 := by have := HC.out.inv.last; rw [IntKind.wrap_u64]; omega
            have c4f := HC.out.fz 4
            have HL := Lib.hid (show s.last < 4611686018427387904 by omega)
            go_enter Try.func35, Try.ntmps35
            go_upto_region 10 with (first | (go_at_call 59; ((with_reducible refine HPL.out.mono ?_); rintro e w9 ⟨rfl, hw9⟩; have hw9 := hw9.symm; subst hw9)) | (go_at_call 70; ((with_reducible refine HTM.out.mono ?_); rintro e w9 ⟨rfl, hw9⟩; have hw9 := hw9.symm; subst hw9)))
            have HC1 := Lib.hid (HC.out.setLast HL.out)
            have HO1 : Hid (Only (· = r) w (w.setCell ⟨r, 4, none⟩ (.int .u64 (s.last + 1)))) := Lib.hid (Only.refl _ w).set1
            have HI0 := Lib.hid HC.out.inv
            have HOK : Hid (C0ok { s with last := s.last + 1 } ⟨s.last + 1, wh, body, 1, now + s.wait, s.wait⟩) := Lib.hid (by
              have h1 := HC.out.inv.wait
              have h2 := HTV.out
              have h3 := HPV.out
              have h4 := HC.out.inv.last
              have h6 := HBG.out
              unfold timeB at h2
              unfold placeB at h3
              simp only [Bool.and_eq_true, decide_eq_true_eq] at h2 h3
              unfold C0ok
              dsimp only
              omega)
            have HSI := Lib.hid (HC1.out.inv.add HI0.out (x := ⟨s.last + 1, wh, body, 1, now + s.wait, s.wait⟩) rfl HOK.out (by have := HFU.out; omega))
            have e2 : wrap64 (now + s.wait) = now + s.wait := by
              have h1 := HC.out.inv.wait
              have h2 := HTV.out
              unfold timeB at h2
              simp only [Bool.and_eq_true, decide_eq_true_eq] at h2
              unfold wrap64; omega
            clear c5 c4 c4f e1 HPL HTM hf' hbig' hl HC
            generalize w.setCell ⟨r, 4, none⟩ (.int .u64 (s.last + 1)) = W at *
            have b4 := HC1.out.c4
            have b1 := HC1.out.c1
            dsimp only at b4 b1
            generalize hsl : s.last + 1 = la at *
            have HLA := Lib.hid hsl
            clear hsl
            have b4n := fun o => (HC1.out.alloc o).c4
            have b1n := fun o => (HC1.out.alloc o).c1
            dsimp only at b4n b1n
            go_cut [10] (fun v wc => v = .pointer (some ⟨W.heap.size, 0, none⟩) ∧ Below W.heap.size W wc ∧ Blk wc W.heap.size 99 #[.int .u64 la, .int .i64 wh, .string body, .int .i64 1, .int .i64 (now + s.wait), .int .i64 s.wait])
            case first =>
              go_region
              all_goals (go_wp2_with fail; go_meet)
              all_goals exact ⟨rfl, ((Below.refl _ W).alloc (Nat.le_refl _) _).drew, (Blk.new W _ _).drew⟩
            case rest =>
              obtain ⟨rfl, hbx, hx2⟩ := hcut
              obtain ⟨X, rfl⟩ : ∃ X, X = wc := ⟨_, rfl⟩
              have HC2 := Lib.hid (HC1.out.below hbx)
              have HX2 := Lib.hid hx2
              have HO2 : Hid (OnK B0 bD bO r w X) := Lib.hid ((onK_r HO1.out).step hbx)
              have HVL : Hid (∀ k, (Value.slice pL s.L.length cL).ownBlock = some k → k < W.heap.size) := Lib.hid fun k hk => by obtain ⟨A, hA, _⟩ := HC1.out.ty.1 hk; exact hA.lt
              clear b4 b1 b4n b1n e2 HC1 HO1 hbx hx2
              generalize W.heap.size = Q at *
              generalize hnw : now + s.wait = nw at *
              have HNW := Lib.hid hnw
              clear hnw
              have HN5 := Lib.hid (show RC X.drew _ _ _ _ _ _ _ _ from HC2.out.drew)
              have HX5 := Lib.hid (show Blk X.drew Q 99 _ from HX2.out)
              have c5 := HC2.out.c5
              have c5n : ∀ o, (X.alloc o).cell? ⟨r, 5, none⟩ = some (.slice pL s.L.length cL) := fun o => (HC2.out.alloc o).c5
              have y0 : X.cell? ⟨Q, 0, none⟩ = some (.int .u64 la) := by rw [HX2.out.cell 0]; rfl
              have y1 : X.cell? ⟨Q, 1, none⟩ = some (.int .i64 wh) := by rw [HX2.out.cell 1]; rfl
              have y2 : X.cell? ⟨Q, 2, none⟩ = some (.string body) := by rw [HX2.out.cell 2]; rfl
              have y3 : X.cell? ⟨Q, 3, none⟩ = some (.int .i64 1) := by rw [HX2.out.cell 3]; rfl
              have y4 : X.cell? ⟨Q, 4, none⟩ = some (.int .i64 nw) := by rw [HX2.out.cell 4]; rfl
              have y5 : X.cell? ⟨Q, 5, none⟩ = some (.int .i64 s.wait) := by rw [HX2.out.cell 5]; rfl
              go_upto_region 11 with fail
              go_cut [] (fun wz => ∃ vL', RC wz B0 bD bO r vL' vD vO { s with last := la, L := s.L ++ [⟨la, wh, body, 1, nw, s.wait⟩] } ∧ OnK B0 bD bO r X wz ∧ Blk wz Q 99 #[.int .u64 la, .int .i64 wh, .string body, .int .i64 1, .int .i64 nw, .int .i64 s.wait])
              case first =>
                go_region_law (refine step_append_row2 (ys := kcells ⟨la, wh, body, 1, nw, s.wait⟩) (by rfl) (by rfl) (by rfl) (by rfl) Try.underlying95 info_call rfl rfl rfl (by decide) (by decide) HN5.out.row (by have := HFU.out; dsimp only; omega) (by have := HN5.out.ge; have := HN5.out.blk.lt; omega) (by first | rfl | simp) ?_; intro v6 w6 h6 o6; obtain ⟨p6, c6, rfl⟩ := owns_slice h6; obtain ⟨b6, hr6, on6⟩ := HN5.out.appL (o := ⟨la, wh, body, 1, nw, s.wait⟩) HSI.out h6 o6; have HX6 := Lib.hid ((HX5.out.only o6 (fun e => by have := HVL.out _ e; omega)).set_ne (p := ⟨r, 5, none⟩) (.slice p6 (s.L.length + 1) c6) (fun e => by have h1 := HX5.out; rw [show Q = r from e] at h1; exact absurd (blk_ne h1 HN5.out.blk) (by decide))); have HR6 := Lib.hid hr6; have HON6 := Lib.hid on6; have d1 : w6.cell? ⟨r, 5, none⟩ = some (.slice pL s.L.length cL) := (by rw [b6.cell 5]; rfl); have f1 := b6.frozen 5; clear h6 o6 b6 hr6 on6)
                all_goals (clear d1 f1; generalize w6.setCell ⟨r, 5, none⟩ (.slice p6 (s.L.length + 1) c6) = W6 at *)
                all_goals (go_wp2_with fail; go_meet)
                all_goals exact ⟨_, HR6.out, OnK.undrew HON6.out, HX6.out⟩
              case rest =>
                obtain ⟨vL7, hc7, ho7, hx7⟩ := hcut
                have HC7 := Lib.hid hc7
                have HO7 := Lib.hid (HO2.out.trans ho7)
                have HX7 := Lib.hid hx7
                clear c5 c5n y0 y1 y2 y3 y4 y5 HN5 HX5 hc7 ho7 hx7 HC2 HX2 HO2
                have y0 : wc.cell? ⟨Q, 0, none⟩ = some (.int .u64 la) := by rw [HX7.out.cell 0]; rfl
                have y1 : wc.cell? ⟨Q, 1, none⟩ = some (.int .i64 wh) := by rw [HX7.out.cell 1]; rfl
                have y2 : wc.cell? ⟨Q, 2, none⟩ = some (.string body) := by rw [HX7.out.cell 2]; rfl
                have y3 : wc.cell? ⟨Q, 3, none⟩ = some (.int .i64 1) := by rw [HX7.out.cell 3]; rfl
                have y4 : wc.cell? ⟨Q, 4, none⟩ = some (.int .i64 nw) := by rw [HX7.out.cell 4]; rfl
                have y5 : wc.cell? ⟨Q, 5, none⟩ = some (.int .i64 s.wait) := by rw [HX7.out.cell 5]; rfl
                have HDU := Lib.hid (rdue_any HC7.out ⟨la, wh, body, 1, nw, s.wait⟩ (by have := HLA.out; have := HI0.out.last; have := HL.out; unfold U64; dsimp only; omega) (by have := HBG.out; dsimp only; omega) HN.out)
                unfold kcells at HDU
                dsimp only at HDU
                go_wp2_with (go_at_call 71; go_loud ((with_reducible refine HDU.out.mono ?_); rintro e w8 ⟨rfl, vD8, hc8, ho8, hk8⟩; have HC8 := Lib.hid hc8; have HO8 := Lib.hid ho8; have HX8 := Lib.hid (hk8 _ _ HX7.out); clear hc8 ho8 hk8 y0 y1 y2 y3 y4 y5; have y0 : w8.cell? ⟨Q, 0, none⟩ = some (.int .u64 la) := (by rw [HX8.out.cell 0]; rfl)))
                go_ret2
                have := HR.out
                subst this
                have hh := HLA.out
                subst hh
                have hq := HNW.out
                subst hq
                exact ⟨rfl, _, _, HC8.out, HO7.out.trans HO8.out⟩
end
end Go.Proofs.Ytgdgonmhgpflcaa
