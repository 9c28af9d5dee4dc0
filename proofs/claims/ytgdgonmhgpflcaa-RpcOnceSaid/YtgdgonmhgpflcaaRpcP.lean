import Derived.Test.YtgdgonmhgpflcaaMgi
import Derived.StillTailTactics

/- The walk of who is called's Take. No condition but that he is one, not beyond any bound. -/
namespace Go.Proofs.Ytgdgonmhgpflcaa
open Go.RowKit Go.Maps Wire Rp
set_option linter.unusedVariables false
set_option linter.unusedSimpArgs false
/-- What a call leaves of who is called. -/
def DPost (w : World) (B0 c h : Nat) (M : Int → Nat) (s : List Pe) (N : Nat) (s' : List Pe) (w' : World) : Prop :=
  ∃ B' M' N', CdW w' B0 c h B' M' s' N' ∧ N' ≤ N + 2 ∧ OnD B0 (MO h M s) w w' ∧ ∀ k, MO h M' s' k → MO h M s k ∨ w.heap.size ≤ k
def TakeDP (w : World) (B0 c h : Nat) (M : Int → Nat) (s : List Pe) (N : Nat) (r : (Int × ByteArray × Int) × List Pe) (e : Ending) (w' : World) : Prop :=
  e = .returned (.tuple #[.int .u8 r.1.1, .string r.1.2.1, .int .i64 r.1.2.2]) ∧ DPost w B0 c h M s N r.2 w'
set_option maxRecDepth 100000 in
theorem dtake_nil (fr : Int) (p : Pk) (w : World) : Calls Try.prog 18 #[.pointer none, .int .i64 fr, pv p] w fun e w' => e = .returned (.tuple #[.int .u8 0, .string ⟨#[]⟩, .int .i64 1]) ∧ Below w.heap.size w w' := by
  have HB := Lib.hid ((Below.refl _ w).alloc (Nat.le_refl _) (.cells (pcells p) 24))
  obtain ⟨an, inc, sq, body⟩ := p
  unfold pv pcells at *
  dsimp only at *
  go_enter Try.func18, Try.ntmps18
  go_wp2_with fail
  go_ret3
  exact ⟨rfl, HB.out⟩
theorem mapnilP (h : Nat) (w : World) : (binOp .eql 118 (.map (some h)) (.map none)).run Try.prog w = .ok (.bool false) w := by kernel_rfl
/-- What stands behind the choice of the peer. -/
def MidD (w : World) (B0 c h : Nat) (M : Int → Nat) (s : List Pe) (N : Nat) (fr : Int) (x : Pe) (Q : Nat) (p : Pk) (v : Value) (wc : World) : Prop :=
  ∃ B' M' N', v = .pointer (some ⟨B' fr, 0, none⟩) ∧ CdW wc B0 c h B' M' (setPe s x) N' ∧ N' ≤ N + 1 ∧ OnD B0 (MO h M s) w wc ∧ (∀ k, MO h M' (setPe s x) k → MO h M s k ∨ w.heap.size ≤ k) ∧ Blk wc Q 24 (pcells p) ∧ w.heap.size ≤ Q
theorem MidD.step {w : World} {B0 c h : Nat} {M : Int → Nat} {s : List Pe} {N : Nat} {fr : Int} {x : Pe} {Q : Nat} {p : Pk} {v : Value} {wc wd : World} (m : MidD w B0 c h M s N fr x Q p v wc) (hb : Below wc.heap.size wc wd) : MidD w B0 c h M s N fr x Q p v wd := by
  obtain ⟨B', M', N', h1, h2, h3, h4, h5, h6, h7⟩ := m
  exact ⟨B', M', N', h1, h2.below hb, h3, h4.step hb, h5, h6.below hb, h7⟩
theorem newPW {w : World} {fr inc : Int} (hi : 1 ≤ inc ∧ inc ≤ 4611686018427387904) : PW ((w.alloc (.map #[] 0)).alloc (.cells #[.int .u64 inc, .int .u64 0, .map (some w.heap.size)] 125)) (w.heap.size + 1) w.heap.size ⟨fr, inc, 0, []⟩ 0 := by
  refine ⟨?_, ?_, hi, ⟨Int.le_refl 0, by show (0 : Int) ≤ 4611686018427387905; decide⟩, List.Pairwise.nil, fun h hh => by cases hh⟩
  · have := Blk.new (w.alloc (.map #[] 0)) 125 #[.int .u64 inc, .int .u64 0, .map (some w.heap.size)]
    simpa using this
  · have := (Ml.At.made w Try.prog 22 layH).below ((Below.refl _ _).alloc (Nat.le_refl _) (.cells #[.int .u64 inc, .int .u64 0, .map (some w.heap.size)] 125))
    simpa [hrows] using this
set_option maxRecDepth 100000 in
set_option maxHeartbeats 4000000 in
theorem dtake_any {w : World} {B0 c h N : Nat} {B M : Int → Nat} {s : List Pe} (d : CdW w B0 c h B M s N) {fr : Int} {p : Pk} (hu : U64 p.seq ∧ I64 fr) (hN : N ≤ 900000) {r : (Int × ByteArray × Int) × List Pe} (hr : takeD s fr p = r) :
    Calls Try.prog 18 #[.pointer (some ⟨c, 0, none⟩), .int .i64 fr, pv p] w (TakeDP w B0 c h M s N r) := by
  have HR := Lib.hid hr
  have hd := d.alloc (.cells (pcells p) 24)
  have HD := Lib.hid hd
  have HX := Lib.hid (Blk.new w 24 (pcells p))
  have HPL := Lib.hid (place_any fr (w.alloc (.cells (pcells p) 24)))
  have HMY := Lib.hid (pmay_any p (w.alloc (.cells (pcells p) 24)))
  have HBW : Hid (Below w.heap.size w (w.alloc (.cells (pcells p) 24))) := Lib.hid ((Below.refl _ _).alloc (Nat.le_refl _) _)
  have HBAD : Hid (∀ w', Below w.heap.size w w' → CdW w' B0 c h B M s N → DPost w B0 c h M s N s w') := Lib.hid fun w' hb hc => ⟨B, M, N, hc, by omega, OnD.of_below hb, fun k hk => .inl hk⟩
  have HN := Lib.hid (And.intro hu hN)
  have c0 := hd.c0
  have hcmp := mapnilP h
  unfold takeD at HR
  clear hr hd hu hN
  cases hpl : placeB fr with
  | false =>
    rw [hpl] at HPL HR
    simp only [Bool.false_and, if_true] at HR
    clear hpl d
    obtain ⟨an, inc, sq, body⟩ := p
    unfold pv pcells at *
    go_enter Try.func18, Try.ntmps18
    go_wp2_with (go_at_call 57; ((with_reducible refine HPL.out.mono ?_); rintro e w9 ⟨rfl, hw9⟩; have hw9 := hw9.symm; subst hw9))
    go_ret3
    have := HR.out
    subst this
    exact ⟨rfl, HBAD.out _ HBW.out HD.out⟩
  | true =>
    cases hmy : mayP p with
    | false =>
      rw [hpl] at HPL
      rw [hmy] at HMY
      rw [hpl, hmy] at HR
      simp only [Bool.and_false, Bool.false_and, if_true] at HR
      clear hpl hmy d
      obtain ⟨an, inc, sq, body⟩ := p
      unfold pv pcells at *
      go_enter Try.func18, Try.ntmps18
      go_wp2_with (first | (go_at_call 57; ((with_reducible refine HPL.out.mono ?_); rintro e w9 ⟨rfl, hw9⟩; have hw9 := hw9.symm; subst hw9)) | (go_at_call 41; ((with_reducible refine HMY.out.mono ?_); rintro e w1 ⟨rfl, hb1⟩; have HB1 := Lib.hid hb1; clear hb1)))
      go_ret3
      have := HR.out
      subst this
      exact ⟨rfl, HBAD.out _ (HBW.out.trans (HB1.out.mono HBW.out.size)) (HD.out.below HB1.out)⟩
    | true =>
      rw [hpl] at HPL
      rw [hmy] at HMY
      rw [hpl, hmy] at HR
      have HMV := Lib.hid hmy
      have HPV := Lib.hid hpl
      have HXF := Lib.hid (curPe_fr s fr p)
      clear hpl hmy d
      obtain ⟨an, inc, sq, body⟩ := p
      cases an with
      | true =>
        simp only [Bool.and_true, Bool.not_true, Bool.and_false, if_true] at HR
        unfold pv pcells at *
        go_enter Try.func18, Try.ntmps18
        go_upto_region 5 with (first | (go_at_call 57; ((with_reducible refine HPL.out.mono ?_); rintro e w9 ⟨rfl, hw9⟩; have hw9 := hw9.symm; subst hw9)) | (go_at_call 41; ((with_reducible refine HMY.out.mono ?_); rintro e w1 ⟨rfl, hb1⟩; have HB1 := Lib.hid hb1; clear hb1)))
        have HX1 := Lib.hid (HX.out.below HB1.out)
        have y0 : w1.cell? ⟨w.heap.size, 0, none⟩ = some (.bool true) := by rw [HX1.out.cell 0]; rfl
        go_wp2_with fail
        go_ret3
        have := HR.out
        subst this
        exact ⟨rfl, HBAD.out _ (HBW.out.trans (HB1.out.mono HBW.out.size)) (HD.out.below HB1.out)⟩
      | false =>
        simp only [Bool.and_true, Bool.not_false, Bool.true_eq_false, if_false] at HR
        unfold pv pcells at *
        go_enter Try.func18, Try.ntmps18
        go_upto_region 5 with (first | (go_at_call 57; ((with_reducible refine HPL.out.mono ?_); rintro e w9 ⟨rfl, hw9⟩; have hw9 := hw9.symm; subst hw9)) | (go_at_call 41; ((with_reducible refine HMY.out.mono ?_); rintro e w1 ⟨rfl, hb1⟩; have HB1 := Lib.hid hb1; clear hb1)))
        have HX1 := Lib.hid (HX.out.below HB1.out)
        have HD1 := Lib.hid (HD.out.below HB1.out)
        have HO1 := Lib.hid (HBW.out.trans (HB1.out.mono HBW.out.size))
        obtain ⟨Q, hQ⟩ : ∃ Q, w.heap.size = Q := ⟨_, rfl⟩
        rw [hQ] at HX1
        rw [hQ]
        have HQ := Lib.hid hQ
        clear HD HX HBW HB1 HBAD hQ c0
        have y0 : w1.cell? ⟨Q, 0, none⟩ = some (.bool false) := by rw [HX1.out.cell 0]; rfl
        go_upto_region 7 with fail
        have y1 : w1.cell? ⟨Q, 1, none⟩ = some (.int .u64 inc) := by rw [HX1.out.cell 1]; rfl
        have y2 : w1.cell? ⟨Q, 2, none⟩ = some (.int .u64 sq) := by rw [HX1.out.cell 2]; rfl
        have c0 := HD1.out.c0
        obtain ⟨x, hx⟩ : ∃ x, curPe (lookP s fr) fr ⟨false, inc, sq, body⟩ = x := ⟨_, rfl⟩
        rw [hx] at HR HXF
        have HQL : Hid (w.heap.size ≤ Q) := Lib.hid (by have := HQ.out; omega)
        have HINC : Hid (1 ≤ inc ∧ inc ≤ 4611686018427387904) := Lib.hid (by
          have h3 := HMV.out
          unfold mayP at h3
          simp only [Bool.and_eq_true, decide_eq_true_eq] at h3
          exact ⟨h3.1, h3.2.1⟩)
        cases hl : lookP s fr with
        | none =>
          have HXE : Hid (x = ⟨fr, inc, 0, []⟩) := Lib.hid (by rw [← hx, hl]; rfl)
          have hlk := mpP_miss HD1.out.mp (keysP_no hl) HN.out.1.2
          clear hl hx
          go_upto_region 8 with fail
          go_quiet (fail)
          have HD3 := Lib.hid (HD1.out.below (drewN_below' _ nq))
          have HX3 := Lib.hid (HX1.out.below (drewN_below' _ nq))
          have HO3 := Lib.hid (HO1.out.trans ((drewN_below' _ nq).mono HO1.out.size))
          clear HD1 HX1 HO1 hlk y0 y1 y2 c0
          generalize World.drewN _ _ = wd at *
          have y1 : wd.cell? ⟨Q, 1, none⟩ = some (.int .u64 inc) := by rw [HX3.out.cell 1]; rfl
          have hmm := @run_makeMap Try.prog
          go_upto_region 10 with fail
          clear y1 hmm
          have HPN := Lib.hid (newPW (w := wd) (fr := fr) (inc := inc) HINC.out)
          have HBN : Hid (Below wd.heap.size wd ((wd.alloc (.map #[] 0)).alloc (.cells #[.int .u64 inc, .int .u64 0, .map (some wd.heap.size)] 125))) := Lib.hid (((Below.refl _ _).alloc (Nat.le_refl _) _).alloc (by simp) _)
          have hnew := HD3.out.new (y := ⟨fr, inc, 0, []⟩) HBN.out (HPN.out.mono (Nat.zero_le N)) (Nat.le_succ _) (Nat.le_refl _) (by
            have h3 := HPV.out
            unfold placeB at h3
            simp only [Bool.and_eq_true, decide_eq_true_eq] at h3
            exact h3)
          obtain ⟨D, o, hput⟩ := hnew
          have HOO := Lib.hid o
          have HPU := Lib.hid hput
          have HKI := Lib.hid (keyIn HN.out.1.2)
          have HNM : Hid (N < maxLen) := Lib.hid (by have := HN.out.2; unfold maxLen; omega)
          have HXN := Lib.hid (HX3.out.below HBN.out)
          have HON := Lib.hid (HO3.out.trans (HBN.out.mono HO3.out.size))
          have c0 : ((wd.alloc (.map #[] 0)).alloc (.cells #[.int .u64 inc, .int .u64 0, .map (some wd.heap.size)] 125)).cell? ⟨c, 0, none⟩ = some (.map (some h)) := (HD3.out.below HBN.out).c0
          have HHX : Hid (Q ≠ h) := Lib.hid (fun e => at_neP HD3.out.mp HX3.out e.symm)
          clear o hput HPN HD3 HX3
          generalize (wd.alloc (.map #[] 0)).alloc (.cells #[.int .u64 inc, .int .u64 0, .map (some wd.heap.size)] 125) = W3 at *
          generalize hq : wd.heap.size + 1 = q at *
          have HWQ := Lib.hid (HO3.out.size)
          clear hq
          go_wp2_with (at_mapUpdate; go_loud (refine wpList_mapUpdate_own _ rfl _ _ _ 118 rfl 3 122 kdIn Try.underlying118 _ h N D rfl HOO.out HNM.out _ (.pointer (some ⟨q, 0, none⟩)) (KI fr) rfl rfl HKI.out (.lit (.int .i64 (q : Int))) [] rfl ?_; intro w6 o6 g6; have H6 := Lib.hid (HPU.out w6 o6 g6); have HX6 := Lib.hid (HXN.out.only (only_map g6) HHX.out); clear o6 g6 c0))
          have HMID2 : Hid (MidD w B0 c h M s N fr x Q ⟨false, inc, sq, body⟩ (.pointer (some ⟨q, 0, none⟩)) (w6.drewN 0)) := Lib.hid ⟨addB B fr q, addB M fr wd.heap.size, N + 1, by rw [addB_self], by rw [HXE.out]; exact H6.out.1, Nat.le_refl _, (OnD.of_below HO3.out).trans H6.out.2.1 (fun k hk => .inl hk), fun k hk => by
            rw [HXE.out] at hk
            rcases H6.out.2.2 k hk with e | e
            · exact .inl e
            · exact .inr (Nat.le_trans HWQ.out e), HX6.out, HQL.out⟩
          rw [show w6 = w6.drewN 0 from rfl]
          clear H6 HX6 HPU HOO HXN HON
          go_upto_region 11 with fail
          generalize World.drewN _ _ = W at *
          obtain ⟨B', M', N', hv, hcd, hn', hod, hmo, hblk, hwq⟩ := HMID2.out
          injection hv with hv
          injection hv with hv
          injection hv with hv
          have hlx : lookP (setPe s x) fr = some x := by rw [lookP_set, if_pos HXF.out.symm]
          have hxm := (lookP_some hlx).1
          have hpw := (hcd.pe x hxm).1
          rw [HXF.out, ← hv] at hpw
          obtain ⟨m, hm⟩ : ∃ m, M' fr = m := ⟨_, rfl⟩
          rw [hm] at hpw
          have HPW := Lib.hid hpw
          have HM := Lib.hid (And.intro hcd (And.intro hn' (And.intro hod hmo)))
          have HB := Lib.hid hblk
          have HE := Lib.hid (And.intro hv (And.intro hm hxm))
          clear hcd hn' hod hmo hblk hwq hlx hxm hpw hv hm HMID2
          have p0 := HPW.out.c0
          have p1 := HPW.out.c1
          have p2 := HPW.out.c2
          have y1 : W.cell? ⟨Q, 1, none⟩ = some (.int .u64 inc) := by rw [HB.out.cell 1]; rfl
          have y2 : W.cell? ⟨Q, 2, none⟩ = some (.int .u64 sq) := by rw [HB.out.cell 2]; rfl
          have p2n : ∀ o, (W.alloc o).cell? ⟨q, 2, none⟩ = some (.map (some m)) := fun o => (HPW.out.below ((Below.refl _ W).alloc (Nat.le_refl _) o)).c2
          have y2n : ∀ o, (W.alloc o).cell? ⟨Q, 2, none⟩ = some (.int .u64 sq) := fun o => by rw [(HB.out.alloc o).cell 2]; rfl
          have HEND : Hid (∀ w', Below W.heap.size W w' → DPost w B0 c h M s N (setPe s x) w') := Lib.hid fun w' hb => ⟨B', M', N', HM.out.1.below hb, by have := HM.out.2.1; omega, HM.out.2.2.1.step hb, HM.out.2.2.2⟩
          cases hlh : lookH x.L sq with
          | none =>
            have hno := lookH_none hlh
            have hlk := (HPW.out.below (Below.refl _ W).drew).miss HN.out.1.1 hno
            have hlk2 := (HPW.out.below ((Below.refl _ W).alloc (Nat.le_refl _) (.cells #[.bool false, .string ⟨#[]⟩] 127)).drew).miss HN.out.1.1 hno
            have HNO := Lib.hid hno
            unfold hval at hlk hlk2
            dsimp only at hlk hlk2
            clear hno
            go_cut [10, 11] (fun v u wc => v = .pointer (some ⟨W.heap.size, 0, none⟩) ∧ u = .bool false ∧ Below W.heap.size W wc ∧ Blk wc W.heap.size 127 #[.bool false, .string ⟨#[]⟩])
            case first =>
              go_region
              all_goals (go_wp2_with fail; go_meet)
              all_goals exact ⟨rfl, rfl, ((Below.refl _ W).alloc (Nat.le_refl _) _).drew, (Blk.new W _ _).drew⟩
            case rest =>
              obtain ⟨rfl, rfl, hbw, hbh⟩ := hcut
              have HBW := Lib.hid hbw
              have HPC := Lib.hid (HPW.out.below hbw)
              have HBC := Lib.hid (HB.out.below hbw)
              have b0 : wc.cell? ⟨W.heap.size, 0, none⟩ = some (.bool false) := by rw [hbh.cell 0]; rfl
              clear hbw hbh p0 p1 p2 y1 y2 hlk hlk2 p2n y2n
              have p0 := HPC.out.c0
              have p1 := HPC.out.c1
              have y1 : wc.cell? ⟨Q, 1, none⟩ = some (.int .u64 inc) := by rw [HBC.out.cell 1]; rfl
              have y2 : wc.cell? ⟨Q, 2, none⟩ = some (.int .u64 sq) := by rw [HBC.out.cell 2]; rfl
              go_upto_region 12 with fail
              by_cases h1 : inc < x.inc
              · have HT : Hid (r = ((4, ⟨#[]⟩, 0), setPe s x)) := Lib.hid (by rw [← HR.out]; unfold hear; dsimp only; rw [if_pos (.inl h1)])
                go_region
                go_wp2_with fail
                go_ret3
                rw [HT.out]
                exact ⟨rfl, HEND.out _ HBW.out.drew⟩
              · by_cases h2 : sq ≤ x.floor
                · have HT : Hid (r = ((4, ⟨#[]⟩, 0), setPe s x)) := Lib.hid (by rw [← HR.out]; unfold hear; dsimp only; rw [if_pos (.inr h2)])
                  go_region
                  go_upto_region 13 with fail
                  go_region
                  go_wp2_with fail
                  go_ret3
                  rw [HT.out]
                  exact ⟨rfl, HEND.out _ HBW.out.drew.drew⟩
                · have HCT := Lib.hid (count_any (HPC.out.below (Below.refl _ wc).drew.drew) (by have := HM.out.2.1; have := HN.out.2; omega) false)
                  by_cases h3 : 64 ≤ cntD false x.L
                  · have HT : Hid (r = ((3, ⟨#[]⟩, 0), setPe s x)) := Lib.hid (by rw [← HR.out]; unfold hear; dsimp only; rw [if_neg (by omega), hlh]; dsimp only; rw [if_pos h3])
                    have h3' : (64 : Int) ≤ ((cntD false x.L : Nat) : Int) := by omega
                    clear h3 hlh
                    go_region
                    go_upto_region 13 with fail
                    go_region
                    go_wp2_with (go_at_call 61; go_loud ((with_reducible refine HCT.out.mono ?_); rintro e w5 ⟨rfl, hb5⟩; have HB5 := Lib.hid hb5; clear hb5))
                    go_ret3
                    rw [HT.out]
                    exact ⟨rfl, HEND.out _ (HBW.out.drew.drew.trans (HB5.out.mono HBW.out.size))⟩
                  · have HT : Hid (r = ((1, ⟨#[]⟩, 0), setPe s { x with L := x.L ++ [⟨sq, false, ⟨#[]⟩⟩] })) := Lib.hid (by rw [← HR.out]; unfold hear; dsimp only; rw [if_neg (by omega), hlh]; dsimp only; rw [if_neg h3])
                    have h3' : ¬ (64 : Int) ≤ ((cntD false x.L : Nat) : Int) := by omega
                    clear h3 hlh
                    go_region
                    go_upto_region 13 with fail
                    go_region
                    go_upto_region 20 with (go_at_call 61; go_loud ((with_reducible refine HCT.out.mono ?_); rintro e w5 ⟨rfl, hb5⟩; have HB5 := Lib.hid (show Below wc.heap.size wc w5 from (Below.refl _ wc).drew.drew.trans hb5); clear hb5))
                    have HPC5 := Lib.hid (HPC.out.below HB5.out)
                    have HBC5 := Lib.hid (HBC.out.below HB5.out)
                    have HBW5 := Lib.hid (HBW.out.trans (HB5.out.mono HBW.out.size))
                    clear p0 p1 y1 y2 b0
                    have p2 := HPC5.out.c2
                    have y2 : w5.cell? ⟨Q, 2, none⟩ = some (.int .u64 sq) := by rw [HBC5.out.cell 2]; rfl
                    have hmv := mayP_of HMV.out
                    have hm2 := HMV.out
                    obtain ⟨D, o, hput⟩ := (HPC5.out.below (Below.refl _ w5).drew).put (h := ⟨sq, false, ⟨#[]⟩⟩) (by
                      unfold mayP at hm2
                      simp only [Bool.and_eq_true, decide_eq_true_eq] at hm2
                      exact ⟨hm2.2.2.1, hm2.2.2.2.1, by show (0 : Nat) ≤ 8192; omega⟩) HNO.out
                    have HOO := Lib.hid o
                    have HPU := Lib.hid hput
                    have HKEY := Lib.hid (keyR HN.out.1.1)
                    have HNM : Hid (N' < maxLen) := Lib.hid (by have := HM.out.2.1; have := HN.out.2; unfold maxLen; omega)
                    clear hput o hmv hm2
                    go_still_tail 7, (by kernel_rfl)
                    go_wp2_with (at_mapUpdate; go_loud (refine wpList_mapUpdate_own _ rfl _ _ _ 123 rfl 22 127 kdR Try.underlying123 _ m N' D rfl HOO.out HNM.out _ (hval (false, ⟨#[]⟩)) (KR sq) rfl rfl HKEY.out (hdat (false, ⟨#[]⟩)) [] rfl ?_; intro w6 o6 g6; have H6 := Lib.hid (HPU.out w6 o6 g6); clear o6 g6 p2 y2))
                    go_wp2_with fail
                    go_ret3
                    rw [HT.out]
                    have hxf := HXF.out
                    have hh := (HM.out.1.below HBW5.out.drew).heard HE.out.2.2 (y := { x with L := x.L ++ [⟨sq, false, ⟨#[]⟩⟩] }) rfl (N' := N' + 1) (Nat.le_succ _) (w' := w6) (by have e1 : B' x.fr = q := (by rw [hxf, ← HE.out.1]); have e2 : M' x.fr = m := (by rw [hxf, HE.out.2.1]); rw [e1, e2]; exact H6.out.1) (by have e1 : B' x.fr = q := (by rw [hxf, ← HE.out.1]); have e2 : M' x.fr = m := (by rw [hxf, HE.out.2.1]); rw [e1, e2]; exact H6.out.2.mono fun k _ e => .inr e)
                    rw [setPe_setPe (show ({ x with L := x.L ++ [⟨sq, false, ⟨#[]⟩⟩] } : Pe).fr = x.fr from rfl)] at hh
                    exact ⟨rfl, B', M', N' + 1, hh.1, by have := HM.out.2.1; omega, (HM.out.2.2.1.step HBW5.out.drew).trans hh.2.1 (fun k hk => HM.out.2.2.2 k hk), fun k hk => HM.out.2.2.2 k (hh.2.2 k hk)⟩
          | some h0 =>
            obtain ⟨hh0, hhs⟩ := lookH_some hlh
            have hlk := (HPW.out.below (Below.refl _ W).drew).hit hh0
            have hlk2 := (HPW.out.below ((Below.refl _ W).alloc (Nat.le_refl _) (.cells #[.bool false, .string ⟨#[]⟩] 127)).drew).hit hh0
            rw [hhs] at hlk hlk2
            unfold hval at hlk hlk2
            dsimp only at hlk hlk2
            go_cut [10, 11] (fun v u wc => v = .pointer (some ⟨W.heap.size, 0, none⟩) ∧ u = .bool true ∧ Below W.heap.size W wc ∧ Blk wc W.heap.size 127 #[.bool h0.dn, .string (txt x.inc h0)])
            case first =>
              go_region
              all_goals (go_wp2_with fail; go_meet)
              all_goals exact ⟨rfl, rfl, ((Below.refl _ W).alloc (Nat.le_refl _) _).drew, (Blk.new W _ _).drew⟩
            case rest =>
              obtain ⟨rfl, rfl, hbw, hbh⟩ := hcut
              have HBW := Lib.hid hbw
              have HBH := Lib.hid hbh
              have HPC := Lib.hid (HPW.out.below hbw)
              have HBC := Lib.hid (HB.out.below hbw)
              have b0 : wc.cell? ⟨W.heap.size, 0, none⟩ = some (.bool h0.dn) := by rw [hbh.cell 0]; rfl
              have b1 : wc.cell? ⟨W.heap.size, 1, none⟩ = some (.string (txt x.inc h0)) := by rw [hbh.cell 1]; rfl
              clear hbw hbh p0 p1 p2 y1 y2 hlk hlk2 p2n y2n
              have p0 := HPC.out.c0
              have p1 := HPC.out.c1
              have y1 : wc.cell? ⟨Q, 1, none⟩ = some (.int .u64 inc) := by rw [HBC.out.cell 1]; rfl
              have y2 : wc.cell? ⟨Q, 2, none⟩ = some (.int .u64 sq) := by rw [HBC.out.cell 2]; rfl
              go_upto_region 12 with fail
              by_cases h1 : inc < x.inc
              · have HT : Hid (r = ((4, ⟨#[]⟩, 0), setPe s x)) := Lib.hid (by rw [← HR.out]; unfold hear; dsimp only; rw [if_pos (.inl h1)])
                go_region
                go_wp2_with fail
                go_ret3
                rw [HT.out]
                exact ⟨rfl, HEND.out _ HBW.out.drew⟩
              · by_cases h2 : sq ≤ x.floor
                · have HT : Hid (r = ((4, ⟨#[]⟩, 0), setPe s x)) := Lib.hid (by rw [← HR.out]; unfold hear; dsimp only; rw [if_pos (.inr h2)])
                  go_region
                  go_upto_region 13 with fail
                  go_region
                  go_wp2_with fail
                  go_ret3
                  rw [HT.out]
                  exact ⟨rfl, HEND.out _ HBW.out.drew.drew⟩
                · have HT : Hid (r = if h0.dn then ((2, txt x.inc h0, 0), setPe s x) else ((3, ⟨#[]⟩, 0), setPe s x)) := Lib.hid (by
                    rw [← HR.out]; unfold hear; dsimp only; rw [if_neg (by omega), hlh]; dsimp only; unfold txt; cases h0.dn <;> rfl)
                  clear hlh hh0 hhs
                  generalize txt x.inc h0 = tx at *
                  generalize h0.dn = dn at *
                  cases dn with
                  | true =>
                    go_region
                    go_upto_region 13 with fail
                    go_region
                    go_upto_region 16 with fail
                    go_region
                    go_wp2_with fail
                    go_ret3
                    rw [HT.out]
                    exact ⟨rfl, HEND.out _ HBW.out.drew.drew.drew⟩
                  | false =>
                    go_region
                    go_upto_region 13 with fail
                    go_region
                    go_wp2_with fail
                    go_ret3
                    rw [HT.out]
                    exact ⟨rfl, HEND.out _ HBW.out.drew.drew⟩
        | some x0 =>
          obtain ⟨hx0, hxf0⟩ := lookP_some hl
          have hlk := mpP_hit HD1.out.mp (keysP_mem hx0) (by show I64 x0.fr; rw [hxf0]; exact HN.out.1.2)
          dsimp only at hlk
          rw [hxf0] at hlk
          have hpw := (HD1.out.pe x0 hx0).1
          rw [hxf0] at hpw
          by_cases hi : x0.inc < inc
          · have HXE : Hid (x = ⟨fr, inc, 0, []⟩) := Lib.hid (by rw [← hx, hl]; unfold curPe; dsimp only; rw [if_pos hi])
            have p0 := hpw.c0
            clear hl hx hx0 hxf0 hpw
            generalize B fr = qo at *
            go_upto_region 8 with fail
            go_quiet (fail)
            clear p0
            have HD3 := Lib.hid (HD1.out.below (drewN_below' _ nq))
            have HX3 := Lib.hid (HX1.out.below (drewN_below' _ nq))
            have HO3 := Lib.hid (HO1.out.trans ((drewN_below' _ nq).mono HO1.out.size))
            clear HD1 HX1 HO1 hlk y0 y1 y2 c0
            generalize World.drewN _ _ = wd at *
            have y1 : wd.cell? ⟨Q, 1, none⟩ = some (.int .u64 inc) := by rw [HX3.out.cell 1]; rfl
            have hmm := @run_makeMap Try.prog
            go_upto_region 10 with fail
            clear y1 hmm
            have HPN := Lib.hid (newPW (w := wd) (fr := fr) (inc := inc) HINC.out)
            have HBN : Hid (Below wd.heap.size wd ((wd.alloc (.map #[] 0)).alloc (.cells #[.int .u64 inc, .int .u64 0, .map (some wd.heap.size)] 125))) := Lib.hid (((Below.refl _ _).alloc (Nat.le_refl _) _).alloc (by simp) _)
            have hnew := HD3.out.new (y := ⟨fr, inc, 0, []⟩) HBN.out (HPN.out.mono (Nat.zero_le N)) (Nat.le_succ _) (Nat.le_refl _) (by
              have h3 := HPV.out
              unfold placeB at h3
              simp only [Bool.and_eq_true, decide_eq_true_eq] at h3
              exact h3)
            obtain ⟨D, o, hput⟩ := hnew
            have HOO := Lib.hid o
            have HPU := Lib.hid hput
            have HKI := Lib.hid (keyIn HN.out.1.2)
            have HNM : Hid (N < maxLen) := Lib.hid (by have := HN.out.2; unfold maxLen; omega)
            have HXN := Lib.hid (HX3.out.below HBN.out)
            have HON := Lib.hid (HO3.out.trans (HBN.out.mono HO3.out.size))
            have c0 : ((wd.alloc (.map #[] 0)).alloc (.cells #[.int .u64 inc, .int .u64 0, .map (some wd.heap.size)] 125)).cell? ⟨c, 0, none⟩ = some (.map (some h)) := (HD3.out.below HBN.out).c0
            have HHX : Hid (Q ≠ h) := Lib.hid (fun e => at_neP HD3.out.mp HX3.out e.symm)
            clear o hput HPN HD3 HX3
            generalize (wd.alloc (.map #[] 0)).alloc (.cells #[.int .u64 inc, .int .u64 0, .map (some wd.heap.size)] 125) = W3 at *
            generalize hq : wd.heap.size + 1 = q at *
            have HWQ := Lib.hid (HO3.out.size)
            clear hq
            go_wp2_with (at_mapUpdate; go_loud (refine wpList_mapUpdate_own _ rfl _ _ _ 118 rfl 3 122 kdIn Try.underlying118 _ h N D rfl HOO.out HNM.out _ (.pointer (some ⟨q, 0, none⟩)) (KI fr) rfl rfl HKI.out (.lit (.int .i64 (q : Int))) [] rfl ?_; intro w6 o6 g6; have H6 := Lib.hid (HPU.out w6 o6 g6); have HX6 := Lib.hid (HXN.out.only (only_map g6) HHX.out); clear o6 g6 c0))
            have HMID2 : Hid (MidD w B0 c h M s N fr x Q ⟨false, inc, sq, body⟩ (.pointer (some ⟨q, 0, none⟩)) (w6.drewN 0)) := Lib.hid ⟨addB B fr q, addB M fr wd.heap.size, N + 1, by rw [addB_self], by rw [HXE.out]; exact H6.out.1, Nat.le_refl _, (OnD.of_below HO3.out).trans H6.out.2.1 (fun k hk => .inl hk), fun k hk => by
              rw [HXE.out] at hk
              rcases H6.out.2.2 k hk with e | e
              · exact .inl e
              · exact .inr (Nat.le_trans HWQ.out e), HX6.out, HQL.out⟩
            rw [show w6 = w6.drewN 0 from rfl]
            clear H6 HX6 HPU HOO HXN HON
            go_upto_region 11 with fail
            generalize World.drewN _ _ = W at *
            obtain ⟨B', M', N', hv, hcd, hn', hod, hmo, hblk, hwq⟩ := HMID2.out
            injection hv with hv
            injection hv with hv
            injection hv with hv
            have hlx : lookP (setPe s x) fr = some x := by rw [lookP_set, if_pos HXF.out.symm]
            have hxm := (lookP_some hlx).1
            have hpw := (hcd.pe x hxm).1
            rw [HXF.out, ← hv] at hpw
            obtain ⟨m, hm⟩ : ∃ m, M' fr = m := ⟨_, rfl⟩
            rw [hm] at hpw
            have HPW := Lib.hid hpw
            have HM := Lib.hid (And.intro hcd (And.intro hn' (And.intro hod hmo)))
            have HB := Lib.hid hblk
            have HE := Lib.hid (And.intro hv (And.intro hm hxm))
            clear hcd hn' hod hmo hblk hwq hlx hxm hpw hv hm HMID2
            have p0 := HPW.out.c0
            have p1 := HPW.out.c1
            have p2 := HPW.out.c2
            have y1 : W.cell? ⟨Q, 1, none⟩ = some (.int .u64 inc) := by rw [HB.out.cell 1]; rfl
            have y2 : W.cell? ⟨Q, 2, none⟩ = some (.int .u64 sq) := by rw [HB.out.cell 2]; rfl
            have p2n : ∀ o, (W.alloc o).cell? ⟨q, 2, none⟩ = some (.map (some m)) := fun o => (HPW.out.below ((Below.refl _ W).alloc (Nat.le_refl _) o)).c2
            have y2n : ∀ o, (W.alloc o).cell? ⟨Q, 2, none⟩ = some (.int .u64 sq) := fun o => by rw [(HB.out.alloc o).cell 2]; rfl
            have HEND : Hid (∀ w', Below W.heap.size W w' → DPost w B0 c h M s N (setPe s x) w') := Lib.hid fun w' hb => ⟨B', M', N', HM.out.1.below hb, by have := HM.out.2.1; omega, HM.out.2.2.1.step hb, HM.out.2.2.2⟩
            cases hlh : lookH x.L sq with
            | none =>
              have hno := lookH_none hlh
              have hlk := (HPW.out.below (Below.refl _ W).drew).miss HN.out.1.1 hno
              have hlk2 := (HPW.out.below ((Below.refl _ W).alloc (Nat.le_refl _) (.cells #[.bool false, .string ⟨#[]⟩] 127)).drew).miss HN.out.1.1 hno
              have HNO := Lib.hid hno
              unfold hval at hlk hlk2
              dsimp only at hlk hlk2
              clear hno
              go_cut [10, 11] (fun v u wc => v = .pointer (some ⟨W.heap.size, 0, none⟩) ∧ u = .bool false ∧ Below W.heap.size W wc ∧ Blk wc W.heap.size 127 #[.bool false, .string ⟨#[]⟩])
              case first =>
                go_region
                all_goals (go_wp2_with fail; go_meet)
                all_goals exact ⟨rfl, rfl, ((Below.refl _ W).alloc (Nat.le_refl _) _).drew, (Blk.new W _ _).drew⟩
              case rest =>
                obtain ⟨rfl, rfl, hbw, hbh⟩ := hcut
                have HBW := Lib.hid hbw
                have HPC := Lib.hid (HPW.out.below hbw)
                have HBC := Lib.hid (HB.out.below hbw)
                have b0 : wc.cell? ⟨W.heap.size, 0, none⟩ = some (.bool false) := by rw [hbh.cell 0]; rfl
                clear hbw hbh p0 p1 p2 y1 y2 hlk hlk2 p2n y2n
                have p0 := HPC.out.c0
                have p1 := HPC.out.c1
                have y1 : wc.cell? ⟨Q, 1, none⟩ = some (.int .u64 inc) := by rw [HBC.out.cell 1]; rfl
                have y2 : wc.cell? ⟨Q, 2, none⟩ = some (.int .u64 sq) := by rw [HBC.out.cell 2]; rfl
                go_upto_region 12 with fail
                by_cases h1 : inc < x.inc
                · have HT : Hid (r = ((4, ⟨#[]⟩, 0), setPe s x)) := Lib.hid (by rw [← HR.out]; unfold hear; dsimp only; rw [if_pos (.inl h1)])
                  go_region
                  go_wp2_with fail
                  go_ret3
                  rw [HT.out]
                  exact ⟨rfl, HEND.out _ HBW.out.drew⟩
                · by_cases h2 : sq ≤ x.floor
                  · have HT : Hid (r = ((4, ⟨#[]⟩, 0), setPe s x)) := Lib.hid (by rw [← HR.out]; unfold hear; dsimp only; rw [if_pos (.inr h2)])
                    go_region
                    go_upto_region 13 with fail
                    go_region
                    go_wp2_with fail
                    go_ret3
                    rw [HT.out]
                    exact ⟨rfl, HEND.out _ HBW.out.drew.drew⟩
                  · have HCT := Lib.hid (count_any (HPC.out.below (Below.refl _ wc).drew.drew) (by have := HM.out.2.1; have := HN.out.2; omega) false)
                    by_cases h3 : 64 ≤ cntD false x.L
                    · have HT : Hid (r = ((3, ⟨#[]⟩, 0), setPe s x)) := Lib.hid (by rw [← HR.out]; unfold hear; dsimp only; rw [if_neg (by omega), hlh]; dsimp only; rw [if_pos h3])
                      have h3' : (64 : Int) ≤ ((cntD false x.L : Nat) : Int) := by omega
                      clear h3 hlh
                      go_region
                      go_upto_region 13 with fail
                      go_region
                      go_wp2_with (go_at_call 61; go_loud ((with_reducible refine HCT.out.mono ?_); rintro e w5 ⟨rfl, hb5⟩; have HB5 := Lib.hid hb5; clear hb5))
                      go_ret3
                      rw [HT.out]
                      exact ⟨rfl, HEND.out _ (HBW.out.drew.drew.trans (HB5.out.mono HBW.out.size))⟩
                    · have HT : Hid (r = ((1, ⟨#[]⟩, 0), setPe s { x with L := x.L ++ [⟨sq, false, ⟨#[]⟩⟩] })) := Lib.hid (by rw [← HR.out]; unfold hear; dsimp only; rw [if_neg (by omega), hlh]; dsimp only; rw [if_neg h3])
                      have h3' : ¬ (64 : Int) ≤ ((cntD false x.L : Nat) : Int) := by omega
                      clear h3 hlh
                      go_region
                      go_upto_region 13 with fail
                      go_region
                      go_upto_region 20 with (go_at_call 61; go_loud ((with_reducible refine HCT.out.mono ?_); rintro e w5 ⟨rfl, hb5⟩; have HB5 := Lib.hid (show Below wc.heap.size wc w5 from (Below.refl _ wc).drew.drew.trans hb5); clear hb5))
                      have HPC5 := Lib.hid (HPC.out.below HB5.out)
                      have HBC5 := Lib.hid (HBC.out.below HB5.out)
                      have HBW5 := Lib.hid (HBW.out.trans (HB5.out.mono HBW.out.size))
                      clear p0 p1 y1 y2 b0
                      have p2 := HPC5.out.c2
                      have y2 : w5.cell? ⟨Q, 2, none⟩ = some (.int .u64 sq) := by rw [HBC5.out.cell 2]; rfl
                      have hmv := mayP_of HMV.out
                      have hm2 := HMV.out
                      obtain ⟨D, o, hput⟩ := (HPC5.out.below (Below.refl _ w5).drew).put (h := ⟨sq, false, ⟨#[]⟩⟩) (by
                        unfold mayP at hm2
                        simp only [Bool.and_eq_true, decide_eq_true_eq] at hm2
                        exact ⟨hm2.2.2.1, hm2.2.2.2.1, by show (0 : Nat) ≤ 8192; omega⟩) HNO.out
                      have HOO := Lib.hid o
                      have HPU := Lib.hid hput
                      have HKEY := Lib.hid (keyR HN.out.1.1)
                      have HNM : Hid (N' < maxLen) := Lib.hid (by have := HM.out.2.1; have := HN.out.2; unfold maxLen; omega)
                      clear hput o hmv hm2
                      go_still_tail 7, (by kernel_rfl)
                      go_wp2_with (at_mapUpdate; go_loud (refine wpList_mapUpdate_own _ rfl _ _ _ 123 rfl 22 127 kdR Try.underlying123 _ m N' D rfl HOO.out HNM.out _ (hval (false, ⟨#[]⟩)) (KR sq) rfl rfl HKEY.out (hdat (false, ⟨#[]⟩)) [] rfl ?_; intro w6 o6 g6; have H6 := Lib.hid (HPU.out w6 o6 g6); clear o6 g6 p2 y2))
                      go_wp2_with fail
                      go_ret3
                      rw [HT.out]
                      have hxf := HXF.out
                      have hh := (HM.out.1.below HBW5.out.drew).heard HE.out.2.2 (y := { x with L := x.L ++ [⟨sq, false, ⟨#[]⟩⟩] }) rfl (N' := N' + 1) (Nat.le_succ _) (w' := w6) (by have e1 : B' x.fr = q := (by rw [hxf, ← HE.out.1]); have e2 : M' x.fr = m := (by rw [hxf, HE.out.2.1]); rw [e1, e2]; exact H6.out.1) (by have e1 : B' x.fr = q := (by rw [hxf, ← HE.out.1]); have e2 : M' x.fr = m := (by rw [hxf, HE.out.2.1]); rw [e1, e2]; exact H6.out.2.mono fun k _ e => .inr e)
                      rw [setPe_setPe (show ({ x with L := x.L ++ [⟨sq, false, ⟨#[]⟩⟩] } : Pe).fr = x.fr from rfl)] at hh
                      exact ⟨rfl, B', M', N' + 1, hh.1, by have := HM.out.2.1; omega, (HM.out.2.2.1.step HBW5.out.drew).trans hh.2.1 (fun k hk => HM.out.2.2.2 k hk), fun k hk => HM.out.2.2.2 k (hh.2.2 k hk)⟩
            | some h0 =>
              obtain ⟨hh0, hhs⟩ := lookH_some hlh
              have hlk := (HPW.out.below (Below.refl _ W).drew).hit hh0
              have hlk2 := (HPW.out.below ((Below.refl _ W).alloc (Nat.le_refl _) (.cells #[.bool false, .string ⟨#[]⟩] 127)).drew).hit hh0
              rw [hhs] at hlk hlk2
              unfold hval at hlk hlk2
              dsimp only at hlk hlk2
              go_cut [10, 11] (fun v u wc => v = .pointer (some ⟨W.heap.size, 0, none⟩) ∧ u = .bool true ∧ Below W.heap.size W wc ∧ Blk wc W.heap.size 127 #[.bool h0.dn, .string (txt x.inc h0)])
              case first =>
                go_region
                all_goals (go_wp2_with fail; go_meet)
                all_goals exact ⟨rfl, rfl, ((Below.refl _ W).alloc (Nat.le_refl _) _).drew, (Blk.new W _ _).drew⟩
              case rest =>
                obtain ⟨rfl, rfl, hbw, hbh⟩ := hcut
                have HBW := Lib.hid hbw
                have HBH := Lib.hid hbh
                have HPC := Lib.hid (HPW.out.below hbw)
                have HBC := Lib.hid (HB.out.below hbw)
                have b0 : wc.cell? ⟨W.heap.size, 0, none⟩ = some (.bool h0.dn) := by rw [hbh.cell 0]; rfl
                have b1 : wc.cell? ⟨W.heap.size, 1, none⟩ = some (.string (txt x.inc h0)) := by rw [hbh.cell 1]; rfl
                clear hbw hbh p0 p1 p2 y1 y2 hlk hlk2 p2n y2n
                have p0 := HPC.out.c0
                have p1 := HPC.out.c1
                have y1 : wc.cell? ⟨Q, 1, none⟩ = some (.int .u64 inc) := by rw [HBC.out.cell 1]; rfl
                have y2 : wc.cell? ⟨Q, 2, none⟩ = some (.int .u64 sq) := by rw [HBC.out.cell 2]; rfl
                go_upto_region 12 with fail
                by_cases h1 : inc < x.inc
                · have HT : Hid (r = ((4, ⟨#[]⟩, 0), setPe s x)) := Lib.hid (by rw [← HR.out]; unfold hear; dsimp only; rw [if_pos (.inl h1)])
                  go_region
                  go_wp2_with fail
                  go_ret3
                  rw [HT.out]
                  exact ⟨rfl, HEND.out _ HBW.out.drew⟩
                · by_cases h2 : sq ≤ x.floor
                  · have HT : Hid (r = ((4, ⟨#[]⟩, 0), setPe s x)) := Lib.hid (by rw [← HR.out]; unfold hear; dsimp only; rw [if_pos (.inr h2)])
                    go_region
                    go_upto_region 13 with fail
                    go_region
                    go_wp2_with fail
                    go_ret3
                    rw [HT.out]
                    exact ⟨rfl, HEND.out _ HBW.out.drew.drew⟩
                  · have HT : Hid (r = if h0.dn then ((2, txt x.inc h0, 0), setPe s x) else ((3, ⟨#[]⟩, 0), setPe s x)) := Lib.hid (by
                      rw [← HR.out]; unfold hear; dsimp only; rw [if_neg (by omega), hlh]; dsimp only; unfold txt; cases h0.dn <;> rfl)
                    clear hlh hh0 hhs
                    generalize txt x.inc h0 = tx at *
                    generalize h0.dn = dn at *
                    cases dn with
                    | true =>
                      go_region
                      go_upto_region 13 with fail
                      go_region
                      go_upto_region 16 with fail
                      go_region
                      go_wp2_with fail
                      go_ret3
                      rw [HT.out]
                      exact ⟨rfl, HEND.out _ HBW.out.drew.drew.drew⟩
                    | false =>
                      go_region
                      go_upto_region 13 with fail
                      go_region
                      go_wp2_with fail
                      go_ret3
                      rw [HT.out]
                      exact ⟨rfl, HEND.out _ HBW.out.drew.drew⟩
          · have HXE : Hid (x = x0) := Lib.hid (by rw [← hx, hl]; unfold curPe; dsimp only; rw [if_neg hi])
            have HMID : Hid (MidD w B0 c h M s N fr x Q ⟨false, inc, sq, body⟩ (.pointer (some ⟨B fr, 0, none⟩)) w1) := Lib.hid ⟨B, M, N, rfl, by
              have e := HXE.out
              subst e
              rw [setPe_self HD1.out.dis (by rw [hxf0]; exact hl)]
              exact HD1.out, Nat.le_succ _, OnD.of_below HO1.out, fun k hk => by
              have e := HXE.out
              subst e
              rw [setPe_self HD1.out.dis (by rw [hxf0]; exact hl)] at hk
              exact .inl hk, HX1.out, HQL.out⟩
            have p0 := hpw.c0
            clear hl hx hx0 hxf0 hpw HD1 HX1 HO1
            generalize B fr = q at *
            have hi' : ¬ x0.inc < inc := hi
            go_upto_region 8 with fail
            go_quiet (fail)
            have HMID2 := Lib.hid (HMID.out.step (drewN_below' _ nq))
            clear HMID c0 hlk p0 y0 y1 y2
            go_upto_region 11 with fail
            generalize World.drewN _ _ = W at *
            obtain ⟨B', M', N', hv, hcd, hn', hod, hmo, hblk, hwq⟩ := HMID2.out
            injection hv with hv
            injection hv with hv
            injection hv with hv
            have hlx : lookP (setPe s x) fr = some x := by rw [lookP_set, if_pos HXF.out.symm]
            have hxm := (lookP_some hlx).1
            have hpw := (hcd.pe x hxm).1
            rw [HXF.out, ← hv] at hpw
            obtain ⟨m, hm⟩ : ∃ m, M' fr = m := ⟨_, rfl⟩
            rw [hm] at hpw
            have HPW := Lib.hid hpw
            have HM := Lib.hid (And.intro hcd (And.intro hn' (And.intro hod hmo)))
            have HB := Lib.hid hblk
            have HE := Lib.hid (And.intro hv (And.intro hm hxm))
            clear hcd hn' hod hmo hblk hwq hlx hxm hpw hv hm HMID2
            have p0 := HPW.out.c0
            have p1 := HPW.out.c1
            have p2 := HPW.out.c2
            have y1 : W.cell? ⟨Q, 1, none⟩ = some (.int .u64 inc) := by rw [HB.out.cell 1]; rfl
            have y2 : W.cell? ⟨Q, 2, none⟩ = some (.int .u64 sq) := by rw [HB.out.cell 2]; rfl
            have p2n : ∀ o, (W.alloc o).cell? ⟨q, 2, none⟩ = some (.map (some m)) := fun o => (HPW.out.below ((Below.refl _ W).alloc (Nat.le_refl _) o)).c2
            have y2n : ∀ o, (W.alloc o).cell? ⟨Q, 2, none⟩ = some (.int .u64 sq) := fun o => by rw [(HB.out.alloc o).cell 2]; rfl
            have HEND : Hid (∀ w', Below W.heap.size W w' → DPost w B0 c h M s N (setPe s x) w') := Lib.hid fun w' hb => ⟨B', M', N', HM.out.1.below hb, by have := HM.out.2.1; omega, HM.out.2.2.1.step hb, HM.out.2.2.2⟩
            cases hlh : lookH x.L sq with
            | none =>
              have hno := lookH_none hlh
              have hlk := (HPW.out.below (Below.refl _ W).drew).miss HN.out.1.1 hno
              have hlk2 := (HPW.out.below ((Below.refl _ W).alloc (Nat.le_refl _) (.cells #[.bool false, .string ⟨#[]⟩] 127)).drew).miss HN.out.1.1 hno
              have HNO := Lib.hid hno
              unfold hval at hlk hlk2
              dsimp only at hlk hlk2
              clear hno
              go_cut [10, 11] (fun v u wc => v = .pointer (some ⟨W.heap.size, 0, none⟩) ∧ u = .bool false ∧ Below W.heap.size W wc ∧ Blk wc W.heap.size 127 #[.bool false, .string ⟨#[]⟩])
              case first =>
                go_region
                all_goals (go_wp2_with fail; go_meet)
                all_goals exact ⟨rfl, rfl, ((Below.refl _ W).alloc (Nat.le_refl _) _).drew, (Blk.new W _ _).drew⟩
              case rest =>
                obtain ⟨rfl, rfl, hbw, hbh⟩ := hcut
                have HBW := Lib.hid hbw
                have HPC := Lib.hid (HPW.out.below hbw)
                have HBC := Lib.hid (HB.out.below hbw)
                have b0 : wc.cell? ⟨W.heap.size, 0, none⟩ = some (.bool false) := by rw [hbh.cell 0]; rfl
                clear hbw hbh p0 p1 p2 y1 y2 hlk hlk2 p2n y2n
                have p0 := HPC.out.c0
                have p1 := HPC.out.c1
                have y1 : wc.cell? ⟨Q, 1, none⟩ = some (.int .u64 inc) := by rw [HBC.out.cell 1]; rfl
                have y2 : wc.cell? ⟨Q, 2, none⟩ = some (.int .u64 sq) := by rw [HBC.out.cell 2]; rfl
                go_upto_region 12 with fail
                by_cases h1 : inc < x.inc
                · have HT : Hid (r = ((4, ⟨#[]⟩, 0), setPe s x)) := Lib.hid (by rw [← HR.out]; unfold hear; dsimp only; rw [if_pos (.inl h1)])
                  go_region
                  go_wp2_with fail
                  go_ret3
                  rw [HT.out]
                  exact ⟨rfl, HEND.out _ HBW.out.drew⟩
                · by_cases h2 : sq ≤ x.floor
                  · have HT : Hid (r = ((4, ⟨#[]⟩, 0), setPe s x)) := Lib.hid (by rw [← HR.out]; unfold hear; dsimp only; rw [if_pos (.inr h2)])
                    go_region
                    go_upto_region 13 with fail
                    go_region
                    go_wp2_with fail
                    go_ret3
                    rw [HT.out]
                    exact ⟨rfl, HEND.out _ HBW.out.drew.drew⟩
                  · have HCT := Lib.hid (count_any (HPC.out.below (Below.refl _ wc).drew.drew) (by have := HM.out.2.1; have := HN.out.2; omega) false)
                    by_cases h3 : 64 ≤ cntD false x.L
                    · have HT : Hid (r = ((3, ⟨#[]⟩, 0), setPe s x)) := Lib.hid (by rw [← HR.out]; unfold hear; dsimp only; rw [if_neg (by omega), hlh]; dsimp only; rw [if_pos h3])
                      have h3' : (64 : Int) ≤ ((cntD false x.L : Nat) : Int) := by omega
                      clear h3 hlh
                      go_region
                      go_upto_region 13 with fail
                      go_region
                      go_wp2_with (go_at_call 61; go_loud ((with_reducible refine HCT.out.mono ?_); rintro e w5 ⟨rfl, hb5⟩; have HB5 := Lib.hid hb5; clear hb5))
                      go_ret3
                      rw [HT.out]
                      exact ⟨rfl, HEND.out _ (HBW.out.drew.drew.trans (HB5.out.mono HBW.out.size))⟩
                    · have HT : Hid (r = ((1, ⟨#[]⟩, 0), setPe s { x with L := x.L ++ [⟨sq, false, ⟨#[]⟩⟩] })) := Lib.hid (by rw [← HR.out]; unfold hear; dsimp only; rw [if_neg (by omega), hlh]; dsimp only; rw [if_neg h3])
                      have h3' : ¬ (64 : Int) ≤ ((cntD false x.L : Nat) : Int) := by omega
                      clear h3 hlh
                      go_region
                      go_upto_region 13 with fail
                      go_region
                      go_upto_region 20 with (go_at_call 61; go_loud ((with_reducible refine HCT.out.mono ?_); rintro e w5 ⟨rfl, hb5⟩; have HB5 := Lib.hid (show Below wc.heap.size wc w5 from (Below.refl _ wc).drew.drew.trans hb5); clear hb5))
                      have HPC5 := Lib.hid (HPC.out.below HB5.out)
                      have HBC5 := Lib.hid (HBC.out.below HB5.out)
                      have HBW5 := Lib.hid (HBW.out.trans (HB5.out.mono HBW.out.size))
                      clear p0 p1 y1 y2 b0
                      have p2 := HPC5.out.c2
                      have y2 : w5.cell? ⟨Q, 2, none⟩ = some (.int .u64 sq) := by rw [HBC5.out.cell 2]; rfl
                      have hmv := mayP_of HMV.out
                      have hm2 := HMV.out
                      obtain ⟨D, o, hput⟩ := (HPC5.out.below (Below.refl _ w5).drew).put (h := ⟨sq, false, ⟨#[]⟩⟩) (by
                        unfold mayP at hm2
                        simp only [Bool.and_eq_true, decide_eq_true_eq] at hm2
                        exact ⟨hm2.2.2.1, hm2.2.2.2.1, by show (0 : Nat) ≤ 8192; omega⟩) HNO.out
                      have HOO := Lib.hid o
                      have HPU := Lib.hid hput
                      have HKEY := Lib.hid (keyR HN.out.1.1)
                      have HNM : Hid (N' < maxLen) := Lib.hid (by have := HM.out.2.1; have := HN.out.2; unfold maxLen; omega)
                      clear hput o hmv hm2
                      go_still_tail 7, (by kernel_rfl)
                      go_wp2_with (at_mapUpdate; go_loud (refine wpList_mapUpdate_own _ rfl _ _ _ 123 rfl 22 127 kdR Try.underlying123 _ m N' D rfl HOO.out HNM.out _ (hval (false, ⟨#[]⟩)) (KR sq) rfl rfl HKEY.out (hdat (false, ⟨#[]⟩)) [] rfl ?_; intro w6 o6 g6; have H6 := Lib.hid (HPU.out w6 o6 g6); clear o6 g6 p2 y2))
                      go_wp2_with fail
                      go_ret3
                      rw [HT.out]
                      have hxf := HXF.out
                      have hh := (HM.out.1.below HBW5.out.drew).heard HE.out.2.2 (y := { x with L := x.L ++ [⟨sq, false, ⟨#[]⟩⟩] }) rfl (N' := N' + 1) (Nat.le_succ _) (w' := w6) (by have e1 : B' x.fr = q := (by rw [hxf, ← HE.out.1]); have e2 : M' x.fr = m := (by rw [hxf, HE.out.2.1]); rw [e1, e2]; exact H6.out.1) (by have e1 : B' x.fr = q := (by rw [hxf, ← HE.out.1]); have e2 : M' x.fr = m := (by rw [hxf, HE.out.2.1]); rw [e1, e2]; exact H6.out.2.mono fun k _ e => .inr e)
                      rw [setPe_setPe (show ({ x with L := x.L ++ [⟨sq, false, ⟨#[]⟩⟩] } : Pe).fr = x.fr from rfl)] at hh
                      exact ⟨rfl, B', M', N' + 1, hh.1, by have := HM.out.2.1; omega, (HM.out.2.2.1.step HBW5.out.drew).trans hh.2.1 (fun k hk => HM.out.2.2.2 k hk), fun k hk => HM.out.2.2.2 k (hh.2.2 k hk)⟩
            | some h0 =>
              obtain ⟨hh0, hhs⟩ := lookH_some hlh
              have hlk := (HPW.out.below (Below.refl _ W).drew).hit hh0
              have hlk2 := (HPW.out.below ((Below.refl _ W).alloc (Nat.le_refl _) (.cells #[.bool false, .string ⟨#[]⟩] 127)).drew).hit hh0
              rw [hhs] at hlk hlk2
              unfold hval at hlk hlk2
              dsimp only at hlk hlk2
              go_cut [10, 11] (fun v u wc => v = .pointer (some ⟨W.heap.size, 0, none⟩) ∧ u = .bool true ∧ Below W.heap.size W wc ∧ Blk wc W.heap.size 127 #[.bool h0.dn, .string (txt x.inc h0)])
              case first =>
                go_region
                all_goals (go_wp2_with fail; go_meet)
                all_goals exact ⟨rfl, rfl, ((Below.refl _ W).alloc (Nat.le_refl _) _).drew, (Blk.new W _ _).drew⟩
              case rest =>
                obtain ⟨rfl, rfl, hbw, hbh⟩ := hcut
                have HBW := Lib.hid hbw
                have HBH := Lib.hid hbh
                have HPC := Lib.hid (HPW.out.below hbw)
                have HBC := Lib.hid (HB.out.below hbw)
                have b0 : wc.cell? ⟨W.heap.size, 0, none⟩ = some (.bool h0.dn) := by rw [hbh.cell 0]; rfl
                have b1 : wc.cell? ⟨W.heap.size, 1, none⟩ = some (.string (txt x.inc h0)) := by rw [hbh.cell 1]; rfl
                clear hbw hbh p0 p1 p2 y1 y2 hlk hlk2 p2n y2n
                have p0 := HPC.out.c0
                have p1 := HPC.out.c1
                have y1 : wc.cell? ⟨Q, 1, none⟩ = some (.int .u64 inc) := by rw [HBC.out.cell 1]; rfl
                have y2 : wc.cell? ⟨Q, 2, none⟩ = some (.int .u64 sq) := by rw [HBC.out.cell 2]; rfl
                go_upto_region 12 with fail
                by_cases h1 : inc < x.inc
                · have HT : Hid (r = ((4, ⟨#[]⟩, 0), setPe s x)) := Lib.hid (by rw [← HR.out]; unfold hear; dsimp only; rw [if_pos (.inl h1)])
                  go_region
                  go_wp2_with fail
                  go_ret3
                  rw [HT.out]
                  exact ⟨rfl, HEND.out _ HBW.out.drew⟩
                · by_cases h2 : sq ≤ x.floor
                  · have HT : Hid (r = ((4, ⟨#[]⟩, 0), setPe s x)) := Lib.hid (by rw [← HR.out]; unfold hear; dsimp only; rw [if_pos (.inr h2)])
                    go_region
                    go_upto_region 13 with fail
                    go_region
                    go_wp2_with fail
                    go_ret3
                    rw [HT.out]
                    exact ⟨rfl, HEND.out _ HBW.out.drew.drew⟩
                  · have HT : Hid (r = if h0.dn then ((2, txt x.inc h0, 0), setPe s x) else ((3, ⟨#[]⟩, 0), setPe s x)) := Lib.hid (by
                      rw [← HR.out]; unfold hear; dsimp only; rw [if_neg (by omega), hlh]; dsimp only; unfold txt; cases h0.dn <;> rfl)
                    clear hlh hh0 hhs
                    generalize txt x.inc h0 = tx at *
                    generalize h0.dn = dn at *
                    cases dn with
                    | true =>
                      go_region
                      go_upto_region 13 with fail
                      go_region
                      go_upto_region 16 with fail
                      go_region
                      go_wp2_with fail
                      go_ret3
                      rw [HT.out]
                      exact ⟨rfl, HEND.out _ HBW.out.drew.drew.drew⟩
                    | false =>
                      go_region
                      go_upto_region 13 with fail
                      go_region
                      go_wp2_with fail
                      go_ret3
                      rw [HT.out]
                      exact ⟨rfl, HEND.out _ HBW.out.drew.drew⟩
end Go.Proofs.Ytgdgonmhgpflcaa
