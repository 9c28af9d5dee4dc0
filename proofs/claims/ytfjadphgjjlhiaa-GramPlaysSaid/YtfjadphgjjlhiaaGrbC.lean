
/- The walk of GramPlays. No condition. -/
import Derived.Test.YtfjadphgjjlhiaaGrbB
import Derived.Test.YtfjadphgjjlhiaaGraK
namespace Go.Proofs.Ytfjadphgjjlhiaa
open Go.RowKit Go.Maps Gr Sok
set_option linter.unusedVariables false
set_option linter.unusedSimpArgs false
def PlR (W : World) (n b h c r : Nat) (u : Value) (wr : World) : Prop := ∃ i : Nat, i ≤ n ∧ u = .int .i64 i ∧ PX W b h c r i wr
def LawP (W : World) (e : Ending) (w' : World) : Prop := e = .returned (.bool true) ∧ Below W.heap.size W w'
set_option maxRecDepth 100000 in
set_option maxHeartbeats 8000000 in
theorem gplays_law {W : World} {v : Value} {n : Nat} {sx : Nat → StepG} (hv : ScriptG W v n sx) : Calls Try.prog 4 #[v] W (LawP W) := by
  have HV := Lib.hid hv
  have HH := Lib.hid (heavyG hv)
  obtain ⟨p, cap, rfl, _⟩ := hv
  go_enter Try.func4, Try.ntmps4
  go_upto_region 1 with fail
  go_cut [27] (fun u wc => (∃ q : Bool, u = .bool q ∧ (q = false → n ≤ 150 ∧ ∀ i, i < n → (sx i).ts.length ≤ 40)) ∧ wc = W)
  case first =>
    go_wp2_with (go_at_call 14; ((with_reducible refine HH.out.mono ?_); rintro e w1 ⟨⟨q, rfl, hq⟩, rfl⟩))
    go_meet
    exact ⟨⟨q, rfl, hq⟩, rfl⟩
  case rest =>
    obtain ⟨⟨q, rfl, hq⟩, e0⟩ := hcut
    have e0 := e0.symm
    subst e0
    clear HH
    cases q with
    | true =>
      clear hq
      go_wp2_with (go_at_call 13; ((with_reducible refine Calls.mono (works_t _) ?_); rintro e w9 ⟨rfl, hb9⟩))
      go_ret
      exact ⟨rfl, hb9⟩
    | false =>
      have HQ := Lib.hid (hq rfl)
      have HB0 := Lib.hid (Below.refl W.heap.size W)
      clear hq
      go_upto_region 7 with (go_at_call 8; (with_reducible refine Calls.mono (nt_new HB0.out) ?_); rintro e w1 ⟨b, h, c, rfl, ht, hbn⟩; have HT1 := Lib.hid ht; clear ht hbn)
      have HP0 : Hid (PX W b h c w1.heap.size 0 (w1.alloc (.cells #[.int .u64 0, .slice none 0 0, .slice none 0 0] 45))) := Lib.hid
        ⟨_, _, 0, [], [], 0, ⟨(show NT W w1 b h c 0 [] (cutL []) 0 from HT1.out).alloc _, ⟨Blk.new _ _ _, World.ownsRow_nil _ _ _ _, World.ownsRow_nil _ _ _ _, HT1.out.bel.size⟩⟩, by decide, by decide, by decide, by decide⟩
      clear HT1 HB0
      generalize w1.alloc (.cells #[.int .u64 0, .slice none 0 0, .slice none 0 0] 45) = w2 at *
      generalize w1.heap.size = r at *
      go_wp2_with fail
      go_loopw [5] (fun u wr => PlR W n b h c r u wr) (fun u _ => ((n : Int) - intOf u).toNat)
      case atStart => exact ⟨0, Nat.zero_le _, rfl, HP0.out⟩
      case round =>
        clear HP0
        obtain ⟨i, hi, rfl, hpx⟩ := hrel
        have HPX := Lib.hid hpx
        have HI := Lib.hid hi
        clear hpx hi
        by_cases hin : i < n
        · have hin' : (i : Int) < (n : Int) := by omega
          have hi0 : (0 : Int) ≤ (i : Int) := by omega
          obtain ⟨p', c', e1, hx⟩ := HV.out
          injection e1 with e1 e2 e3
          subst e1 e3
          obtain ⟨g, off, rfl, hg, hx⟩ := hx (by omega)
          obtain ⟨x0, x1, x2, x3, x4, x5, ⟨pt, ct, x6, hrow⟩, hu1, hu2⟩ := hx i hin
          have hbel := HPX.out.bel
          rw [← hbel.cell (p := ⟨g, _, none⟩) hg] at x0 x1 x2 x3 x4 x5 x6
          have H40 := Lib.hid (HQ.out.2 i hin)
          have HU := Lib.hid (And.intro hu1 hu2)
          have HROW := Lib.hid hrow
          have HE : Hid (wrap64 ((i : Int) + 1) = ((i + 1 : Nat) : Int)) := Lib.hid (Sou.w64n rfl (by have := HQ.out.1; omega))
          have HIN := Lib.hid hin
          clear hx hu1 hu2 hrow hbel hin e2
          generalize sx i = s at *
          obtain ⟨sd, sa, sb, sn, sm, ss, ts⟩ := s
          dsimp only at x0 x1 x2 x3 x4 x5 x6 HU HROW H40
          go_upto_block 2 with fail
          have HPX2 := Lib.hid (HPX.out.below ((Below.refl _ _).alloc (Nat.le_refl _) (.cells #[.int .i64 sd, .int .i64 sa, .int .i64 sb, .int .u64 sn, .int .u64 sm, .string ss, .slice pt ts.length ct] 47)))
          have HS := Lib.hid (Blk.new wr 47 #[.int .i64 sd, .int .i64 sa, .int .i64 sb, .int .u64 sn, .int .u64 sm, .string ss, .slice pt ts.length ct])
          have HSR : Hid (wr.heap.size ≠ r) := Lib.hid (by obtain ⟨vL, vC, last, L, Cs, N, p, _⟩ := HPX.out; have := p.rw.blk.lt; omega)
          clear x0 x1 x2 x3 x4 x5 x6 HPX
          generalize wr.alloc (.cells #[.int .i64 sd, .int .i64 sa, .int .i64 sb, .int .u64 sn, .int .u64 sm, .string ss, .slice pt ts.length ct] 47) = X at *
          generalize wr.heap.size = Q at *
          go_cut [7] (fun u wz => u = .bool true ∧ PX W b h c r (i + 1) wz)
          case first =>
            obtain ⟨vL, vC, last, L, Cs, N, p, hb⟩ := HPX2.out
            have HP := Lib.hid p
            have HB := Lib.hid hb
            have H0 := Lib.hid (And.intro p.nt.nw.inv.1 p.nt.nw.inv.2.2.1)
            have HI150 : Hid (i ≤ 150) := Lib.hid (by have := HQ.out.1; have := HI.out; omega)
            have z0 : X.cell? ⟨Q, 0, none⟩ = some (.int .i64 sd) := by rw [HS.out.cell 0]; rfl
            have z1 : X.cell? ⟨Q, 1, none⟩ = some (.int .i64 sa) := by rw [HS.out.cell 1]; rfl
            have z2 : X.cell? ⟨Q, 2, none⟩ = some (.int .i64 sb) := by rw [HS.out.cell 2]; rfl
            have z3 : X.cell? ⟨Q, 3, none⟩ = some (.int .u64 sn) := by rw [HS.out.cell 3]; rfl
            have z4 : X.cell? ⟨Q, 4, none⟩ = some (.int .u64 sm) := by rw [HS.out.cell 4]; rfl
            have z5 : X.cell? ⟨Q, 5, none⟩ = some (.string ss) := by rw [HS.out.cell 5]; rfl
            have z6 : X.cell? ⟨Q, 6, none⟩ = some (.slice pt ts.length ct) := by rw [HS.out.cell 6]; rfl
            have HBW := Lib.hid p.nt.bel
            clear p hb HPX2 hg hin'
            by_cases hd0 : sd = 0
            · subst hd0
              as_aux_lemma =>
                obtain ⟨k, hk⟩ : ∃ k, sc ((sa :: ts).any bad) ss.size ts.length L.length = k := ⟨_, rfl⟩
                obtain ⟨cnt, hcnt⟩ : ∃ cnt : Int, (if k = 0 then ((ts.length : Nat) : Int) else 0) = cnt := ⟨_, rfl⟩
                generalize hm : ts.length = m at *
                have HM := Lib.hid hm
                have HK := Lib.hid (And.intro hk hcnt)
                clear hm hk hcnt
                go_upto_region 14 with fail
                go_cut [8, 9] (fun u v wz => u = .int .i64 cnt ∧ v = .int .i64 k ∧ NT W wz b h c (sendS k last sa ss ts L (cutL Cs) N).1 (sendS k last sa ss ts L (cutL Cs) N).2.1 (sendS k last sa ss ts L (cutL Cs) N).2.2.1 (sendS k last sa ss ts L (cutL Cs) N).2.2.2 ∧ RW wz W.heap.size r vL vC last L Cs ∧ Blk wz Q 47 #[.int .i64 0, .int .i64 sa, .int .i64 sb, .int .u64 sn, .int .u64 sm, .string ss, .slice pt m ct])
                case first =>
                  have HSD := Lib.hid (show Blk X.drew Q 47 #[.int .i64 0, .int .i64 sa, .int .i64 sb, .int .u64 sn, .int .u64 sm, .string ss, .slice pt m ct] from HS.out)
                  go_region_held3 (fun w' => w'.cell? ⟨Q, 1, none⟩ = some (.int .i64 sa) ∧ w'.cell? ⟨Q, 5, none⟩ = some (.string ss) ∧ w'.cell? ⟨Q, 6, none⟩ = some (.slice pt m ct)) (first | exact ⟨y1, y5, y6⟩ | go_keep) (first
                    | (refine step_append_ints (ys := ts) (by rfl) (by rfl) (by rfl) (by rfl) Try.underlying25 info_i64c rfl (by decide) HM.out (by have := H40.out; omega) (rowI_at HROW.out HBW.out.drew) ?_; intro v6 w6 h6 b6; obtain ⟨p6, c6, rfl, hto, hfr⟩ := to_own h6 HM.out; have HP6 := Lib.hid (HP.out.drew.below b6); have HS6 := Lib.hid (HSD.out.below b6); have HSEND := Lib.hid (p_send HP6.out HB.out HI150.out hto HM.out H40.out (fun g o e => ⟨(hfr g o e).2, fun hh => by have h1 := HP.out.nt.nw.blk.lt; have h2 := HP.out.nt.nw.gm.lt; have h3 := (hfr g o e).1; have h4 : X.drew.heap.size = X.heap.size := rfl; omega⟩) HK.out.1 HK.out.2); have y1 : w6.cell? ⟨Q, 1, none⟩ = some (.int .i64 sa) := (by rw [HS6.out.cell 1]; rfl); have y5 : w6.cell? ⟨Q, 5, none⟩ = some (.string ss) := (by rw [HS6.out.cell 5]; rfl); have y6 : w6.cell? ⟨Q, 6, none⟩ = some (.slice pt m ct) := (by rw [HS6.out.cell 6]; rfl); clear h6 b6 hto hfr)
                    | (refine step_call (by rfl) 9 #[.pointer (some ⟨b, 0, none⟩), .int .i64 sa, .string ss, .slice p6 m c6] (by simp only [execOp]; go_simp) HSEND.out (fun e w' h => ⟨_, h.1⟩) ?_; intro v7 w7 h7; obtain ⟨hv7, hn7, hr7, ho7⟩ := h7; injection hv7 with hv7; subst hv7; have HN7 := Lib.hid hn7; have HR7 := Lib.hid hr7; have HS7 := Lib.hid (blk_onN HS6.out HP6.out.nt (by decide) ho7); clear y1 y5 y6; have y1 : w7.cell? ⟨Q, 1, none⟩ = some (.int .i64 sa) := (by rw [HS7.out.cell 1]; rfl); have y5 : w7.cell? ⟨Q, 5, none⟩ = some (.string ss) := (by rw [HS7.out.cell 5]; rfl); have y6 : w7.cell? ⟨Q, 6, none⟩ = some (.slice pt m ct) := (by rw [HS7.out.cell 6]; rfl); clear hn7 hr7 ho7))
                  all_goals (go_wp2_with fail; go_meet)
                  all_goals exact ⟨rfl, rfl, HN7.out, HR7.out, HS7.out⟩
                case rest =>
                  obtain ⟨rfl, rfl, hn7, hr7, hs7⟩ := hcut
                  have HN7 := Lib.hid hn7
                  have HR7 := Lib.hid hr7
                  have HB7 := Lib.hid hn7.bel
                  have y1 : wc.cell? ⟨Q, 1, none⟩ = some (.int .i64 sa) := by rw [hs7.cell 1]; rfl
                  have y5 : wc.cell? ⟨Q, 5, none⟩ = some (.string ss) := by rw [hs7.cell 5]; rfl
                  have y6 : wc.cell? ⟨Q, 6, none⟩ = some (.slice pt m ct) := by rw [hs7.cell 6]; rfl
                  have HD := Lib.hid (d_send hn7 hr7 HB.out H0.out.1 HI150.out (cap := ct) (rowI_pl HROW.out HB7.out) HM.out H40.out (rowI_lt HROW.out HB7.out) HK.out.1 HK.out.2)
                  clear hn7 hr7 hs7 z0 z1 z2 z3 z4 z5 z6 HS HP HBW
                  go_wp2_with (go_at_call 15; ((with_reducible refine Calls.mono HD.out ?_); rintro e w8 ⟨rfl, hpx, _⟩))
                  go_meet
                  exact ⟨rfl, hpx⟩
            by_cases hd1 : sd = 1
            · subst hd1
              clear hd0
              as_aux_lemma =>
                obtain ⟨t, ht⟩ : ∃ t, takeG (cutL Cs) L sn = t := ⟨_, rfl⟩
                have HT := Lib.hid ht
                have HTK := Lib.hid (p_take HP.out HU.out.1 ht)
                obtain ⟨⟨gi, gf, gt, gx⟩, tc, tL⟩ := t
                clear ht
                go_upto_region 19 with (go_at_call 11; ((with_reducible refine Calls.mono HTK.out ?_); rintro e w7 ⟨rfl, hn7, hr7, ho7⟩; unfold gv; dsimp only; have HN7 := Lib.hid (hn7.alloc (.cells #[.int .u64 gi, .int .i64 gf, .int .i64 gt, .string gx] 33)); have HR7 := Lib.hid (hr7.alloc (.cells #[.int .u64 gi, .int .i64 gf, .int .i64 gt, .string gx] 33)); have HS7 := Lib.hid ((blk_onN HS.out HP.out.nt (by decide) ho7).alloc (.cells #[.int .u64 gi, .int .i64 gf, .int .i64 gt, .string gx] 33)); have HYR : Hid (w7.heap.size ≠ r) := Lib.hid (by have := hr7.blk.lt; omega); clear hn7 hr7 ho7))
                have HY7 := Lib.hid (Blk.new w7 33 #[.int .u64 gi, .int .i64 gf, .int .i64 gt, .string gx])
                clear z0 z1 z2 z3 z4 z5 z6 HS HTK HBW HP
                generalize w7.alloc (.cells #[.int .u64 gi, .int .i64 gf, .int .i64 gt, .string gx] 33) = w8 at *
                generalize w7.heap.size = Y at *
                have y3 : w8.cell? ⟨Q, 3, none⟩ = some (.int .u64 sn) := by rw [HS7.out.cell 3]; rfl
                have HD := Lib.hid (d_take HT.out HN7.out HR7.out HB.out H0.out.2 HI150.out)
                go_upto_region 20 with (go_at_call 16; ((with_reducible refine Calls.mono HD.out ?_); rintro e w9 ⟨rfl, hpx, ho⟩; unfold gv; dsimp only; have HPX9 := Lib.hid (hpx.below ((Below.refl _ _).alloc (Nat.le_refl _) (.cells #[.int .u64 gi, .int .i64 gf, .int .i64 gt, .string gx] 33))); have HY9 := Lib.hid ((HY7.out.only ho HYR.out).alloc (.cells #[.int .u64 gi, .int .i64 gf, .int .i64 gt, .string gx] 33)); clear hpx ho))
                have HZ9 := Lib.hid (Blk.new w9 33 #[.int .u64 gi, .int .i64 gf, .int .i64 gt, .string gx])
                clear y3 HD HS7 HN7 HR7 HY7
                generalize w9.alloc (.cells #[.int .u64 gi, .int .i64 gf, .int .i64 gt, .string gx] 33) = w10 at *
                generalize w9.heap.size = Z at *
                have a0 : w10.cell? ⟨Y, 0, none⟩ = some (.int .u64 gi) := by rw [HY9.out.cell 0]; rfl
                have a1 : w10.cell? ⟨Y, 1, none⟩ = some (.int .i64 gf) := by rw [HY9.out.cell 1]; rfl
                have a2 : w10.cell? ⟨Y, 2, none⟩ = some (.int .i64 gt) := by rw [HY9.out.cell 2]; rfl
                have a3 : w10.cell? ⟨Y, 3, none⟩ = some (.string gx) := by rw [HY9.out.cell 3]; rfl
                have b0 : w10.cell? ⟨Z, 0, none⟩ = some (.int .u64 gi) := by rw [HZ9.out.cell 0]; rfl
                have b1 : w10.cell? ⟨Z, 1, none⟩ = some (.int .i64 gf) := by rw [HZ9.out.cell 1]; rfl
                have b2 : w10.cell? ⟨Z, 2, none⟩ = some (.int .i64 gt) := by rw [HZ9.out.cell 2]; rfl
                have b3 : w10.cell? ⟨Z, 3, none⟩ = some (.string gx) := by rw [HZ9.out.cell 3]; rfl
                have hst := str_refl gx
                go_wp2_with fail
                go_meet
                exact ⟨rfl, HPX9.out⟩
            by_cases hd2 : sd = 2
            · subst hd2
              clear hd0 hd1
              as_aux_lemma =>
                obtain ⟨k1, hk1⟩ : ∃ k : Int, (if hasId L sn then 1 else 0) = k := ⟨_, rfl⟩
                obtain ⟨k2, hk2⟩ : ∃ k : Int, (if hasId (rem L sn) sm then 1 else 0) = k := ⟨_, rfl⟩
                obtain ⟨kk, hkk⟩ : ∃ k : Int, (((0 + (if hasId L sn then 1 else 0)) + (if hasId (rem L sn) sm then 1 else 0) : Nat) : Int) = k := ⟨_, rfl⟩
                have HK12 : Hid (kk = wrap64 (k1 + k2)) := Lib.hid (by rw [← hk1, ← hk2, ← hkk]; cases hasId L sn <;> cases hasId (rem L sn) sm <;> simp [wrap64])
                have HDR := p_drop HP.out HU.out.1 HU.out.2 (q := X.heap.size) rfl
                rw [hkk] at HDR
                have HDR := Lib.hid HDR
                have HK := Lib.hid (And.intro hk1 hk2)
                clear hk1 hk2 hkk
                go_upto_region 23 with (go_at_call 17; ((with_reducible refine Calls.mono HDR.out ?_); rintro e w7 ⟨rfl, hn7, hr7, ho7⟩; have HN7 := Lib.hid hn7; have HR7 := Lib.hid hr7; have HS7 := Lib.hid (blk_onN HS.out HP.out.nt (by decide) ho7); clear hn7 hr7 ho7))
                clear z0 z1 z2 z3 z4 z5 z6 HS HBW HP
                have y3 : w7.cell? ⟨Q, 3, none⟩ = some (.int .u64 sn) := by rw [HS7.out.cell 3]; rfl
                have HD1 := Lib.hid (d_drop1 HN7.out HR7.out HB.out H0.out.2 sn HK.out.1)
                go_upto_region 24 with (go_at_call 18; ((with_reducible refine Calls.mono HD1.out ?_); rintro e w8 ⟨rfl, ⟨vL', hr8⟩, hn8, ho8⟩; have HD2 := Lib.hid (d_drop2 hn8 hr8 HB.out H0.out.2 HK.out.2); have HS8 := Lib.hid (HS7.out.only ho8 HSR.out); clear hr8 hn8 ho8))
                clear y3 HD1 HS7 HN7 HR7
                have y4 : w8.cell? ⟨Q, 4, none⟩ = some (.int .u64 sm) := by rw [HS8.out.cell 4]; rfl
                have hk := HK12.out
                go_wp2_with (go_at_call 18; ((with_reducible refine Calls.mono HD2.out ?_); rintro e w9 ⟨rfl, hpx, _⟩; clear y4))
                go_meet
                exact ⟨by first | rfl | simp [HK12.out], hpx⟩
            by_cases hd3 : sd = 3
            · subst hd3
              clear hd0 hd1 hd2
              as_aux_lemma =>
                obtain ⟨t, ht⟩ : ∃ t, dblG last L sn = t := ⟨_, rfl⟩
                have HT := Lib.hid ht
                have HTK := Lib.hid (p_double HP.out HB.out HI150.out HU.out.1 ht)
                obtain ⟨t1, t2, t3, tL, tN⟩ := t
                clear ht
                dsimp only at HTK
                go_upto_region 28 with (go_at_call 10; ((with_reducible refine Calls.mono HTK.out ?_); rintro e w7 ⟨rfl, hn7, hr7, ho7⟩; have HN7 := Lib.hid hn7; have HR7 := Lib.hid hr7; have HS7 := Lib.hid (blk_onN HS.out HP.out.nt (by decide) ho7); clear hn7 hr7 ho7))
                clear z0 z1 z2 z3 z4 z5 z6 HS HBW HP HTK
                have y3 : w7.cell? ⟨Q, 3, none⟩ = some (.int .u64 sn) := by rw [HS7.out.cell 3]; rfl
                have HD := Lib.hid (d_double HT.out HN7.out HR7.out HB.out H0.out.1 HI150.out)
                go_wp2_with (go_at_call 19; ((with_reducible refine Calls.mono HD.out ?_); rintro e w8 ⟨rfl, hpx, _⟩; dsimp only; clear y3))
                go_meet
                exact ⟨rfl, hpx⟩
            by_cases hd4 : sd = 4
            · subst hd4
              clear hd0 hd1 hd2 hd3
              as_aux_lemma =>
                obtain ⟨q, hq⟩ : ∃ q, bad2 sa sb = q := ⟨_, rfl⟩
                obtain ⟨kk, hkk⟩ : ∃ k : Int, (if q = true then 2 else 0) = k := ⟨_, rfl⟩
                have HQB := Lib.hid hq
                have HKK := Lib.hid hkk
                clear hq hkk
                go_upto_region 31 with fail
                have HSD := Lib.hid (show Blk X.drew Q 47 _ from HS.out)
                have HTK := Lib.hid (p_cut_k HP.out.drew HB.out HI150.out HQB.out HKK.out)
                go_region_held3 (fun w' => w'.cell? ⟨Q, 1, none⟩ = some (.int .i64 sa) ∧ w'.cell? ⟨Q, 2, none⟩ = some (.int .i64 sb)) (first | exact ⟨y1, y2⟩ | go_keep) (first
                  | (refine step_call (by rfl) 20 #[.pointer (some ⟨b, 0, none⟩), .int .i64 sa, .int .i64 sb] (by simp only [execOp]; go_simp) HTK.out (fun e w' h => ⟨_, h.1⟩) ?_; intro v7 w7 h7; obtain ⟨hv7, hn7, hr7, ho7⟩ := h7; injection hv7 with hv7; subst hv7; have HD := Lib.hid (d_cut_k HQB.out HKK.out hn7 hr7 HB.out HI150.out); have HS7 := Lib.hid (blk_onN HSD.out HP.out.drew.nt (by decide) ho7); have y1 : w7.cell? ⟨Q, 1, none⟩ = some (.int .i64 sa) := (by rw [HS7.out.cell 1]; rfl); have y2 : w7.cell? ⟨Q, 2, none⟩ = some (.int .i64 sb) := (by rw [HS7.out.cell 2]; rfl); clear hn7 hr7 ho7)
                  | (refine step_call (by rfl) 21 #[.pointer (some ⟨r, 0, none⟩), .int .i64 sa, .int .i64 sb] (by simp only [execOp]; go_simp) HD.out (fun e w' h => ⟨_, h.1⟩) ?_; intro v8 w8 h8; obtain ⟨hv8, hpx, ho8⟩ := h8; injection hv8 with hv8; subst hv8; have HS8 := Lib.hid (blk_onR HS7.out ho8 HSR.out (by decide) (by decide)); clear y1 y2; have y1 : w8.cell? ⟨Q, 1, none⟩ = some (.int .i64 sa) := (by rw [HS8.out.cell 1]; rfl); have y2 : w8.cell? ⟨Q, 2, none⟩ = some (.int .i64 sb) := (by rw [HS8.out.cell 2]; rfl)))
                all_goals (go_wp2_with fail; go_meet)
                all_goals exact ⟨rfl, hpx⟩
            by_cases hd5 : sd = 5
            · subst hd5
              clear hd0 hd1 hd2 hd3 hd4
              as_aux_lemma =>
                obtain ⟨q, hq⟩ : ∃ q, bad2 sa sb = q := ⟨_, rfl⟩
                obtain ⟨kk, hkk⟩ : ∃ k : Int, (if q = true then 2 else 0) = k := ⟨_, rfl⟩
                have HQB := Lib.hid hq
                have HKK := Lib.hid hkk
                clear hq hkk
                go_upto_region 33 with fail
                have HSD := Lib.hid (show Blk X.drew Q 47 _ from HS.out)
                have HTK := Lib.hid (p_heal_k HP.out.drew HB.out HI150.out HQB.out HKK.out)
                go_region_held3 (fun w' => w'.cell? ⟨Q, 1, none⟩ = some (.int .i64 sa) ∧ w'.cell? ⟨Q, 2, none⟩ = some (.int .i64 sb)) (first | exact ⟨y1, y2⟩ | go_keep) (first
                  | (refine step_call (by rfl) 22 #[.pointer (some ⟨b, 0, none⟩), .int .i64 sa, .int .i64 sb] (by simp only [execOp]; go_simp) HTK.out (fun e w' h => ⟨_, h.1⟩) ?_; intro v7 w7 h7; obtain ⟨hv7, hn7, hr7, ho7⟩ := h7; injection hv7 with hv7; subst hv7; have HD := Lib.hid (d_heal_k HQB.out HKK.out hn7 hr7 HB.out HI150.out); have HS7 := Lib.hid (blk_onN HSD.out HP.out.drew.nt (by decide) ho7); have y1 : w7.cell? ⟨Q, 1, none⟩ = some (.int .i64 sa) := (by rw [HS7.out.cell 1]; rfl); have y2 : w7.cell? ⟨Q, 2, none⟩ = some (.int .i64 sb) := (by rw [HS7.out.cell 2]; rfl); clear hn7 hr7 ho7)
                  | (refine step_call (by rfl) 23 #[.pointer (some ⟨r, 0, none⟩), .int .i64 sa, .int .i64 sb] (by simp only [execOp]; go_simp) HD.out (fun e w' h => ⟨_, h.1⟩) ?_; intro v8 w8 h8; obtain ⟨hv8, hpx, ho8⟩ := h8; injection hv8 with hv8; subst hv8; have HS8 := Lib.hid (blk_onR HS7.out ho8 HSR.out (by decide) (by decide)); clear y1 y2; have y1 : w8.cell? ⟨Q, 1, none⟩ = some (.int .i64 sa) := (by rw [HS8.out.cell 1]; rfl); have y2 : w8.cell? ⟨Q, 2, none⟩ = some (.int .i64 sb) := (by rw [HS8.out.cell 2]; rfl)))
                all_goals (go_wp2_with fail; go_meet)
                all_goals exact ⟨rfl, hpx⟩
            have e0 : (sd == 0) = false := by simpa using hd0
            have e1 : (sd == 1) = false := by simpa using hd1
            have e2 : (sd == 2) = false := by simpa using hd2
            have e3 : (sd == 3) = false := by simpa using hd3
            have e4 : (sd == 4) = false := by simpa using hd4
            have e5 : (sd == 5) = false := by simpa using hd5
            have HPN := Lib.hid (PX.next (PX.of HP.out.nt HP.out.rw HB.out))
            clear hd0 hd1 hd2 hd3 hd4 hd5
            go_wp2_with fail
            go_meet
            exact ⟨rfl, HPN.out⟩
          case rest =>
            obtain ⟨rfl, hpx⟩ := hcut
            clear HPX2 HS hg
            as_aux_lemma =>
              obtain ⟨vL, vC, last, L, Cs, N, p, hb⟩ := hpx
              have HB := Lib.hid hb
              have HRD := Lib.hid (nt_ready p.nt (by have := hb.1; omega) rfl)
              have HP := Lib.hid p
              clear p hb
              obtain ⟨xs, hxs⟩ : ∃ xs, rdyL (cutL Cs) L = xs := ⟨_, rfl⟩
              rw [hxs] at HRD
              have HXL : Hid (xs.length ≤ 4096) := Lib.hid (by rw [← hxs]; have := rdyL_len (cutL Cs) L; have := HB.out.1; omega)
              have HXS := Lib.hid hxs
              clear hxs
              go_upto_region 35 with (first
                | (go_at_call 24; ((with_reducible refine Calls.mono HRD.out ?_); rintro e w3 ⟨v3, rfl, hrow3, hn3, hb3⟩; obtain ⟨p3, c3, rfl⟩ := owns_slice hrow3; have HP3 := Lib.hid (HP.out.below hb3); have HROW3 := Lib.hid hrow3; have HRD2 := Lib.hid (rready_any HP3.out.rw (by have := HB.out.1; omega) (by have := HB.out.2.2.2; have := HQ.out.1; have := HI.out; omega)); rw [HXS.out] at HRD2; have HB3 := Lib.hid hb3; clear hrow3 hn3 hb3))
                | (go_at_call 25; ((with_reducible refine Calls.mono HRD2.out ?_); rintro e w4 ⟨v4, rfl, hrow4, hb4⟩; obtain ⟨p4, c4, rfl⟩ := owns_slice hrow4; have HP4 := Lib.hid (HP3.out.below hb4); have HROW4 := Lib.hid hrow4; have HR34 := Lib.hid (owns_below HROW3.out hb4); clear hrow4 hb4)))
              clear HRD HRD2 HP HP3 HROW3 HB3
              have HLIST := Lib.hid (nt_list HP4.out.drew.nt (by have := HB.out.1; omega))
              obtain ⟨⟨pL, cL, eL⟩, _⟩ := HP4.out.rw.slices
              subst eL
              have y1 := HP4.out.rw.c1
              have HZ4 : Hid (∀ w5, Below w4.drew.heap.size w4.drew w5 → PX W b h c r (i + 1) w5 ∧ w5.ownsRow wc.heap.size 29 1 (.slice p3 xs.length c3) xs.length (xs.map (Value.int .u64)) ∧ w5.ownsRow w3.heap.size 29 1 (.slice p4 xs.length c4) xs.length (xs.map (Value.int .u64))) := Lib.hid fun w5 hb => ⟨⟨_, vC, last, L, Cs, N, HP4.out.drew.below hb, HB.out⟩, owns_below (w := w4.drew) HR34.out hb, owns_below (w := w4.drew) HROW4.out hb⟩
              go_cut [201] (fun u wz => u = .bool false ∧ Below w4.drew.heap.size w4.drew wz)
              case first =>
                go_region_held3 (fun w' => w'.cell? ⟨r, 1, none⟩ = some (.slice pL L.length cL)) (first | exact y1 | go_keep) (first
                  | (refine step_callw (by rfl) 12 #[.pointer (some ⟨b, 0, none⟩)] (by simp only [execOp]; go_simp) HLIST.out (fun e w' h => by obtain ⟨v, h, _⟩ := h; exact ⟨v, h⟩) ?_; intro v5 w5 h5; obtain ⟨v5', hv5, hrow5, hn5, hb5⟩ := h5; injection hv5 with hv5; subst hv5; obtain ⟨p5, c5, rfl⟩ := owns_slice hrow5; have HP5 := Lib.hid (HP4.out.drew.below hb5); have HB5 := Lib.hid hb5; have HSAME := Lib.hid (sameG_t (GsAt.of hrow5) (GsAt.of HP5.out.rw.row) (by have := HB.out.1; omega)); clear y1; have y1 := HP5.out.rw.c1; clear hrow5 hn5 hb5)
                  | (refine step_callw (by rfl) 26 #[.slice p5 L.length c5, .slice pL L.length cL] (by simp only [execOp]; go_simp) HSAME.out (fun e w' h => ⟨_, h.1⟩) ?_; intro v6 w6 h6; obtain ⟨hv6, hb6⟩ := h6; injection hv6 with hv6; subst hv6; have HB6 := Lib.hid (HB5.out.step hb6); clear y1; have y1 := (HP5.out.below hb6).rw.c1; clear hb6))
                all_goals (go_wp2_with fail; go_meet)
                all_goals exact ⟨rfl, HB6.out⟩
              case rest =>
                obtain ⟨rfl, hcb⟩ := hcut
                obtain ⟨hpx5, hr5, hr6⟩ := HZ4.out wc hcb
                have HPX5 := Lib.hid hpx5
                have HA := Lib.hid hr5
                have HC := Lib.hid hr6
                clear hcb hpx5 hr5 hr6 HZ4 HP4 HROW4 HR34 HLIST y1
                go_wp2_with fail
                go_loopw [25] (fun u wq => ∃ j : Nat, j ≤ xs.length ∧ u = .int .i64 j ∧ Below wc.heap.size wc wq) (fun u _ => ((xs.length : Int) - intOf u).toNat)
                case atStart => exact ⟨0, Nat.zero_le _, rfl, Below.refl _ _⟩
                case round =>
                  obtain ⟨j, hj, rfl, hb⟩ := hrel
                  have HJ := Lib.hid hj
                  have HBQ := Lib.hid hb
                  clear hj hb
                  by_cases hjl : j < xs.length
                  · have hjl' : (j : Int) < (xs.length : Int) := by omega
                    have hj0 : (0 : Int) ≤ (j : Int) := by omega
                    obtain ⟨ga, ca, ea, _, hga, _, hca⟩ := owns_cells HA.out (by omega)
                    obtain ⟨gb, cb, eb, _, hgb, _, hcb⟩ := owns_cells HC.out (by omega)
                    injection ea with ea1 ea2 ea3
                    injection eb with eb1 eb2 eb3
                    subst ea1 ea3 eb1 eb3
                    have xa := hca j (by omega)
                    have xb := hcb j (by omega)
                    rw [List.getElem?_map, List.getElem?_eq_getElem hjl, ← HBQ.out.cell (p := ⟨ga, _, none⟩) hga] at xa
                    rw [List.getElem?_map, List.getElem?_eq_getElem hjl, ← HBQ.out.cell (p := ⟨gb, _, none⟩) hgb] at xb
                    have HJE : Hid (wrap64 ((j : Int) + 1) = ((j + 1 : Nat) : Int)) := Lib.hid (Sou.w64n rfl (by have := HXL.out; omega))
                    have HJL := Lib.hid hjl
                    clear hca hcb ea2 eb2
                    generalize xs[j] = xj at *
                    clear hjl
                    dsimp only [Option.map_some] at xa xb
                    go_upto_region 40 with fail
                    refine Reg.wp_text (by kernel_rfl) (by kernel_rfl) ?_
                    go_wp2_with fail
                    refine Reg.fin (by kernel_rfl) ?_
                    go_wp2_with fail
                    go_roundw
                    case rel => first | exact ⟨j + 1, HJL.out, rfl, HBQ.out.drew⟩ | (rw [HJE.out]; exact ⟨j + 1, HJL.out, rfl, HBQ.out.drew⟩)
                    case measure => have := HJL.out; first | (simp [intOf]; omega) | (rw [HJE.out]; simp [intOf]; omega)
                  · obtain rfl : j = xs.length := by have := HJ.out; omega
                    have hjl' : ¬ ((xs.length : Nat) : Int) < (xs.length : Int) := by omega
                    clear hjl
                    go_wp2_with fail
                    go_roundw
                    case rel => first | exact ⟨i + 1, HIN.out, rfl, HPX5.out.below HBQ.out⟩ | (rw [HE.out]; exact ⟨i + 1, HIN.out, rfl, HPX5.out.below HBQ.out⟩)
                    case measure => have := HIN.out; first | (simp [intOf]; omega) | (rw [HE.out]; simp [intOf]; omega)
        · obtain rfl : i = n := by have := HI.out; omega
          have hin' : ¬ (i : Int) < (i : Int) := by omega
          clear hin
          go_wp2_with (go_at_call 13; ((with_reducible refine Calls.mono (works_t _) ?_); rintro e w9 ⟨rfl, hb9⟩))
          go_ret
          exact ⟨rfl, HPX.out.bel.step hb9⟩
theorem gplays_open {H : Type} {enc : TypeId × Value → H} {W : World} {base : Nat} {held : Bool} {r : Reach} {b0 : Nat} {d : DataW H} {ps : List MemPlace} {v : Value}
    (hval : Value.okWide Try.prog W r b0 40 v) (hd : DataW.Trod enc Try.prog W base (fun _ => true) held 40 v d ps) (_ : ∀ x ∈ ps, x.block < W.heap.size) :
    Calls Try.prog 4 #[v] W fun e w' => e = .returned (.bool true) ∧ Below W.heap.size W w' := by
  obtain ⟨n, sx, h⟩ := open_scriptG hval hd
  exact gplays_law h
end Go.Proofs.Ytfjadphgjjlhiaa
