import Derived.Test.YtpidhcogaoehhaaChkN
import Derived.Test.YtpidhcogaoehhaaMgm

/- The law 'CheckTwice' at every program and every function. No condition. -/
namespace Go.Proofs.Ytpidhcogaoehhaa
open Go.RowKit Cd Wire
set_option linter.unusedVariables false
set_option linter.unusedSimpArgs false
def K1 (W : World) (v : Value) (l : List FunV) (vl : Value) (R : List Int) (u : Value) (wr : World) : Prop := ∃ k : Nat, k ≤ R.length ∧ u = .int .i64 k ∧ TkW W v l wr ∧ IntsAt wr vl R
def K2 (w0 : World) (M : List Int) (u : Value) (wr : World) : Prop := ∃ k : Nat, k ≤ M.length ∧ u = .int .i64 k ∧ Below w0.heap.size w0 wr
def K3 (w0 : World) (n j0 : Nat) (b u : Value) (wr : World) : Prop := ∃ (k : Nat) (B : Bool), k ≤ n ∧ u = .int .i64 k ∧ b = .bool B ∧ (j0 < k → B = true) ∧ Below w0.heap.size w0 wr
set_option maxRecDepth 100000 in
set_option maxHeartbeats 8000000 in
theorem twice11_run {l : List FunV} {W : World} {v : Value} {fb : Int} (hv : FunsAt W v l) (ho : OkP l) (hf : U8 fb) :
    Calls Try.prog 4 #[.agg #[v], .int .u8 fb] W fun e w' => e = .returned (.bool true) ∧ Below W.heap.size W w' := by
  have HT0 : Hid (TkW W v l (W.alloc (.cells #[v] 24))) := Lib.hid ⟨Blk.new W _ _, hv.alloc _, (Below.refl _ W).alloc (Nat.le_refl _) _⟩
  have HO := Lib.hid ho
  have HH := Lib.hid (heavy_any (hv.alloc (.cells #[v] 24)))
  obtain ⟨p, cap, rfl⟩ := hv.slice
  clear hv ho
  obtain ⟨n, hn⟩ : ∃ n, n = l.length := ⟨_, rfl⟩
  cases hh : heavyB l with
  | true =>
    rw [hh] at HH
    clear hh
    rw [← hn] at HT0 HH ⊢
    clear hn
    go_enter Try.func4, Try.ntmps4
    go_wp2_with (first | (go_at_call 6; ((with_reducible refine (alive11_any _).mono ?_); rintro e w9 ⟨rfl, b9⟩)) | (go_at_call 5; ((with_reducible refine HH.out.mono ?_); rintro e w1 ⟨rfl, b1⟩; have HT1 := Lib.hid (HT0.out.step b1); have x1 : w1.cell? ⟨W.heap.size, 0, none⟩ = some (.slice p n cap) := HT1.out.t.cell 0; clear b1)))
    go_ret
    exact ⟨rfl, HT1.out.bel.step b9⟩
  | false =>
    rw [hh] at HH
    have HL := Lib.hid (heavy_lim hh)
    clear hh
    rw [← hn] at HT0 HH ⊢
    have HN := Lib.hid hn
    clear hn
    by_cases h0 : n = 0
    · have h0' : ((n : Int) == 0) = true := by simp [h0]
      clear h0
      go_enter Try.func4, Try.ntmps4
      go_wp2_with (first | (go_at_call 6; ((with_reducible refine (alive11_any _).mono ?_); rintro e w9 ⟨rfl, b9⟩)) | (go_at_call 5; ((with_reducible refine HH.out.mono ?_); rintro e w1 ⟨rfl, b1⟩; have HT1 := Lib.hid (HT0.out.step b1); have x1 : w1.cell? ⟨W.heap.size, 0, none⟩ = some (.slice p n cap) := HT1.out.t.cell 0; clear b1)))
      go_ret
      exact ⟨rfl, HT1.out.bel.step b9⟩
    have h0' : ((n : Int) == 0) = false := beq_eq_false_iff_ne.2 (by omega)
    obtain ⟨c, f0, o0, hE⟩ : ∃ c f0 o0, lookE l = (c, f0, o0) := ⟨_, _, _, rfl⟩
    have HE := Lib.hid hE
    clear hE
    by_cases hc : c = 0
    · subst hc
      have hI : ∃ I : Nat, I < n ∧ Int.tmod fb n = I := ⟨fb.toNat % n, Nat.mod_lt _ (by omega), by
        obtain ⟨f, rfl⟩ : ∃ f : Nat, fb = f := ⟨fb.toNat, by have := hf.1; omega⟩
        rw [← Int.ofNat_tmod, Int.toNat_natCast]⟩
      obtain ⟨I, hIn, hI⟩ := hI
      have hf0 := hf.1
      have hf1 := hf.2
      have ewf : IntKind.i64.wrap fb = fb := by rw [IntKind.wrap_i64]; omega
      obtain ⟨s, hs⟩ : ∃ s, encV l = s := ⟨_, rfl⟩
      obtain ⟨ce, hce⟩ : ∃ ce, encC l = ce := ⟨_, rfl⟩
      have HEV := Lib.hid (And.intro hs hce)
      have HED : Hid (ce = 0 → dec s = (l, 0)) := Lib.hid fun h => by rw [← hs]; exact enc_dec (hce.trans h) HO.out
      clear hs hce hf
      go_enter Try.func4, Try.ntmps4
      go_upto_region 7 with (first | (go_at_call 5; ((with_reducible refine HH.out.mono ?_); rintro e w1 ⟨rfl, b1⟩; have HT1 := Lib.hid (HT0.out.step b1); have x1 : w1.cell? ⟨W.heap.size, 0, none⟩ = some (.slice p n cap) := HT1.out.t.cell 0; clear b1)) | (go_at_call 7; ((with_reducible refine (cmay_c HT1.out.a HL.out HO.out HE.out).mono ?_); rintro e w2 ⟨rfl, b2⟩; have HT2 := Lib.hid (HT1.out.step b2); have x2 : w2.cell? ⟨W.heap.size, 0, none⟩ = some (.slice p n cap) := HT2.out.t.cell 0; clear b2)) | (go_at_call 14; ((with_reducible refine (enc_c HT2.out.a HL.out HO.out HEV.out.1 HEV.out.2).mono ?_); rintro e w3 ⟨rfl, b3⟩; have HT3 := Lib.hid (HT2.out.step b3); clear b3)))
      clear x1 x2 HT0 HT1 HT2 HH
      go_upto_if 52 with fail
      go_cut [] (fun wc => TkW W (.slice p n cap) l wc)
      case first =>
        by_cases h9 : ce = 0
        · have hd := HED.out h9
          subst h9
          have HD := Lib.hid hd
          clear hd HED
          go_wp2_with (first | (go_at_call 15; ((with_reducible refine (dec_c HD.out).mono ?_); rintro e w4 ⟨v4, rfl, hv4, b4⟩; obtain ⟨p4, c4, rfl⟩ := hv4.sliceN (n := n) HN.out.symm; have HV4 := Lib.hid (hv4.alloc (.cells #[.slice p4 n c4] 24)); have HT4 := Lib.hid ((HT3.out.step b4).alloc (.cells #[.slice p4 n c4] 24)); have z4 : (w4.alloc (.cells #[.slice p4 n c4] 24)).cell? ⟨w4.heap.size, 0, none⟩ = some (.slice p4 n c4) := (Blk.new w4 24 #[.slice p4 n c4]).cell 0; clear hv4 b4)) | (go_at_call 7; ((with_reducible refine (cmay_c HV4.out HL.out HO.out HE.out).mono ?_); rintro e w5 ⟨rfl, b5⟩; have HT5 := Lib.hid (HT4.out.step b5); clear b5)))
          all_goals go_meet
          all_goals exact HT5.out
        · have h9' : (ce == 0) = false := by simpa using h9
          clear h9
          go_wp2_with fail
          all_goals go_meet
          all_goals exact HT3.out
      case rest =>
        have HTC := Lib.hid hcut
        clear hcut
        have y0 : wc.cell? ⟨W.heap.size, 0, none⟩ = some (.slice p n cap) := HTC.out.t.cell 0
        clear HT3 HED HEV
        obtain ⟨R, hR⟩ : ∃ R, reachX l (I : Int) = R := ⟨_, rfl⟩
        have HR := Lib.hid hR
        have HRN : Hid (R.length ≤ 100) := Lib.hid (by rw [← hR]; exact reachX_len HL.out)
        have HCL : Hid (∀ x y, x ∈ R → y ∈ reachX l x → y ∈ R) := Lib.hid fun x y hx hy => by
          rw [← hR] at hx ⊢
          exact reachX_closed HE.out (by have := HN.out; omega) hx hy
        clear hR
        go_upto_region 14 with (go_at_call 12; ((with_reducible refine (reach_c HTC.out.a HL.out HO.out HR.out).mono ?_); rintro e w4 ⟨vl, rfl, hvl, b4⟩; have HT4 := Lib.hid (HTC.out.step b4); obtain ⟨pl, cl, rfl⟩ := hvl.slice; have HVL := Lib.hid hvl; clear hvl b4))
        clear HTC y0 ewf hf0 hf1
        go_wp2_with fail
        have hz1 : K1 W (.slice p n cap) l (.slice pl R.length cl) R (.int .i64 0) w4 := ⟨0, by omega, rfl, HT4.out, HVL.out⟩
        clear HT4 HVL
        go_loopw [17] (fun u wr => K1 W (.slice p n cap) l (.slice pl R.length cl) R u wr) (fun u _ => ((R.length : Int) - intOf u).toNat)
        case atStart => exact hz1
        case round =>
          clear hz1
          obtain ⟨k, hk1, rfl, hT, hv⟩ := hrel
          obtain ⟨wz, rfl⟩ : ∃ wz, wz = wr := ⟨_, rfl⟩
          have HT := Lib.hid hT
          have HV := Lib.hid hv
          have y0 : wz.cell? ⟨W.heap.size, 0, none⟩ = some (.slice p n cap) := hT.t.cell 0
          clear hT hv
          have hr100 := HRN.out
          by_cases hk : k < R.length
          · obtain ⟨p', c', e1, hy⟩ := HV.out
            injection e1 with e1 _ e3
            subst e1 e3
            obtain ⟨gl, ol, rfl, hgl, hcl⟩ := hy (by omega)
            clear hy
            have hkk : (k : Int) < (R.length : Int) := by omega
            have hkk0 : (0 : Int) ≤ (k : Int) := by omega
            have c0 := hcl k hk
            have hxR : R[k] ∈ R := List.getElem_mem hk
            have HCX := Lib.hid (fun y (h : y ∈ reachX l R[k]) => HCL.out R[k] y hxR h)
            have HC := Lib.hid hcl
            clear hcl hxR
            generalize R[k] = x at *
            go_upto_region 17 with fail
            go_cut [18] (fun mv wc => ∃ M, reachX l x = M ∧ IntsAt wc mv M ∧ Below wz.heap.size wz wc)
            case first =>
              go_region_with (go_at_call 12; ((with_reducible refine (reach_c HT.out.drew.a HL.out HO.out rfl).mono ?_); rintro e w5 ⟨v5, rfl, hv5, b5⟩; have hb5 := below_undrew b5; have HV5 := Lib.hid hv5; have HB5 := Lib.hid hb5; clear b5 hb5 hv5))
              all_goals (go_wp2_with fail; go_meet)
              all_goals exact ⟨_, rfl, HV5.out, HB5.out⟩
            case rest =>
              obtain ⟨M, hM, hm, hb⟩ := hcut
              obtain ⟨w5, rfl⟩ : ∃ w5, w5 = wc := ⟨_, rfl⟩
              rw [hM] at HCX
              have hm100 : M.length ≤ 100 := by rw [← hM]; exact reachX_len HL.out
              have HB5 := Lib.hid hb
              have HM := Lib.hid hm
              obtain ⟨pm, cm, rfl⟩ := hm.slice
              clear hM hm hb c0 y0
              go_wp2_with fail
              have hz2 : K2 w5 M (.int .i64 0) w5 := ⟨0, by omega, rfl, Below.refl _ _⟩
              go_loopw [19] (fun u wr => K2 w5 M u wr) (fun u _ => ((M.length : Int) - intOf u).toNat)
              case atStart => exact hz2
              case round =>
                clear hz2
                obtain ⟨a, ha1, rfl, hb⟩ := hrel
                obtain ⟨wy, rfl⟩ : ∃ wy, wy = wr := ⟨_, rfl⟩
                have HBY := Lib.hid hb
                clear hb
                by_cases ha : a < M.length
                · obtain ⟨p', c', e1, hy⟩ := HM.out
                  injection e1 with e1 _ e3
                  subst e1 e3
                  obtain ⟨gm, om, rfl, hgm, hcm⟩ := hy (by omega)
                  clear hy
                  have haa : (a : Int) < (M.length : Int) := by omega
                  have haa0 : (0 : Int) ≤ (a : Int) := by omega
                  have d0 := hcm a ha
                  rw [← HBY.out.cell (p := ⟨gm, _, none⟩) hgm] at d0
                  have hgmy : gm < wy.heap.size := Nat.lt_of_lt_of_le hgm HBY.out.size
                  obtain ⟨j0, hj0, hjy⟩ := List.getElem_of_mem (HCX.out M[a] (List.getElem_mem ha))
                  have HD := Lib.hid d0
                  have HJ := Lib.hid hjy
                  clear hcm d0 hjy
                  generalize M[a] = y at *
                  go_wp2_with fail
                  have hz3 : K3 wy R.length j0 (.bool false) (.int .i64 0) wy := ⟨0, false, by omega, rfl, rfl, fun h => by omega, Below.refl _ _⟩
                  go_loopw [20, 21] (fun b u wr => K3 wy R.length j0 b u wr) (fun _ u _ => ((R.length : Int) - intOf u).toNat)
                  case atStart => exact hz3
                  case round =>
                    clear hz3
                    obtain ⟨j, B, hj1, rfl, rfl, hB, hb3⟩ := hrel
                    have HB3 := Lib.hid hb3
                    clear hb3
                    by_cases hj : j < R.length
                    · have hjj : (j : Int) < (R.length : Int) := by omega
                      have hjj0 : (0 : Int) ≤ (j : Int) := by omega
                      have c1 := HC.out j hj
                      have hbz := HB5.out.trans ((HBY.out.trans (HB3.out.mono HBY.out.size)).mono HB5.out.size)
                      rw [← hbz.cell (p := ⟨gl, _, none⟩) hgl] at c1
                      have d1 := HD.out
                      rw [← HB3.out.cell (p := ⟨gm, _, none⟩) hgmy] at d1
                      have hJ2 : ∀ h : j0 = j, R[j] = y := fun h => by subst h; exact HJ.out
                      have HJ2 := Lib.hid hJ2
                      clear hbz hJ2
                      generalize R[j] = z at *
                      cases B with
                      | true =>
                        go_upto_region 25 with fail
                        go_quiet (fail)
                        go_wp2_with fail
                        go_roundw
                        case rel => exact ⟨j + 1, true, by omega, rfl, rfl, fun _ => rfl, HB3.out.trans ((drewN_below' _ _).mono HB3.out.size)⟩
                        case measure => simp [intOf]; omega
                      | false =>
                        have hj0j : j ≤ j0 := by
                          rcases Nat.lt_or_ge j0 j with h | h
                          · exact absurd (hB h) (by decide)
                          · exact h
                        clear hB
                        by_cases hzy : z = y
                        · have hzy' : (z == y) = true := by simpa using hzy
                          clear hzy HJ2
                          go_upto_region 25 with fail
                          go_quiet (fail)
                          go_wp2_with fail
                          go_roundw
                          case rel => exact ⟨j + 1, true, by omega, rfl, rfl, fun _ => rfl, HB3.out.trans ((drewN_below' _ _).mono HB3.out.size)⟩
                          case measure => simp [intOf]; omega
                        · have hzy' : (z == y) = false := by simpa using hzy
                          have hlt : ¬ j0 < j + 1 := fun h => hzy (HJ2.out (by omega))
                          clear hzy HJ2
                          go_upto_region 25 with fail
                          go_quiet (fail)
                          go_wp2_with fail
                          go_roundw
                          case rel => exact ⟨j + 1, false, by omega, rfl, rfl, fun h => absurd h hlt, HB3.out.trans ((drewN_below' _ _).mono HB3.out.size)⟩
                          case measure => simp [intOf]; omega
                    · have : j = R.length := by omega
                      subst this
                      have hBt := hB hj0
                      subst hBt
                      clear hB hj hj1
                      go_wp2_with fail
                      go_roundw
                      case rel => exact ⟨a + 1, by omega, rfl, HBY.out.trans (HB3.out.mono HBY.out.size)⟩
                      case measure => simp [intOf]; omega
                · have : a = M.length := by omega
                  subst this
                  clear ha ha1
                  go_wp2_with fail
                  go_roundw
                  case rel => exact ⟨k + 1, by omega, rfl, HT.out.step (HB5.out.trans (HBY.out.mono HB5.out.size)), HV.out.below (HB5.out.trans (HBY.out.mono HB5.out.size))⟩
                  case measure => simp [intOf]; omega
          · have : k = R.length := by omega
            subst this
            clear hk hk1 HCL
            have hn60 : n ≤ 60 := by have := HL.out.1; have := HN.out; omega
            have ew2 : IntKind.i64.wrap (2 * (n : Int)) = 2 * (n : Int) := by rw [IntKind.wrap_i64]; omega
            by_cases h16 : (16 : Int) < 2 * (n : Int)
            · clear HV
              go_wp2_with (go_at_call 6; ((with_reducible refine (alive11_any _).mono ?_); rintro e w9 ⟨rfl, b9⟩))
              go_ret
              exact ⟨rfl, HT.out.bel.step b9⟩
            · have h16' : decide ((16 : Int) < 2 * (n : Int)) = false := decide_eq_false h16
              have h16n : 2 * l.length ≤ 16 := by have := HN.out; omega
              have HLD := Lib.hid (lim_dbl HL.out h16n)
              have HOD := Lib.hid (okp_dbl HE.out HO.out h16n)
              have HED := Lib.hid (look_dbl HE.out (by have := HN.out; omega) h16n)
              have hIl : I < l.length := by have := HN.out; omega
              have hb : ∀ x ∈ R, 0 ≤ x ∧ x < (n : Int) := fun x hx => by
                rw [← HR.out] at hx
                obtain ⟨j, rfl, hj, _⟩ := (reachX_mem HE.out hIl).1 hx
                have := HN.out
                omega
              have HBND := Lib.hid hb
              have hr1 : reachX (dbl l) (I : Int) = R := by rw [reachX_left HE.out h16n hIl]; exact HR.out
              have hr2 : reachX (dbl l) ((I : Int) + (n : Int)) = R.map (· + (n : Int)) := by
                have h := reachX_right HE.out h16n hIl
                rw [HR.out, ← HN.out, Int.natCast_add] at h
                exact h
              have HR1 := Lib.hid hr1
              have HR2 := Lib.hid hr2
              have HFK := Lib.hid (look_forks HE.out)
              have ewI : IntKind.i64.wrap ((I : Int) + (n : Int)) = (I : Int) + (n : Int) := by rw [IntKind.wrap_i64]; omega
              have HRL : Hid ((R.map (· + (n : Int))).length = R.length) := Lib.hid (by rw [List.length_map])
              clear h16 h16n hIl hb hr1 hr2
              go_upto_region 31 with (go_at_call 16; ((with_reducible refine (twice_any HT.out.a HL.out HFK.out).mono ?_); rintro e w5 ⟨vq, rfl, hvq, b5⟩; obtain ⟨pq, cq, rfl⟩ := hvq.slice; have HQ5 := Lib.hid (hvq.alloc (.cells #[.slice pq (dbl l).length cq] 24)); have HT5 := Lib.hid ((HT.out.step b5).alloc (.cells #[.slice pq (dbl l).length cq] 24)); have HV5 := Lib.hid ((HV.out.below b5).below ((Below.refl _ _).alloc (Nat.le_refl _) (.cells #[.slice pq (dbl l).length cq] 24))); have HB5 := Lib.hid (Blk.new w5 24 #[.slice pq (dbl l).length cq]); clear hvq b5))
              clear y0 HT HV
              generalize w5.alloc (.cells #[.slice pq (dbl l).length cq] 24) = wq at *
              generalize w5.heap.size = Q at *
              generalize (dbl l).length = N2 at *
              have q0 : wq.cell? ⟨Q, 0, none⟩ = some (.slice pq N2 cq) := HB5.out.cell 0
              go_upto_region 35 with (first
                | (go_at_call 7; ((with_reducible refine (cmay_c HQ5.out HLD.out HOD.out HED.out).mono ?_); rintro e w6 ⟨rfl, b6⟩; have HT6 := Lib.hid (HT5.out.step b6); have HQ6 := Lib.hid (HQ5.out.below b6); have HV6 := Lib.hid (HV5.out.below b6); have HB6 := Lib.hid (HB5.out.below b6); have q6 : w6.cell? ⟨Q, 0, none⟩ = some (.slice pq N2 cq) := HB6.out.cell 0; have y6 : w6.cell? ⟨W.heap.size, 0, none⟩ = some (.slice p n cap) := HT6.out.t.cell 0; clear b6))
                | (go_at_call 12; first
                  | ((with_reducible refine (reach_c HQ6.out HLD.out HOD.out HR2.out).mono ?_); rintro e w7 ⟨v7, rfl, hv7, b7⟩; obtain ⟨pm, cm, rfl⟩ := hv7.sliceN (n := R.length) HRL.out; have HM7 := Lib.hid hv7; have HT7 := Lib.hid (HT6.out.step b7); have HQ7 := Lib.hid (HQ6.out.below b7); have HV7 := Lib.hid (HV6.out.below b7); have HB7 := Lib.hid (HB6.out.below b7); have q7 : w7.cell? ⟨Q, 0, none⟩ = some (.slice pq N2 cq) := HB7.out.cell 0; clear b7 hv7)
                  | ((with_reducible refine (reach_c HQ7.out HLD.out HOD.out HR1.out).mono ?_); rintro e w8 ⟨v8, rfl, hv8, b8⟩; have HS8 := Lib.hid hv8; have HT8 := Lib.hid (HT7.out.step b8); have HV8 := Lib.hid (HV7.out.below b8); have HM8 := Lib.hid (HM7.out.below b8); clear b8 hv8))
                | (go_at_call 11; ((with_reducible refine (same_t HS8.out HV8.out HRN.out).mono ?_); rintro e w9 ⟨rfl, b9⟩; have HT9 := Lib.hid (HT8.out.step b9); have HV9 := Lib.hid (HV8.out.below b9); have HM9 := Lib.hid (HM8.out.below b9); clear b9)))
              clear HQ5 HT5 HV5 HB5 q0 HQ6 HT6 HV6 HB6 q6 y6 HQ7 HT7 HV7 HB7 q7 HM7 HS8 HT8 HV8 HM8
              go_wp2_with fail
              have hz4 : K2 w9 R (.int .i64 0) w9 := ⟨0, by omega, rfl, Below.refl _ _⟩
              go_loopw [27] (fun u wr => K2 w9 R u wr) (fun u _ => ((R.length : Int) - intOf u).toNat)
              case atStart => exact hz4
              case round =>
                clear hz4
                obtain ⟨a, ha1, rfl, hb⟩ := hrel
                have HBY := Lib.hid hb
                have y9 : wr.cell? ⟨W.heap.size, 0, none⟩ = some (.slice p n cap) := (HT9.out.step hb).t.cell 0
                clear hb
                by_cases ha : a < R.length
                · obtain ⟨p', c', e1, hy⟩ := HM9.out
                  rw [HRL.out] at e1
                  injection e1 with e1 _ e3
                  subst e1 e3
                  obtain ⟨gm, om, rfl, hgm, hcm⟩ := hy (by rw [HRL.out]; omega)
                  clear hy
                  obtain ⟨p', c', e1, hy⟩ := HV9.out
                  injection e1 with e1 _ e3
                  subst e1 e3
                  obtain ⟨gl, ol, rfl, hgl, hcl⟩ := hy (by omega)
                  clear hy
                  have haa : (a : Int) < (R.length : Int) := by omega
                  have haa0 : (0 : Int) ≤ (a : Int) := by omega
                  have c0 := hcl a ha
                  have d0 := hcm a (by rw [HRL.out]; exact ha)
                  rw [List.getElem_map] at d0
                  rw [← HBY.out.cell (p := ⟨gm, _, none⟩) hgm] at d0
                  rw [← HBY.out.cell (p := ⟨gl, _, none⟩) hgl] at c0
                  have hbz := HBND.out R[a] (List.getElem_mem ha)
                  clear hcm hcl
                  generalize R[a] = z at *
                  have ewz : IntKind.i64.wrap (z + (n : Int)) = z + (n : Int) := by rw [IntKind.wrap_i64]; omega
                  go_upto_region 38 with fail
                  go_quiet (fail)
                  go_wp2_with fail
                  go_roundw
                  case rel => exact ⟨a + 1, by omega, rfl, HBY.out.trans ((drewN_below' _ _).mono HBY.out.size)⟩
                  case measure => simp [intOf]; omega
                · have : a = R.length := by omega
                  subst this
                  clear ha ha1
                  go_wp2_with (go_at_call 6; ((with_reducible refine (alive11_any _).mono ?_); rintro e w10 ⟨rfl, b10⟩))
                  go_ret
                  exact ⟨rfl, ((HT9.out.step HBY.out).step b10).bel⟩
    · have hcn : (c != 0) = true := by simpa using hc
      have hcn' : (c == 0) = false := by simpa using hc
      clear hc
      go_enter Try.func4, Try.ntmps4
      go_wp2_with (first | (go_at_call 6; ((with_reducible refine (alive11_any _).mono ?_); rintro e w9 ⟨rfl, b9⟩)) | (go_at_call 5; ((with_reducible refine HH.out.mono ?_); rintro e w1 ⟨rfl, b1⟩; have HT1 := Lib.hid (HT0.out.step b1); have x1 : w1.cell? ⟨W.heap.size, 0, none⟩ = some (.slice p n cap) := HT1.out.t.cell 0; clear b1)) | (go_at_call 7; ((with_reducible refine (cmay_c HT1.out.a HL.out HO.out HE.out).mono ?_); rintro e w2 ⟨rfl, b2⟩; have HT2 := Lib.hid (HT1.out.step b2); clear b2)))
      go_ret
      exact ⟨rfl, HT2.out.bel.step b9⟩
set_option maxRecDepth 100000 in
theorem twice11_open {H : Type} {enc : TypeId × Value → H} {W : World} {base : Nat} {held : Bool} {r : Reach} {b0 : Nat} {d1 : DataW H} {ps1 : List MemPlace} {x : Value} (fb : Int)
    (hval1 : Value.okWide Try.prog W r b0 24 x) (hd1 : DataW.Trod enc Try.prog W base (fun _ => true) held 24 x d1 ps1) (_ : ∀ x ∈ ps1, x.block < W.heap.size) (hf : (Lit.int .u8 fb).wf = true) :
    Calls Try.prog 4 #[x, .int .u8 fb] W fun e w' => e = .returned (.bool true) ∧ Below W.heap.size W w' := by
  obtain ⟨u, l, rfl, hv, ho⟩ := open_prog hval1 hd1
  exact twice11_run hv ho (Go.bounds_u8 hf)
end Go.Proofs.Ytpidhcogaoehhaa
