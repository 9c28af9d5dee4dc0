import Derived.Test.YtgdgonmhgpflcaaRpdH
import Derived.OpenShut
import Derived.BigQuiet

/- The walk of RpcCalls. No condition. -/
namespace Go.Proofs.Ytgdgonmhgpflcaa
open Go.RowKit Go.Maps Wire Rp
set_option linter.unusedVariables false
set_option linter.unusedSimpArgs false
namespace Rp
def stepA (x : StepR) : Array Value := #[.int .i64 x.d, .int .i64 x.a, .string x.s, .int .i64 x.now, .int .u64 x.n, .int .u64 x.m, .bool x.p.an, .int .u64 x.p.inc, .int .u64 x.p.seq, .string x.p.body]
def SmallS (s : St) : Prop := s.du.length ≤ 1000 ∧ s.ov.length ≤ 1000
theorem small_call {s : St} {wh now : Int} {body : ByteArray} {q1 q2 : Int} {q3 : St} (hr : callS s wh body now = (q1, q2, q3)) (hs : s.du = [] ∧ s.ov = []) : SmallS q3 := by
  have h : SmallS (callS s wh body now).2.2 := by
    unfold callS
    split
    · unfold SmallS; rw [hs.1, hs.2]; simp
    · split
      · unfold SmallS; rw [hs.1, hs.2]; simp
      · split
        · unfold SmallS; rw [hs.1, hs.2]; simp
        · split
          · unfold SmallS; rw [hs.1, hs.2]; simp
          · unfold SmallS putS; dsimp only; rw [hs.1, hs.2]; simp
  rwa [hr] at h
theorem small_take {s : St} {fr : Int} {p : Pk} {q1 : Bool} {q2 : Int} {q3 : St} (hr : takeS s fr p = (q1, q2, q3)) (hs : s.du = [] ∧ s.ov = []) : SmallS q3 := by
  have h0 : SmallS s := by unfold SmallS; rw [hs.1, hs.2]; simp
  have h : SmallS (takeS s fr p).2.2 := by
    unfold takeS
    repeat' split
    all_goals first
      | exact h0
      | (unfold SmallS endsS; dsimp only; rw [hs.1, hs.2]; simp)
  rwa [hr] at h
theorem small_tick {s : St} {now : Int} {q1 : Int} {q3 : St} (hr : tickS s now = (q1, q3)) (hs : s.du = [] ∧ s.ov = []) (hl : s.L.length ≤ 64) : SmallS q3 := by
  have h : SmallS (tickS s now).2 := by
    unfold tickS
    split
    · have := tick_len s now s.L.length (Nat.le_refl _)
      rw [hs.1, hs.2] at this
      unfold SmallS
      simp at this ⊢
      omega
    · unfold SmallS; rw [hs.1, hs.2]; simp
  rwa [hr] at h
theorem small_stop {s : St} {x y : Int} (hs : s.du = [] ∧ s.ov = []) : SmallS (stop1 (stop1 s x).2 y).2 := by
  have h : ∀ (s : St) (x : Int), (stop1 s x).2.du = s.du ∧ (stop1 s x).2.ov = s.ov := fun s x => by unfold stop1; split <;> exact ⟨rfl, rfl⟩
  unfold SmallS
  rw [(h _ y).1, (h _ y).2, (h s x).1, (h s x).2, hs.1, hs.2]; simp
end Rp
def CutR (w0 : World) (b h r Q : Nat) (A : Array Value) (N : Nat) (f : Value) (wc : World) : Prop := f = .bool true ∧ ∃ s1 N1, N1 ≤ N + 1 ∧ SmallS s1 ∧ Mid w0 wc b h r Q A s1 s1 N1
theorem Pre.mid0 {w0 w : World} {b h r Q : Nat} {A : Array Value} {s s' : St} {N : Nat} (t : Pre w0 w b h r Q A s s' N) (hs : s'.du = [] ∧ s'.ov = []) : Mid w0 w b h r Q A s s' N := by
  obtain ⟨bd, bo, B, vd, vo, vL, bD, bO, c, k, hb2, hq⟩ := t
  exact Pre.mid c k hb2 hq hs c (OnC.refl _ _ _ _ _ _)
theorem Two.len {w0 w : World} {b h r : Nat} {s : St} {N : Nat} (t : Two w0 w b h r s N) : s.L.length ≤ 64 := by obtain ⟨bd, bo, B, vd, vo, vL, bD, bO, c, k, hb2⟩ := t; exact c.inv.len
def CallsR (w0 W : World) (b h r n : Nat) (u : Value) (wr : World) : Prop := ∃ (i N : Nat) (s : St), u = .int .i64 i ∧ i ≤ n ∧ N ≤ i ∧ (s.du = [] ∧ s.ov = []) ∧ Two w0 wr b h r s N
set_option maxRecDepth 100000 in
set_option maxHeartbeats 8000000 in
theorem calls_t (inc a b0 c0 : Int) {w0 : World} {v : Value} {n : Nat} {sx : Nat → StepR} (hv : ScriptR w0 v n sx) : Calls Try.prog 7 #[.int .u64 inc, .agg #[.int .i64 a, .int .i64 b0, .int .i64 c0], v] w0 fun e w' => e = .returned (.bool true) ∧ Below w0.heap.size w0 w' := by
  have HV := Lib.hid hv
  obtain ⟨p, cap, rfl, _⟩ := hv
  have HB1 : Hid (Below w0.heap.size w0 (w0.alloc (.cells #[.int .i64 a, .int .i64 b0, .int .i64 c0] 73))) := Lib.hid ((Below.refl _ _).alloc (Nat.le_refl _) _)
  have HCF0 := Lib.hid (Blk.new w0 73 #[.int .i64 a, .int .i64 b0, .int .i64 c0])
  have HV1 := Lib.hid (HV.out.below HB1.out)
  go_enter Try.func7, Try.ntmps7
  go_upto_region 1 with fail
  generalize w0.alloc (.cells #[.int .i64 a, .int .i64 b0, .int .i64 c0] 73) = X at *
  obtain ⟨X0, hX0⟩ : ∃ X0, w0.heap.size = X0 := ⟨_, rfl⟩
  rw [hX0] at HCF0
  rw [hX0]
  have HX0 := Lib.hid hX0
  clear hX0
  have HHV := Lib.hid (heavyR HV1.out)
  cases hcf : confB inc a b0 c0 with
  | false =>
    have HNC := Lib.hid (fun w => newc_bad hcf w)
    have HNR := Lib.hid (fun w => rnewc_bad hcf w)
    clear hcf
    go_wp2_with (first
      | (go_at_call 33; ((with_reducible refine HHV.out.mono ?_); rintro e w1 ⟨⟨hv, rfl, hn⟩, hb⟩; have HB2 := Lib.hid (HB1.out.trans (hb.mono HB1.out.size)); have HCF1 := Lib.hid (HCF0.out.below hb); have y0 : w1.cell? ⟨X0, 0, none⟩ = some (.int .i64 a) := (by rw [HCF1.out.cell 0]; rfl); have y1 : w1.cell? ⟨X0, 1, none⟩ = some (.int .i64 b0) := (by rw [HCF1.out.cell 1]; rfl); have y2 : w1.cell? ⟨X0, 2, none⟩ = some (.int .i64 c0) := (by rw [HCF1.out.cell 2]; rfl); clear hn hb))
      | (go_at_call 29; ((with_reducible refine Calls.mono (HNC.out _) ?_); rintro e w2 ⟨rfl, hb⟩; have HB3 := Lib.hid (HB2.out.trans (hb.mono HB2.out.size)); have HCF2 := Lib.hid (HCF1.out.below hb); have z0 : w2.cell? ⟨X0, 0, none⟩ = some (.int .i64 a) := (by rw [HCF2.out.cell 0]; rfl); have z1 : w2.cell? ⟨X0, 1, none⟩ = some (.int .i64 b0) := (by rw [HCF2.out.cell 1]; rfl); have z2 : w2.cell? ⟨X0, 2, none⟩ = some (.int .i64 c0) := (by rw [HCF2.out.cell 2]; rfl); clear hb))
      | (go_at_call 34; ((with_reducible refine Calls.mono (HNR.out _) ?_); rintro e w3 ⟨rfl, hb⟩; have HB4 := Lib.hid (HB3.out.trans (hb.mono HB3.out.size)); clear hb))
      | (go_at_call 9; ((with_reducible refine Calls.mono (works_t _) ?_); rintro e w5 ⟨rfl, hbw⟩; first | have HBW := Lib.hid (HB4.out.trans (hbw.mono HB4.out.size)) | have HBW := Lib.hid (HB2.out.trans (hbw.mono HB2.out.size)); clear hbw)))
    all_goals go_ret
    all_goals (have := HX0.out; subst this; exact ⟨rfl, HBW.out⟩)
  | true =>
    have HNC := Lib.hid (fun w hB => newc_any hcf w (B0 := w0.heap.size) hB)
    have HNR := Lib.hid (fun w hB => rnewc_any hcf w (B0 := w0.heap.size) hB)
    clear hcf
    go_upto_region 10 with (first
      | (go_at_call 33; ((with_reducible refine HHV.out.mono ?_); rintro e w1 ⟨⟨hv, rfl, hn⟩, hb⟩; have HN := Lib.hid hn; have HB2 := Lib.hid (HB1.out.trans (hb.mono HB1.out.size)); have HCF1 := Lib.hid (HCF0.out.below hb); have y0 : w1.cell? ⟨X0, 0, none⟩ = some (.int .i64 a) := (by rw [HCF1.out.cell 0]; rfl); have y1 : w1.cell? ⟨X0, 1, none⟩ = some (.int .i64 b0) := (by rw [HCF1.out.cell 1]; rfl); have y2 : w1.cell? ⟨X0, 2, none⟩ = some (.int .i64 c0) := (by rw [HCF1.out.cell 2]; rfl); clear hn hb))
      | (go_at_call 29; ((with_reducible refine Calls.mono (HNC.out _ HB2.out.size) ?_); rintro e w2 ⟨b, h, rfl, hc, hb⟩; have HC2 := Lib.hid hc; have HB3 := Lib.hid (HB2.out.trans (hb.mono HB2.out.size)); have HCF2 := Lib.hid (HCF1.out.below hb); have z0 : w2.cell? ⟨X0, 0, none⟩ = some (.int .i64 a) := (by rw [HCF2.out.cell 0]; rfl); have z1 : w2.cell? ⟨X0, 1, none⟩ = some (.int .i64 b0) := (by rw [HCF2.out.cell 1]; rfl); have z2 : w2.cell? ⟨X0, 2, none⟩ = some (.int .i64 c0) := (by rw [HCF2.out.cell 2]; rfl); clear hc hb))
      | (go_at_call 34; ((with_reducible refine Calls.mono (HNR.out _ HB3.out.size) ?_); rintro e w3 ⟨r, rfl, hk, hb, _⟩; have HT := Lib.hid (show Two w0 w3 b h r _ 0 from ⟨_, _, _, _, _, _, _, _, HC2.out.below hb, hk, HB3.out.trans (hb.mono HB3.out.size)⟩); clear hk hb))
      | (go_at_call 9; ((with_reducible refine Calls.mono (works_t _) ?_); rintro e w5 ⟨rfl, hbw⟩; have HBW := Lib.hid (HB2.out.trans (hbw.mono HB2.out.size)); clear hbw)))
    · go_ret
      have := HX0.out; subst this
      exact ⟨rfl, HBW.out⟩
    · have HX := Lib.hid HX0.out
      clear y0 y1 y2 z0 z1 z2 HC2 HB3 HCF2 HCF1 HB2 HCF0 HV1 HB1 HHV HNC HNR
      have HTZ : Hid (CallsR w0 w3 b h r n (.int .i64 0) w3) := Lib.hid ⟨0, 0, _, rfl, Nat.zero_le _, Nat.le_refl _, ⟨rfl, rfl⟩, HT.out⟩
      go_loopw [10] (fun u wr => CallsR w0 w3 b h r n u wr) (fun u _ => ((n : Int) - intOf u).toNat)
      case atStart => exact HTZ.out
      case round =>
        obtain ⟨i, N, s, rfl, hi, hNi, hs, ht⟩ := hrel
        have HT := Lib.hid ht
        have HS : Hid ((s.du = [] ∧ s.ov = []) ∧ s.du = [] ∧ s.ov = []) := Lib.hid ⟨hs, hs⟩
        have HL64 := Lib.hid ht.len
        by_cases hin : i < n
        · have hin' : (i : Int) < (n : Int) := by omega
          have hi0 : (0 : Int) ≤ (i : Int) := by omega
          obtain ⟨p', c', e1, hx⟩ := HV.out.below ht.bel
          injection e1 with e1 e2 e3
          subst e1 e3
          obtain ⟨g, off, rfl, hg, hx⟩ := hx (by omega)
          obtain ⟨⟨x0, x1, x2, x3, x4, x5, x6, x7, x8, x9⟩, hok⟩ := hx i hin
          have hn250 : n ≤ 250 := HN.out (by assumption)
          have HE : Hid (wrap64 ((i : Int) + 1) = ((i + 1 : Nat) : Int)) := Lib.hid (Sou.w64n rfl (by omega))
          have HIN := Lib.hid hin
          have HNI := Lib.hid hNi
          have HOK := Lib.hid hok
          have HN9 : Hid (N ≤ 900000) := Lib.hid (by omega)
          clear hx hin e2 hs ht hi hNi hok hn250
          generalize sx i = x at *
          have HP := Lib.hid (HT.out.pre (A := stepA x))
          unfold stepA at HP
          obtain ⟨xd, xa, xs, xnow, xn, xm, ⟨xan, xinc, xsq, xb⟩⟩ := x
          dsimp only at x0 x1 x2 x3 x4 x5 x6 x7 x8 x9 HP
          unfold StepOk at HOK
          dsimp only at HOK
          go_upto_block 2 with fail
          have HM0 := Lib.hid (HP.out.mid0 HS.out.1)
          have HSM0 : Hid (SmallS s) := Lib.hid (by unfold SmallS; rw [HS.out.1.1, HS.out.1.2]; simp)
          clear x0 x1 x2 x3 x4 x5 x6 x7 x8 x9 HT
          generalize wr.alloc (.cells #[.int .i64 xd, .int .i64 xa, .string xs, .int .i64 xnow, .int .u64 xn, .int .u64 xm, .bool xan, .int .u64 xinc, .int .u64 xsq, .string xb] 90) = W at *
          generalize wr.heap.size = Q at *
          have y1 : W.cell? ⟨Q, 1, none⟩ = some (.int .i64 xa) := by rw [HP.out.blk.cell 1]; rfl
          have y2 : W.cell? ⟨Q, 2, none⟩ = some (.string xs) := by rw [HP.out.blk.cell 2]; rfl
          have y3 : W.cell? ⟨Q, 3, none⟩ = some (.int .i64 xnow) := by rw [HP.out.blk.cell 3]; rfl
          have y4 : W.cell? ⟨Q, 4, none⟩ = some (.int .u64 xn) := by rw [HP.out.blk.cell 4]; rfl
          have y5 : W.cell? ⟨Q, 5, none⟩ = some (.int .u64 xm) := by rw [HP.out.blk.cell 5]; rfl
          have y6 : W.cell? ⟨Q, 6, none⟩ = some (.bool xan) := by rw [HP.out.blk.cell 6]; rfl
          have y7 : W.cell? ⟨Q, 7, none⟩ = some (.int .u64 xinc) := by rw [HP.out.blk.cell 7]; rfl
          have y8 : W.cell? ⟨Q, 8, none⟩ = some (.int .u64 xsq) := by rw [HP.out.blk.cell 8]; rfl
          have y9 : W.cell? ⟨Q, 9, none⟩ = some (.string xb) := by rw [HP.out.blk.cell 9]; rfl
          go_cut [12] (fun f wc => CutR w0 b h r Q #[.int .i64 xd, .int .i64 xa, .string xs, .int .i64 xnow, .int .u64 xn, .int .u64 xm, .bool xan, .int .u64 xinc, .int .u64 xsq, .string xb] N f wc)
          case first =>
            by_cases h0 : xd = 0
            · subst h0
              as_aux_lemma =>
                obtain ⟨q1, q2, q3, hq⟩ : ∃ q1 q2 q3, callS s xa xs xnow = (q1, q2, q3) := ⟨_, _, _, rfl⟩
                have HQ := Lib.hid hq
                have HSM := Lib.hid (small_call hq HS.out.1)
                clear hq
                go_wp2_with (first
                  | (go_at_call 30; go_loud ((with_reducible refine Calls.mono (m_call HP.out HS.out HN9.out HQ.out) ?_); rintro e w4 ⟨rfl, hm⟩; have HM4 := Lib.hid hm; have z1 : w4.cell? ⟨Q, 1, none⟩ = some (.int .i64 xa) := (by rw [hm.blk.cell 1]; rfl); have z2 : w4.cell? ⟨Q, 2, none⟩ = some (.string xs) := (by rw [hm.blk.cell 2]; rfl); have z3 : w4.cell? ⟨Q, 3, none⟩ = some (.int .i64 xnow) := (by rw [hm.blk.cell 3]; rfl); clear hm))
                  | (go_at_call 35; go_loud ((with_reducible refine Calls.mono (m_rcall HM4.out HS.out.2 HQ.out) ?_); rintro e w5 ⟨rfl, hm⟩; have HM5 := Lib.hid hm; clear hm)))
                go_meet
                exact ⟨rfl, _, _, Nat.le_refl _, HSM.out, HM5.out⟩
            · by_cases h1 : xd = 1
              · subst h1
                as_aux_lemma =>
                  obtain ⟨q1, q2, q3, hq⟩ : ∃ q1 q2 q3, takeS s xa ⟨xan, xinc, xsq, xb⟩ = (q1, q2, q3) := ⟨_, _, _, rfl⟩
                  have HQ := Lib.hid hq
                  have HSM := Lib.hid (small_take hq HS.out.1)
                  have HT1 := Lib.hid (m_take HP.out HS.out (fr := xa) (p := ⟨xan, xinc, xsq, xb⟩) HOK.out.2.2.2.1 hq)
                  have HT2 := Lib.hid (fun (w : World) (A : Array Value) (hh : Mid w0 w b h r Q A q3 s N) => m_rtake hh HS.out.2 (fr := xa) (p := ⟨xan, xinc, xsq, xb⟩) hq)
                  unfold pv pcells at HT1 HT2
                  dsimp only at HT1 HT2
                  clear hq
                  go_wp2_with (first
                    | (go_at_call 36; go_loud ((with_reducible refine Calls.mono HT1.out ?_); rintro e w4 ⟨rfl, hm⟩; have HM4 := Lib.hid hm; have z1 : w4.cell? ⟨Q, 1, none⟩ = some (.int .i64 xa) := (by rw [hm.blk.cell 1]; rfl); have z6 : w4.cell? ⟨Q, 6, none⟩ = some (.bool xan) := (by rw [hm.blk.cell 6]; rfl); have z7 : w4.cell? ⟨Q, 7, none⟩ = some (.int .u64 xinc) := (by rw [hm.blk.cell 7]; rfl); have z8 : w4.cell? ⟨Q, 8, none⟩ = some (.int .u64 xsq) := (by rw [hm.blk.cell 8]; rfl); have z9 : w4.cell? ⟨Q, 9, none⟩ = some (.string xb) := (by rw [hm.blk.cell 9]; rfl); clear hm))
                    | (go_at_call 37; go_loud ((with_reducible refine Calls.mono (HT2.out _ _ HM4.out) ?_); rintro e w5 ⟨rfl, hm⟩; have HM5 := Lib.hid hm; clear hm)))
                  go_meet
                  exact ⟨rfl, _, _, Nat.le_succ _, HSM.out, HM5.out⟩
              · by_cases h2 : xd = 2
                · subst h2
                  obtain ⟨q1, q3, hq⟩ : ∃ q1 q3, tickS s xnow = (q1, q3) := ⟨_, _, rfl⟩
                  have HSM := Lib.hid (small_tick hq HS.out.1 HL64.out)
                  have HQ := Lib.hid hq
                  have HT1 := Lib.hid (m_tick (HP.out.below (Below.refl _ W).drew) HS.out hq)
                  clear hq y1 y2 y4 y5 y6 y7 y8 y9
                  have y3n : W.drew.cell? ⟨Q, 3, none⟩ = some (.int .i64 xnow) := y3
                  go_upto_region 24 with fail
                  go_region_law (first
                    | (refine step_call (by rfl) 28 #[.pointer (some ⟨b, 0, none⟩), .int .i64 xnow] (by simp only [execOp]; go_simp) HT1.out (fun e w' h => ⟨_, h.1⟩) ?_; intro v4 w4 h4; obtain ⟨hv4, hm⟩ := h4; injection hv4 with hv4; subst hv4; have HM4 := Lib.hid hm; have z3 : w4.cell? ⟨Q, 3, none⟩ = some (.int .i64 xnow) := (by rw [hm.blk.cell 3]; rfl); clear hm)
                    | (refine step_call (by rfl) 38 #[.pointer (some ⟨r, 0, none⟩), .int .i64 xnow] (by simp only [execOp]; go_simp) (m_rtick HM4.out HS.out.2 HQ.out) (fun e w' h => ⟨_, h.1⟩) ?_; intro v5 w5 h5; obtain ⟨hv5, hm⟩ := h5; injection hv5 with hv5; subst hv5; have HM5 := Lib.hid hm; have z5 : w5.cell? ⟨Q, 3, none⟩ = some (.int .i64 xnow) := (by rw [hm.blk.cell 3]; rfl); clear hm))
                  all_goals (go_wp2_with fail; go_meet)
                  all_goals exact ⟨rfl, _, _, Nat.le_succ _, HSM.out, HM5.out⟩
                · by_cases h3 : xd = 3
                  · subst h3
                    as_aux_lemma =>
                      have HSM := Lib.hid (small_stop (x := xn) (y := xm) HS.out.1)
                      obtain ⟨q1, s1, hq⟩ : ∃ q1 s1, stop1 s xn = (q1, s1) := ⟨_, _, rfl⟩
                      obtain ⟨q2, s2, hq2⟩ : ∃ q2 s2, stop1 s1 xm = (q2, s2) := ⟨_, _, rfl⟩
                      rw [hq] at HSM
                      dsimp only at HSM
                      rw [hq2] at HSM
                      dsimp only at HSM
                      have HQ1 := Lib.hid hq
                      have HQ2 := Lib.hid hq2
                      have HQ : Hid (stopS s [xn, xm] = (q1 + q2, s2)) := Lib.hid (by
                        have h1 : stopS s [xn, xm] = ((stop1 s xn).1 + ((stop1 (stop1 s xn).2 xm).1 + 0), (stop1 (stop1 s xn).2 xm).2) := rfl
                        rw [h1, hq]; dsimp only; rw [hq2]; simp)
                      have HSV : Hid (∀ (s : St) (x q : Int) (t : St), stop1 s x = (q, t) → 0 ≤ q ∧ q ≤ 1) := Lib.hid fun s x q t h => by
                        have : 0 ≤ (stop1 s x).1 ∧ (stop1 s x).1 ≤ 1 := by unfold stop1; split <;> simp
                        rwa [h] at this
                      have w12 : wrap64 (q1 + q2) = q1 + q2 := by have := HSV.out _ _ _ _ hq; have := HSV.out _ _ _ _ hq2; unfold wrap64; omega
                      have HPA : Hid (Pre w0 (W.alloc (.cells #[.int .u64 xn, .int .u64 xm] 22)) b h r Q _ s s N) := Lib.hid (HP.out.below ((Below.refl _ W).alloc (Nat.le_refl _) _))
                      have hru : RowU (W.alloc (.cells #[.int .u64 xn, .int .u64 xm] 22)) (some ⟨W.heap.size, 0, none⟩) [xn, xm] := .inr ⟨W.heap.size, 22, rfl, Blk.new _ _ _⟩
                      have hxu : ∀ x ∈ [xn, xm], U64 x := fun x hx => by
                        rcases List.mem_cons.1 hx with e | hx
                        · rw [e]; exact HOK.out.1
                        · rcases List.mem_cons.1 hx with e | hx
                          · rw [e]; exact HOK.out.2.1
                          · cases hx
                      have HTS := Lib.hid (m_stop HPA.out HS.out (xs := [xn, xm]) (n := 2) (cap := 2) hru rfl (by decide) hxu HQ.out)
                      clear hq hq2 hru hxu
                      go_wp2_with (first
                        | (go_at_call 39; go_loud ((with_reducible refine Calls.mono HTS.out ?_); rintro e w4 ⟨rfl, hm⟩; have HM4 := Lib.hid hm; have z4 : w4.cell? ⟨Q, 4, none⟩ = some (.int .u64 xn) := (by rw [hm.blk.cell 4]; rfl); clear hm))
                        | (go_at_call 40; ((with_reducible refine Calls.mono (m_rstop HM4.out xn HQ1.out) ?_); rintro e w5 ⟨rfl, hm⟩; have HM5 := Lib.hid hm; have z5 : w5.cell? ⟨Q, 5, none⟩ = some (.int .u64 xm) := (by rw [hm.blk.cell 5]; rfl); clear hm z4 HM4))
                        | (go_at_call 40; go_loud ((with_reducible refine Calls.mono (m_rstop HM5.out xm HQ2.out) ?_); rintro e w6 ⟨rfl, hm⟩; have HM6 := Lib.hid hm; clear hm)))
                      go_meet
                      exact ⟨rfl, _, _, Nat.le_succ _, HSM.out, HM6.out⟩
                  · skip
                    go_wp2_with fail
                    go_meet
                    exact ⟨rfl, _, _, Nat.le_succ _, HSM0.out, HM0.out⟩
          case rest =>
            obtain ⟨rfl, s1, N1, hN1, hsm, hm⟩ := hcut
            as_aux_lemma =>
              have HMC := Lib.hid hm
              have HSM1 := Lib.hid hsm
              have HNN := Lib.hid hN1
              clear hm hsm hN1 HP HM0 HSM0 y1 y2 y3 y4 y5 y6 y7 y8 y9 HOK
              go_upto_region 31 with (first
                | (go_at_call 24; go_loud ((with_reducible refine Calls.mono (m_calls HMC.out) ?_); rintro e w4 ⟨⟨vl, rfl, hr, hb⟩, hm4⟩; obtain ⟨pl, cl, rfl⟩ := owns_slice hr; have HRL := Lib.hid hr; have HM4 := Lib.hid hm4; clear hr hb hm4))
                | (go_at_call 31; go_loud ((with_reducible refine Calls.mono (m_due HM4.out) ?_); rintro e w5 ⟨⟨vd, bd, rfl, hr⟩, hm5, hk⟩; obtain ⟨pd, cd, rfl⟩ := owns_slice hr; have HRL5 := Lib.hid (hk HRL.out (by decide)); have HRD := Lib.hid hr; have HM5 := Lib.hid hm5; clear hr hm5 hk))
                | (go_at_call 32; go_loud ((with_reducible refine Calls.mono (m_ended HM5.out) ?_); rintro e w6 ⟨⟨vo, bo, rfl, hr⟩, hm6, hk⟩; obtain ⟨po, co, rfl⟩ := owns_slice hr; have HRL6 := Lib.hid (hk HRL5.out (by decide)); have HRD6 := Lib.hid (hk HRD.out (by decide)); have HRO6 := Lib.hid hr; have HM6 := Lib.hid hm6; clear hr hm6 hk)))
              clear HRL HRL5 HRD HM4 HM5 HMC
              obtain ⟨_, _, _, _, _, vL, vD, vO, bD, bO, _, k, _⟩ := id HM6.out
              have HK := Lib.hid k
              obtain ⟨pL, cL, rfl⟩ := k.lslice
              obtain ⟨pD, cD, rfl⟩ := k.dslice
              obtain ⟨pO, cO, rfl⟩ := k.oslice
              have c5 := k.c5
              have c6 := k.c6
              have c7 := k.c7
              have HC5 : Hid (∀ {wq : World}, Below w6.heap.size w6 wq → wq.cell? ⟨r, 5, none⟩ = some (.slice pL s1.L.length cL) ∧ wq.cell? ⟨r, 6, none⟩ = some (.slice pD s1.du.length cD) ∧ wq.cell? ⟨r, 7, none⟩ = some (.slice pO s1.ov.length cO) ∧ (∀ o, wq.frozen? ⟨r, o, none⟩ = false)) := Lib.hid fun hb => ⟨(HK.out.below hb).c5, (HK.out.below hb).c6, (HK.out.below hb).c7, (HK.out.below hb).fz⟩
              have HL1 := Lib.hid k.inv.len
              clear k
              have HM6' : Hid (∀ {wq : World}, Below w6.heap.size w6 wq → CallsR w0 w3 b h r n (.int .i64 ((i + 1 : Nat) : Int)) ((wq.setCell ⟨r, 6, none⟩ (.slice none 0 0)).setCell ⟨r, 7, none⟩ (.slice none 0 0))) := Lib.hid fun hb => ⟨i + 1, N1, _, rfl, HIN.out, by have := HNN.out; have := HNI.out; omega, ⟨rfl, rfl⟩, (HM6.out.below hb).drop⟩
              clear HM6
              go_upto_region 33 with fail
              clear c5 c6 c7
              go_wp2_with fail
              go_loopw [27] (fun u wq => ∃ j : Nat, j ≤ s1.L.length ∧ u = .int .i64 j ∧ Below w6.heap.size w6 wq) (fun u _ => ((s1.L.length : Int) - intOf u).toNat)
              case atStart => exact ⟨0, Nat.zero_le _, rfl, Below.refl _ _⟩
              case round =>
                obtain ⟨j, hj, rfl, hb⟩ := hrel
                have HJ := Lib.hid hj
                have HBQ := Lib.hid hb
                obtain ⟨c5, c6, c7, cf⟩ := HC5.out hb
                clear hj
                by_cases hjl : j < s1.L.length
                · have hjl' : (j : Int) < (s1.L.length : Int) := by omega
                  have hj0 : (0 : Int) ≤ (j : Int) := by omega
                  obtain ⟨ga, ca, ea, _, hga, _, hca⟩ := owns_cells HRL6.out (by omega)
                  obtain ⟨gb, cb, eb, _, hgb, hgr, _, hcb⟩ := (HK.out.below hb).call hjl
                  injection ea with ea1 ea2 ea3
                  injection eb with eb1 eb2 eb3
                  subst ea1 ea3 eb1 eb3
                  have xa0 := hca j (by omega)
                  rw [List.getElem?_map, List.getElem?_eq_getElem hjl, ← HBQ.out.cell (p := ⟨ga, _, none⟩) hga] at xa0
                  have xb0 : wr.cell? ⟨gb, j * 6, none⟩ = some (.int .u64 s1.L[j].seq) := hcb 0 (by decide)
                  have HJE : Hid (wrap64 ((j : Int) + 1) = ((j + 1 : Nat) : Int)) := Lib.hid (Sou.w64n rfl (by have := HL1.out; omega))
                  have HJL := Lib.hid hjl
                  clear hca hcb ea2 eb2 hb
                  generalize s1.L[j] = xj at *
                  clear hjl
                  dsimp only [Option.map_some] at xa0
                  go_upto_region 36 with fail
                  refine Reg.wp_text (by kernel_rfl) (by kernel_rfl) ?_
                  go_wp2_with fail
                  refine Reg.fin (by kernel_rfl) ?_
                  go_wp2_with fail
                  go_roundw
                  case rel => first | exact ⟨j + 1, HJL.out, rfl, HBQ.out.drew⟩ | (rw [HJE.out]; exact ⟨j + 1, HJL.out, rfl, HBQ.out.drew⟩)
                  case measure => have := HJL.out; first | (simp [intOf]; omega) | (rw [HJE.out]; simp [intOf]; omega)
                · obtain rfl : j = s1.L.length := by have := HJ.out; omega
                  have hjl' : ¬ ((s1.L.length : Nat) : Int) < (s1.L.length : Int) := by omega
                  clear hjl c5 c6 c7 cf HJ
                  go_wp2_with fail
                  go_loopw [28] (fun u wq => ∃ j : Nat, j ≤ s1.du.length ∧ u = .int .i64 j ∧ Below w6.heap.size w6 wq) (fun u _ => ((s1.du.length : Int) - intOf u).toNat)
                  case atStart => exact ⟨0, Nat.zero_le _, rfl, HBQ.out⟩
                  case round =>
                    clear HBQ hb
                    obtain ⟨j, hj, rfl, hb⟩ := hrel
                    have HJ := Lib.hid hj
                    have HBQ := Lib.hid hb
                    obtain ⟨c5, c6, c7, cf⟩ := HC5.out hb
                    clear hj
                    by_cases hjl : j < s1.du.length
                    · have hjl' : (j : Int) < (s1.du.length : Int) := by omega
                      have hj0 : (0 : Int) ≤ (j : Int) := by omega
                      obtain ⟨ga, ca, ea, _, hga, _, hca⟩ := owns_cells HRD6.out (by omega)
                      obtain ⟨gb, cb, eb, _, hgb, _, hcb⟩ := owns_cells HK.out.du (by omega)
                      injection ea with ea1 ea2 ea3
                      injection eb with eb1 eb2 eb3
                      subst ea1 ea3 eb1 eb3
                      have xa0 : wr.cell? ⟨ga, j * 2, none⟩ = some (.int .i64 s1.du[j].1) := by rw [HBQ.out.cell (p := ⟨ga, _, none⟩) hga, hca (j * 2) (by omega)]; exact flat_at dcells 2 (fun _ => rfl) s1.du j 0 hjl (by decide)
                      have xa1 : wr.cell? ⟨ga, j * 2 + 1, none⟩ = some (.string s1.du[j].2) := by rw [HBQ.out.cell (p := ⟨ga, _, none⟩) hga, hca (j * 2 + 1) (by omega)]; exact flat_at dcells 2 (fun _ => rfl) s1.du j 1 hjl (by decide)
                      have xb0 : wr.cell? ⟨gb, j * 2, none⟩ = some (.int .i64 s1.du[j].1) := by rw [HBQ.out.cell (p := ⟨gb, _, none⟩) hgb, hcb (j * 2) (by omega)]; exact flat_at dcells 2 (fun _ => rfl) s1.du j 0 hjl (by decide)
                      have xb1 : wr.cell? ⟨gb, j * 2 + 1, none⟩ = some (.string s1.du[j].2) := by rw [HBQ.out.cell (p := ⟨gb, _, none⟩) hgb, hcb (j * 2 + 1) (by omega)]; exact flat_at dcells 2 (fun _ => rfl) s1.du j 1 hjl (by decide)
                      have HJE : Hid (wrap64 ((j : Int) + 1) = ((j + 1 : Nat) : Int)) := Lib.hid (Sou.w64n rfl (by have := HSM1.out.1; omega))
                      have HJL := Lib.hid hjl
                      clear hca hcb ea2 eb2 hb
                      generalize s1.du[j].1 = xj at *
                      generalize s1.du[j].2 = xk at *
                      clear hjl
                      go_upto_region 41 with fail
                      go_quiet (fail)
                      go_wp2_with fail
                      go_roundw
                      case rel => first | exact ⟨j + 1, HJL.out, rfl, HBQ.out.step (drewN_below' _ _)⟩ | (rw [HJE.out]; exact ⟨j + 1, HJL.out, rfl, HBQ.out.step (drewN_below' _ _)⟩)
                      case measure => have := HJL.out; first | (simp [intOf]; omega) | (rw [HJE.out]; simp [intOf]; omega)
                    · obtain rfl : j = s1.du.length := by have := HJ.out; omega
                      have hjl' : ¬ ((s1.du.length : Nat) : Int) < (s1.du.length : Int) := by omega
                      clear hjl c5 c6 c7 cf HJ
                      go_wp2_with fail
                      go_loopw [29] (fun u wq => ∃ j : Nat, j ≤ s1.ov.length ∧ u = .int .i64 j ∧ Below w6.heap.size w6 wq) (fun u _ => ((s1.ov.length : Int) - intOf u).toNat)
                      case atStart => exact ⟨0, Nat.zero_le _, rfl, HBQ.out⟩
                      case round =>
                        clear HBQ hb
                        obtain ⟨j, hj, rfl, hb⟩ := hrel
                        have HJ := Lib.hid hj
                        have HBQ := Lib.hid hb
                        obtain ⟨c5, c6, c7, cf⟩ := HC5.out hb
                        clear hj
                        by_cases hjl : j < s1.ov.length
                        · have hjl' : (j : Int) < (s1.ov.length : Int) := by omega
                          have hj0 : (0 : Int) ≤ (j : Int) := by omega
                          obtain ⟨ga, ca, ea, _, hga, _, hca⟩ := owns_cells HRO6.out (by omega)
                          obtain ⟨gb, cb, eb, _, hgb, _, hcb⟩ := owns_cells HK.out.ov (by omega)
                          injection ea with ea1 ea2 ea3
                          injection eb with eb1 eb2 eb3
                          subst ea1 ea3 eb1 eb3
                          have xa0 : wr.cell? ⟨ga, j * 4, none⟩ = some (.int .u64 s1.ov[j].seq) := by rw [HBQ.out.cell (p := ⟨ga, _, none⟩) hga, hca (j * 4) (by omega)]; exact flat_at ocells 4 (fun _ => rfl) s1.ov j 0 hjl (by decide)
                          have xa1 : wr.cell? ⟨ga, j * 4 + 1, none⟩ = some (.int .i64 s1.ov[j].wh) := by rw [HBQ.out.cell (p := ⟨ga, _, none⟩) hga, hca (j * 4 + 1) (by omega)]; exact flat_at ocells 4 (fun _ => rfl) s1.ov j 1 hjl (by decide)
                          have xa2 : wr.cell? ⟨ga, j * 4 + 2, none⟩ = some (.string s1.ov[j].body) := by rw [HBQ.out.cell (p := ⟨ga, _, none⟩) hga, hca (j * 4 + 2) (by omega)]; exact flat_at ocells 4 (fun _ => rfl) s1.ov j 2 hjl (by decide)
                          have xa3 : wr.cell? ⟨ga, j * 4 + 3, none⟩ = some (.int .i64 s1.ov[j].err) := by rw [HBQ.out.cell (p := ⟨ga, _, none⟩) hga, hca (j * 4 + 3) (by omega)]; exact flat_at ocells 4 (fun _ => rfl) s1.ov j 3 hjl (by decide)
                          have xb0 : wr.cell? ⟨gb, j * 4, none⟩ = some (.int .u64 s1.ov[j].seq) := by rw [HBQ.out.cell (p := ⟨gb, _, none⟩) hgb, hcb (j * 4) (by omega)]; exact flat_at ocells 4 (fun _ => rfl) s1.ov j 0 hjl (by decide)
                          have xb1 : wr.cell? ⟨gb, j * 4 + 1, none⟩ = some (.int .i64 s1.ov[j].wh) := by rw [HBQ.out.cell (p := ⟨gb, _, none⟩) hgb, hcb (j * 4 + 1) (by omega)]; exact flat_at ocells 4 (fun _ => rfl) s1.ov j 1 hjl (by decide)
                          have xb2 : wr.cell? ⟨gb, j * 4 + 2, none⟩ = some (.string s1.ov[j].body) := by rw [HBQ.out.cell (p := ⟨gb, _, none⟩) hgb, hcb (j * 4 + 2) (by omega)]; exact flat_at ocells 4 (fun _ => rfl) s1.ov j 2 hjl (by decide)
                          have xb3 : wr.cell? ⟨gb, j * 4 + 3, none⟩ = some (.int .i64 s1.ov[j].err) := by rw [HBQ.out.cell (p := ⟨gb, _, none⟩) hgb, hcb (j * 4 + 3) (by omega)]; exact flat_at ocells 4 (fun _ => rfl) s1.ov j 3 hjl (by decide)
                          have HJE : Hid (wrap64 ((j : Int) + 1) = ((j + 1 : Nat) : Int)) := Lib.hid (Sou.w64n rfl (by have := HSM1.out.2; omega))
                          have HJL := Lib.hid hjl
                          clear hca hcb ea2 eb2 hb
                          generalize s1.ov[j] = xj at *
                          clear hjl
                          obtain ⟨o1, o2, o3, o4⟩ := xj
                          dsimp only at xa0 xa1 xa2 xa3 xb0 xb1 xb2 xb3
                          go_upto_region 46 with fail
                          go_quiet (fail)
                          go_wp2_with fail
                          go_roundw
                          case rel => first | exact ⟨j + 1, HJL.out, rfl, HBQ.out.step (drewN_below' _ _)⟩ | (rw [HJE.out]; exact ⟨j + 1, HJL.out, rfl, HBQ.out.step (drewN_below' _ _)⟩)
                          case measure => have := HJL.out; first | (simp [intOf]; omega) | (rw [HJE.out]; simp [intOf]; omega)
                        · obtain rfl : j = s1.ov.length := by have := HJ.out; omega
                          have hjl' : ¬ ((s1.ov.length : Nat) : Int) < (s1.ov.length : Int) := by omega
                          clear hjl HJ
                          have HF := Lib.hid (HM6'.out HBQ.out)
                          go_wp2_with fail
                          go_roundw
                          case rel => first | exact HF.out | (rw [HE.out]; exact HF.out)
                          case measure => have := HIN.out; first | (simp [intOf]; omega) | (rw [HE.out]; simp [intOf]; omega)
        · obtain rfl : i = n := by omega
          have hin' : ¬ ((i : Nat) : Int) < (i : Int) := by omega
          have HB := Lib.hid ht.bel
          clear hin hs ht hi hNi
          go_wp2_with (go_at_call 9; ((with_reducible refine Calls.mono (works_t _) ?_); rintro e w5 ⟨rfl, hbw⟩; have HBW := Lib.hid (HB.out.trans (hbw.mono HB.out.size)); clear hbw))
          go_ret
          have := HX.out; subst this
          exact ⟨rfl, HBW.out⟩
end Go.Proofs.Ytgdgonmhgpflcaa
