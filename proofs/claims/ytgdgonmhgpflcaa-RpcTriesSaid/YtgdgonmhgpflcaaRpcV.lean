import Derived.Test.YtgdgonmhgpflcaaRpcU
import Derived.OpenShut

/- The walk of RpcTries: when tries are due. No condition. -/
namespace Go.Proofs.Ytgdgonmhgpflcaa
open Go.RowKit Go.Maps Wire Rp
set_option linter.unusedVariables false
set_option linter.unusedSimpArgs false
def TrR (w0 : World) (X0 b h : Nat) (W M R : Int) (at_ gap left now : Value) (wr : World) : Prop :=
  ∃ (n tr g t : Int) (bd bo : Nat) (B : Int → Nat) (vd vo : Value), now = .int .i64 n ∧ at_ = .int .i64 t ∧ gap = .int .i64 g ∧ left = .int .i64 (R - tr) ∧
    (1 ≤ n ∧ n ≤ t ∧ 1 ≤ tr ∧ tr ≤ R ∧ t ≤ 59 * tr ∧ 1 ≤ g ∧ g ≤ 59) ∧ Uno w0 wr b h bd bo B ⟨1, W, M, R, 1, [⟨1, 2, ⟨#[97]⟩, tr, t, g⟩], [], []⟩ vd vo 1 ∧ Blk wr X0 73 #[.int .i64 W, .int .i64 M, .int .i64 R]
set_option maxRecDepth 100000 in
set_option maxHeartbeats 4000000 in
theorem tries_t (a b0 c0 : Int) (ha : 0 ≤ a ∧ a ≤ 255) (hb : 0 ≤ b0 ∧ b0 ≤ 255) (hc : 0 ≤ c0 ∧ c0 ≤ 255) (w0 : World) : Calls Try.prog 6 #[.int .u8 a, .int .u8 b0, .int .u8 c0] w0 fun e w' => e = .returned (.bool true) ∧ Below w0.heap.size w0 w' := by
  go_enter Try.func6, Try.ntmps6
  go_upto_region 3 with fail
  obtain ⟨W, hW⟩ : ∃ W, W = a % 20 + 1 := ⟨_, rfl⟩
  obtain ⟨M, hM⟩ : ∃ M, M = a % 20 + 1 + b0 % 40 := ⟨_, rfl⟩
  obtain ⟨R, hR⟩ : ∃ R, R = c0 % 6 + 1 := ⟨_, rfl⟩
  rw [← hM, ← hW, ← hR]
  have HBD : Hid ((1 ≤ W ∧ W ≤ 20) ∧ (W ≤ M ∧ M ≤ 59) ∧ 1 ≤ R ∧ R ≤ 6) := Lib.hid (by omega)
  clear hW hM hR ha hb hc
  have HCF0 := Lib.hid (Blk.new w0 73 #[.int .i64 W, .int .i64 M, .int .i64 R])
  have HB0 : Hid (Below w0.heap.size w0 (w0.alloc (.cells #[.int .i64 W, .int .i64 M, .int .i64 R] 73))) := Lib.hid ((Below.refl _ _).alloc (Nat.le_refl _) _)
  generalize w0.alloc (.cells #[.int .i64 W, .int .i64 M, .int .i64 R] 73) = X at *
  obtain ⟨X0, hX0⟩ : ∃ X0, w0.heap.size = X0 := ⟨_, rfl⟩
  rw [hX0] at HCF0
  rw [hX0]
  have HX0 := Lib.hid hX0
  clear hX0
  have y0 : X.cell? ⟨X0, 0, none⟩ = some (.int .i64 W) := by rw [HCF0.out.cell 0]; rfl
  have y1 : X.cell? ⟨X0, 1, none⟩ = some (.int .i64 M) := by rw [HCF0.out.cell 1]; rfl
  have y2 : X.cell? ⟨X0, 2, none⟩ = some (.int .i64 R) := by rw [HCF0.out.cell 2]; rfl
  have HNW := Lib.hid (newc_any (inc := 1) (wait := W) (most := M) (tries := R) (by have := HBD.out; unfold confB; simp only [Bool.and_eq_true, decide_eq_true_eq]; omega) X (B0 := w0.heap.size) HB0.out.size)
  go_upto_region 6 with (go_at_call 29; go_loud ((with_reducible refine HNW.out.mono ?_); rintro e w1 ⟨b, h, rfl, hc, hb⟩; have HU1 := Lib.hid (show Uno w0 w1 b h X.heap.size X.heap.size (fun _ => 0) ⟨1, W, M, R, 0, [], [], []⟩ (.slice none 0 0) (.slice none 0 0) 0 from ⟨hc, HB0.out.trans (hb.mono HB0.out.size)⟩); have HCF1 := Lib.hid (HCF0.out.below hb); clear hc hb))
  clear y0 y1 y2 HNW HCF0 HB0
  have hcs : callS ⟨1, W, M, R, 0, [], [], []⟩ 2 ⟨#[97]⟩ 0 = (1, 0, ⟨1, W, M, R, 1, [⟨1, 2, ⟨#[97]⟩, 1, W, W⟩], [(2, pkS ⟨false, 1, 1, ⟨#[97]⟩⟩)], []⟩) := by
    unfold callS putS newC mkDue
    rw [if_neg (by decide), if_neg (by decide), if_neg (by simp), if_neg (by simp)]
    simp
  have HCS := Lib.hid hcs
  clear hcs
  go_upto_region 9 with (first
    | (go_at_call 30; go_loud ((with_reducible refine Calls.mono (uno_call HU1.out (by simp) (by decide) HCS.out) ?_); rintro e w2 ⟨rfl, Bq, vdq, voq, _, hd, hk, _⟩; have HU2 := Lib.hid hd; have HCF2 := Lib.hid (kpC_ty hk HCF1.out (by decide) (by decide) (by decide) (by decide)); clear hd hk))
    | (go_at_call 31; go_loud ((with_reducible refine Calls.mono (uno_due HU2.out) ?_); rintro e w3 ⟨rfl, hrow, _, Bq3, vdq3, voq3, _, hd, hk, _⟩; obtain ⟨pd, cd, rfl⟩ := owns_slice hrow; have HU3 := Lib.hid hd; have HCF3 := Lib.hid (kpC_ty hk HCF2.out (by decide) (by decide) (by decide) (by decide)); clear hd hk hrow)))
  clear HU1 HCF1 HU2 HCF2 HCS
  have y0 : w3.cell? ⟨X0, 0, none⟩ = some (.int .i64 W) := by rw [HCF3.out.cell 0]; rfl
  have y2 : w3.cell? ⟨X0, 2, none⟩ = some (.int .i64 R) := by rw [HCF3.out.cell 2]; rfl
  have er : wrap64 (R - 1) = R - 1 := by have := HBD.out; unfold wrap64; omega
  have HER := Lib.hid er
  have HZ : Hid (TrR w0 X0 b h W M R (.int .i64 W) (.int .i64 W) (.int .i64 (R - 1)) (.int .i64 1) w3.drew) := Lib.hid ⟨1, 1, W, W, _, _, _, _, _, rfl, rfl, rfl, rfl, by have := HBD.out; omega, HU3.out.below (Below.refl _ _).drew, HCF3.out.drew⟩
  go_region
  go_wp2_with fail
  clear y0 y2 HU3 HCF3 er
  go_loopw [11, 12, 13, 14] (fun at_ gap left now wr => TrR w0 X0 b h W M R at_ gap left now wr) (fun _ _ _ now _ => (600 - intOf now).toNat)
  case atStart => first | exact HZ.out | (rw [HER.out]; exact HZ.out)
  case round =>
    obtain ⟨n, tr, g, t, bd, bo, B, vd, vo, rfl, rfl, rfl, rfl, hb, hu, hcf⟩ := hrel
    have HB := Lib.hid hb
    have HU := Lib.hid hu
    have HCF := Lib.hid hcf
    have hn6 : n < 600 := by have := HBD.out; omega
    have HN6 := Lib.hid hn6
    have htm : timeB n = true := by unfold timeB; simp only [Bool.and_eq_true, decide_eq_true_eq]; omega
    have HTM := Lib.hid htm
    have HE : Hid (wrap64 (n + 1) = n + 1) := Lib.hid (by unfold wrap64; omega)
    clear hb hu hcf htm HZ
    by_cases h1 : n < t
    · have HTK := Lib.hid (uno_tick HU.out ⟨by simp, by simp⟩ (tk_keep HTM.out h1))
      go_wp2_with (first | (go_at_call 28; go_loud ((with_reducible refine Calls.mono HTK.out ?_); rintro e w4 ⟨rfl, Bq, vdq, voq, _, hd, hk, _⟩; have HD := Lib.hid hd; have HK := Lib.hid (kpC_ty hk HCF.out (by decide) (by decide) (by decide) (by decide)); clear hd hk)) | (go_at_call 31; go_loud ((with_reducible refine Calls.mono (uno_due HD.out) ?_); rintro e w5 ⟨rfl, hrow, _, Bq2, vdq2, voq2, _, hd, hk, _⟩; obtain ⟨pd, cd, rfl⟩ := owns_slice hrow; have HD2 := Lib.hid hd; have HK2 := Lib.hid (kpC_ty hk HK.out (by decide) (by decide) (by decide) (by decide)); clear hd hk hrow)) | (go_at_call 32; go_loud ((with_reducible refine Calls.mono (uno_ended HD2.out) ?_); rintro e w6 ⟨rfl, hrow, _, Bq3, vdq3, voq3, _, hd, hk, _⟩; obtain ⟨po, co, rfl⟩ := owns_slice hrow; have HR3 := Lib.hid hrow; have HD3 := Lib.hid hd; have HK3 := Lib.hid (kpC_ty hk HK2.out (by decide) (by decide) (by decide) (by decide)); clear hd hk hrow)))
      have HZ : Hid (TrR w0 X0 b h W M R (.int .i64 t) (.int .i64 g) (.int .i64 (R - tr)) (.int .i64 (n + 1)) w6) := Lib.hid ⟨n + 1, tr, g, t, _, _, _, _, _, rfl, rfl, rfl, rfl, by have := HB.out; omega, HD3.out, HK3.out⟩
      go_roundw
      case rel => first | exact HZ.out | (rw [HE.out]; exact HZ.out)
      case measure => have := HN6.out; first | (simp [intOf]; omega) | (rw [HE.out]; simp [intOf]; omega)
    · by_cases h2 : R ≤ tr
      · have hz : R - tr = 0 := by have := HB.out; omega
        have HTK := Lib.hid (uno_tick HU.out ⟨by simp, by simp⟩ (tk_late HTM.out h1 h2))
        rw [hz]
        clear hz
        go_upto_region 16 with (first | (go_at_call 28; go_loud ((with_reducible refine Calls.mono HTK.out ?_); rintro e w4 ⟨rfl, Bq, vdq, voq, _, hd, hk, _⟩; have HD := Lib.hid hd; have HK := Lib.hid (kpC_ty hk HCF.out (by decide) (by decide) (by decide) (by decide)); clear hd hk)) | (go_at_call 31; go_loud ((with_reducible refine Calls.mono (uno_due HD.out) ?_); rintro e w5 ⟨rfl, hrow, _, Bq2, vdq2, voq2, _, hd, hk, _⟩; obtain ⟨pd, cd, rfl⟩ := owns_slice hrow; have HD2 := Lib.hid hd; have HK2 := Lib.hid (kpC_ty hk HK.out (by decide) (by decide) (by decide) (by decide)); clear hd hk hrow)) | (go_at_call 32; go_loud ((with_reducible refine Calls.mono (uno_ended HD2.out) ?_); rintro e w6 ⟨rfl, hrow, _, Bq3, vdq3, voq3, _, hd, hk, _⟩; obtain ⟨po, co, rfl⟩ := owns_slice hrow; have HR3 := Lib.hid hrow; have HD3 := Lib.hid hd; have HK3 := Lib.hid (kpC_ty hk HK2.out (by decide) (by decide) (by decide) (by decide)); clear hd hk hrow)))
        obtain ⟨gr, cr, curR, hev, _, br, hcr⟩ := owns_blk HR3.out (by simp)
        injection hev with he1 he2 he3
        subst he1 he3
        clear he2
        have r0 : w6.cell? ⟨gr, 0, none⟩ = some (.int .u64 1) := by rw [br.cell 0]; exact hcr 0 (by simp)
        have r1 : w6.cell? ⟨gr, 1, none⟩ = some (.int .i64 2) := by rw [br.cell 1]; exact hcr 1 (by simp)
        have r2 : w6.cell? ⟨gr, 2, none⟩ = some (.string ⟨#[]⟩) := by rw [br.cell 2]; exact hcr 2 (by simp)
        have r3 : w6.cell? ⟨gr, 3, none⟩ = some (.int .i64 270) := by rw [br.cell 3]; exact hcr 3 (by simp)
        have HCL := Lib.hid (calls_any HD3.out.cw)
        have HB6 := Lib.hid HD3.out.bel
        clear HD HK HD2 HK2 HD3 HK3 HR3 hcr br HU HCF
        go_wp2_with (first
          | (go_at_call 24; go_loud ((with_reducible refine HCL.out.mono ?_); rintro e w21 ⟨v, rfl, hrow, hb⟩; obtain ⟨pv, cv, rfl⟩ := owns_slice hrow; have HB7 := Lib.hid (HB6.out.trans (hb.mono HB6.out.size)); clear hrow hb))
          | (go_at_call 9; go_loud ((with_reducible refine Calls.mono (works_t _) ?_); rintro e w22 ⟨rfl, hbw⟩; have HBW := Lib.hid (HB7.out.trans (hbw.mono HB7.out.size)); clear hbw)))
        go_ret
        exact ⟨rfl, HBW.out⟩
      · have hz : ¬ R - tr = 0 := by omega
        obtain ⟨m, hm⟩ : ∃ m, m = min (2 * g) M := ⟨_, rfl⟩
        have HMB : Hid (1 ≤ m ∧ m ≤ 59) := Lib.hid (by have := HB.out; have := HBD.out; omega)
        have htk := tk_fire (i := 1) (W := W) (M := M) (R := R) (l := 1) (x := ⟨1, 2, ⟨#[97]⟩, tr, t, g⟩) HTM.out h1 h2
        dsimp only at htk
        rw [← hm] at htk
        have HTK := Lib.hid (uno_tick HU.out ⟨by simp, by simp⟩ htk)
        have e2 : wrap64 (2 * g) = 2 * g := by have := HB.out; unfold wrap64; omega
        have e3 : wrap64 (R - tr - 1) = R - (tr + 1) := by have := HB.out; have := HBD.out; unfold wrap64; omega
        have e4 : wrap64 (n + m) = n + m := by have := HMB.out; have := HN6.out; have := HB.out; unfold wrap64; omega
        have hm' : min (wrap64 (2 * g)) M = m := by rw [e2]; exact hm.symm
        have hm2 : min (2 * g) M = m := hm.symm
        have HE3 := Lib.hid e3
        have HE4 := Lib.hid e4
        have HLT := Lib.hid (show n ≤ t ∧ ¬ n < t ∧ ¬ R ≤ tr from ⟨HB.out.2.1, h1, h2⟩)
        clear htk hm
        generalize pkS _ = T at *
        go_upto_region 24 with (first | (go_at_call 28; go_loud ((with_reducible refine Calls.mono HTK.out ?_); rintro e w4 ⟨rfl, Bq, vdq, voq, _, hd, hk, _⟩; have HD := Lib.hid hd; have HK := Lib.hid (kpC_ty hk HCF.out (by decide) (by decide) (by decide) (by decide)); clear hd hk)) | (go_at_call 31; go_loud ((with_reducible refine Calls.mono (uno_due HD.out) ?_); rintro e w5 ⟨rfl, hrow, _, Bq2, vdq2, voq2, _, hd, hk, _⟩; obtain ⟨pd, cd, rfl⟩ := owns_slice hrow; have HD2 := Lib.hid hd; have HK2 := Lib.hid (kpC_ty hk HK.out (by decide) (by decide) (by decide) (by decide)); clear hd hk hrow)) | (go_at_call 32; go_loud ((with_reducible refine Calls.mono (uno_ended HD2.out) ?_); rintro e w6 ⟨rfl, hrow, _, Bq3, vdq3, voq3, _, hd, hk, _⟩; obtain ⟨po, co, rfl⟩ := owns_slice hrow; have HR3 := Lib.hid hrow; have HD3 := Lib.hid hd; have HK3 := Lib.hid (kpC_ty hk HK2.out (by decide) (by decide) (by decide) (by decide)); clear hd hk hrow)))
        have y1 : w6.cell? ⟨X0, 1, none⟩ = some (.int .i64 M) := by rw [HK3.out.cell 1]; rfl
        go_wp2_with fail
        have HZ : Hid (TrR w0 X0 b h W M R (.int .i64 (n + m)) (.int .i64 m) (.int .i64 (R - (tr + 1))) (.int .i64 (n + 1)) w6) := Lib.hid ⟨n + 1, tr + 1, m, n + m, _, _, _, _, _, rfl, rfl, rfl, rfl, by have := HB.out; have := HMB.out; have := HLT.out; omega, HD3.out, HK3.out⟩
        go_roundw
        case rel => first | exact HZ.out | (rw [HE4.out, HE3.out]; exact HZ.out) | (rw [HE.out, HE4.out, HE3.out]; exact HZ.out)
        case measure => have := HN6.out; first | (simp [intOf]; omega) | (rw [HE.out]; simp [intOf]; omega)
theorem tries_w (a b0 c0 : Int) (ha : (Lit.int .u8 a).wf = true) (hb : (Lit.int .u8 b0).wf = true) (hc : (Lit.int .u8 c0).wf = true) (w0 : World) : Calls Try.prog 6 #[.int .u8 a, .int .u8 b0, .int .u8 c0] w0 fun e w' => e = .returned (.bool true) ∧ Below w0.heap.size w0 w' := tries_t a b0 c0 (bounds_u8 ha) (bounds_u8 hb) (bounds_u8 hc) w0
end Go.Proofs.Ytgdgonmhgpflcaa
