import Derived.Test.YtghbjknpffiaiaaMtO

/- The law 'MsgBack' at any message, any bytes. No condition but the bytes' length. -/
namespace Go.Proofs.Ytghbjknpffiaiaa
open Go.RowKit Wire Ms
set_option linter.unusedVariables false
set_option linter.unusedSimpArgs false
theorem lite_may {m : M} (h : mayM m = true) : Lite m := by
  unfold mayM at h
  simp only [Bool.and_eq_true] at h
  obtain ⟨_, _, h3, _⟩ := h
  rw [List.all_eq_true] at h3
  have hb : ∀ p, bp p m = true := fun p => by have := h3 p (all_mem p); simp only [Bool.and_eq_true] at this; exact this.1
  have hT : decide (m.tok.size ≤ 32) = true := hb .T
  have hP : decide (m.prog.size ≤ 16384) = true := hb .P
  have hI : decide (m.input.length ≤ 16) = true := hb .I
  have hK : (pathB m.task.path && (!nb m.task.fn 15 && (decide (m.task.args.length ≤ 16) && !nb m.task.fuel 65536))) = true := hb .K
  have hN : (decide (m.ents.length ≤ 128) && m.ents.all fun e => pathB e.nm.path && (!nb e.kids 16 && (!nb e.res.err 9999 && resB e.res))) = true := hb .N
  have hH : (decide (m.epochs.length ≤ 128) && m.epochs.all fun x => decide (x ≤ 281474976710656)) = true := hb .H
  have hA : (decide (m.names.length ≤ 128) && m.names.all fun n => pathB n.path) = true := hb .A
  have hC : (decide (m.codes.length ≤ 128) && m.codes.all fun x => !nb x 9999) = true := hb .C
  simp only [Bool.and_eq_true, decide_eq_true_eq, List.all_eq_true] at hT hP hI hK hN hH hA hC
  exact ⟨by omega, by omega, by have := pathB_size hK.1; omega, by omega, by have := hK.2.2.1; omega, ⟨by have := hN.1; omega, fun e he => by have := pathB_size (hN.2 e he).1; omega⟩, by have := hH.1; omega, ⟨by have := hA.1; omega, fun n hn => by have := pathB_size (hA.2 n hn); omega⟩, by have := hC.1; omega⟩
theorem may_size {m : M} (h : mayM m = true) : (rawS m).size ≤ 8192 := by
  unfold mayM at h
  simp only [Bool.and_eq_true, decide_eq_true_eq] at h
  rw [rawS_size]; exact h.2.2.2
set_option maxRecDepth 100000 in
set_option maxHeartbeats 8000000 in
theorem back_run {m : M} {v : VS} {s : ByteArray} {W : World} (hm : MR W W.heap.size m v) (tm : TyM m) (hs : s.size ≤ maxLen) :
    Calls Try.prog 3 #[.agg (mcells m v), .string s] W (AlP W) := by
  have hW : Below W.heap.size W (W.alloc (.cells (mcells m v) 34)) := (Below.refl _ W).alloc (Nat.le_refl _) _
  have ca : ApC W (W.alloc (.cells (mcells m v) 34)) W.heap.size m v := .one hm hW (Blk.new W _ _)
  obtain ⟨W1, hW1⟩ : ∃ W1, W1 = (W.alloc (.cells (mcells m v) 34)) := ⟨_, rfl⟩
  have K0 : Hid (Below W1.heap.size W1 (W.alloc (.cells (mcells m v) 34))) := Lib.hid (by rw [← hW1]; exact Below.refl _ _)
  rw [← hW1] at hW ca
  clear hW1
  have HW := Lib.hid hW
  have HA := Lib.hid ca.blk
  have RA := Lib.hid ca.row
  obtain ⟨p1, c1, p2, c2, p3, c3, p4, c4, p5, c5, p6, c6, rfl⟩ := hm.vs
  clear hm hW ca
  by_cases hha : HvOk m
  case neg =>
    have HHa := Lib.hid (fun w k => heavy_t (RA.out w k) (Nat.le_refl _) hha)
    clear RA hha tm hs
    unfold mcells at *
    dsimp only at *
    go_enter Try.func3, Try.ntmps3
    go_wp2_with (first | (refine wpl_load_blk (HA.out _ K0.out) rfl _ _ rfl rfl Try.underlying34 rfl (by kernel_rfl) ?_) | (refine wpl_load_blkg (HA.out _ K0.out) rfl _ _ rfl rfl Try.underlying34 rfl (by kernel_rfl) ?_) | (go_at_call 5; ((with_reducible refine (HHa.out _ K0.out).mono ?_); rintro e w1 ⟨rfl, hbq⟩; have K1 := Lib.hid (K0.out.step hbq); clear hbq)) | (go_at_call 6; ((with_reducible refine (alive26_any _).mono ?_); rintro e wz ⟨rfl, hbq⟩; have KZ := Lib.hid (K1.out.step hbq); clear hbq)))
    go_ret
    exact ⟨rfl, HW.out.trans (KZ.out.mono HW.out.size)⟩
  case pos =>
    have HHa := Lib.hid (fun w k => heavy_f (RA.out w k) (Nat.le_refl _) hha)
    by_cases h14 : (16384 : Int) < (s.size : Int)
    · clear RA hha tm hs
      unfold mcells at *
      dsimp only at *
      go_enter Try.func3, Try.ntmps3
      go_wp2_with (first | (refine wpl_load_blk (HA.out _ K0.out) rfl _ _ rfl rfl Try.underlying34 rfl (by kernel_rfl) ?_) | (refine wpl_load_blkg (HA.out _ K0.out) rfl _ _ rfl rfl Try.underlying34 rfl (by kernel_rfl) ?_) | (go_at_call 5; ((with_reducible refine (HHa.out _ K0.out).mono ?_); rintro e w1 ⟨rfl, hbq⟩; have K1 := Lib.hid (K0.out.step hbq); clear hbq)) | (go_at_call 6; ((with_reducible refine (alive26_any _).mono ?_); rintro e wz ⟨rfl, hbq⟩; have KZ := Lib.hid (K1.out.step hbq); clear hbq)))
      go_ret
      exact ⟨rfl, HW.out.trans (KZ.out.mono HW.out.size)⟩
    · have HL := Lib.hid hha.lite
      have HEa := Lib.hid (fun w k => enc_any (RA.out w k) (Nat.le_refl _) tm hha.lite)
      have HDs := Lib.hid (fun w => dec_any s hs w)
      obtain ⟨n, c, hd⟩ : ∃ n c, decS s = (n, c) := ⟨_, _, rfl⟩
      have htn := ty_dec s
      have hbk := dec_back (s := s)
      rw [hd] at HDs htn hbk
      have HTN := Lib.hid htn
      have HBK := Lib.hid hbk
      obtain ⟨sm, cm, he⟩ : ∃ sm cm, encS m = (sm, cm) := ⟨_, _, rfl⟩
      rw [he] at HEa
      rw [enc_eq tm] at he
      have HE := Lib.hid he
      have HTM := Lib.hid tm
      clear hs hha tm hd htn hbk he
      dsimp only at *
      go_enter Try.func3, Try.ntmps3
      go_upto_region 3 with (first | (refine wpl_load_blk (HA.out _ K0.out) rfl _ _ rfl rfl Try.underlying34 rfl (by kernel_rfl) ?_) | (refine wpl_load_blkg (HA.out _ K0.out) rfl _ _ rfl rfl Try.underlying34 rfl (by kernel_rfl) ?_) | (go_at_call 5; ((with_reducible refine (HHa.out _ K0.out).mono ?_); rintro e w1 ⟨rfl, hbq⟩; have K1 := Lib.hid (K0.out.step hbq); clear hbq)))
      go_upto_if 28 with (first | (refine wpl_load_blk (HA.out _ K1.out) rfl _ _ rfl rfl Try.underlying34 rfl (by kernel_rfl) ?_) | (refine wpl_load_blkg (HA.out _ K1.out) rfl _ _ rfl rfl Try.underlying34 rfl (by kernel_rfl) ?_) | (go_at_call 7; ((with_reducible refine (HEa.out _ K1.out).mono ?_); rintro e w2 ⟨rfl, hbq⟩; have K2 := Lib.hid (K1.out.step hbq); clear hbq)))
      clear HHa HEa K0 K1 h14
      go_cut [] (fun wc => Below W1.heap.size W1 wc)
      case first =>
        by_cases hma : mayM m = true
        · have hx := HE.out
          rw [if_pos hma] at hx
          injection hx with hx1 hx2
          subst hx1 hx2
          have hsz := may_size hma
          have hz : (rawS m).size + (⟨#[0]⟩ : ByteArray).size ≤ 9223372036854775807 := by have : (⟨#[0]⟩ : ByteArray).size = 1 := rfl; omega
          have HD1 := Lib.hid (fun w => (show Calls Try.prog 8 #[.string (rawS m)] w (DecP w m 0) from by have h := dec_any (rawS m) (by unfold maxLen; omega) w; rw [dec_raw HTM.out hma] at h; exact h))
          have HD2 := Lib.hid (fun w => (show Calls Try.prog 8 #[.string (rawS m ++ ⟨#[0]⟩)] w (DecP w m0 8) from by have h := dec_any (rawS m ++ ⟨#[0]⟩) (by rw [ByteArray.size_append]; unfold maxLen; have : (⟨#[0]⟩ : ByteArray).size = 1 := rfl; omega) w; rw [dec_more HTM.out hma] at h; exact h))
          have HEV : Hid ((encS m).2 = 0) := Lib.hid (by rw [enc_eq HTM.out, if_pos hma])
          clear hma hsz HE
          generalize rawS m = sm at *
          go_upto_region 6 with (first
            | (go_at_call 8; go_loud ((with_reducible refine (HD1.out _).mono ?_); rintro e w3 ⟨v3, rfl, hr, hbq⟩; obtain ⟨q1, qc1, q2, qc2, q3, qc3, q4, qc4, q5, qc5, q6, qc6, rfl⟩ := hr.vs; have R3 := Lib.hid hr; have K3 := Lib.hid (K2.out.step hbq); clear hr hbq))
            | (refine wpl_store_blk (Blk.new _ _ _) rfl _ _ _ rfl rfl rfl (by kernel_rfl) rfl mc_one ?_; go_loud (intro w4 hbk ho; have HU4 := Lib.hid hbk; have L4 := Lib.hid (al_step ho); have K4 := Lib.hid (K3.out.step L4.out); clear hbk ho)))
          go_upto_region 7 with (first
            | (go_at_call 8; go_loud ((with_reducible refine (HD2.out _).mono ?_); rintro e w5 ⟨v5, rfl, hr, hbq⟩; obtain ⟨t1, tc1, t2, tc2, t3, tc3, t4, tc4, t5, tc5, t6, tc6, rfl⟩ := hr.vs; have R5 := Lib.hid hr; have L5 := Lib.hid (L4.out.step hbq); have K5 := Lib.hid (K4.out.step hbq); have HU5 := Lib.hid (HU4.out.below hbq); clear hr hbq))
            | (refine wpl_store_blk (Blk.new _ _ _) rfl _ _ _ rfl rfl rfl (by kernel_rfl) rfl mc_one ?_; go_loud (intro w6 hbk ho; have HV6 := Lib.hid hbk; have L6 := Lib.hid (L5.out.step (al_step ho)); have K6 := Lib.hid (K5.out.step (al_step ho)); have HU6 := Lib.hid (HU5.out.below (al_step ho)); clear hbk ho)))
          have HS1 := Lib.hid (show Calls Try.prog 9 #[.agg (mcells m _), .agg (mcells m _)] w6 (EqP true w6) from by have h := same_any (RA.out w6 K6.out) ((R3.out.keep fun b o x h1 h2 => Below.cellq L6.out h1 h2).mono L6.out.size) (Nat.le_refl _) HL.out; rw [decide_eq_true rfl] at h; exact h)
          have HMY := Lib.hid (fun w (k : Below w3.heap.size w3 w) => show Calls Try.prog 10 #[.agg (mcells m _)] w (EqP true w) from by have h := may_any ((R3.out.keep fun b o x h1 h2 => Below.cellq k h1 h2).mono k.size) (Nat.le_refl _) HTM.out HL.out; rw [HEV.out] at h; exact h)
          go_wp2_with (first | (refine wpl_load_blk HU7.out rfl _ _ rfl rfl Try.underlying34 rfl (by kernel_rfl) ?_) | (refine wpl_load_blkg HU7.out rfl _ _ rfl rfl Try.underlying34 rfl (by kernel_rfl) ?_) | (refine wpl_load_blk HU6.out rfl _ _ rfl rfl Try.underlying34 rfl (by kernel_rfl) ?_) | (refine wpl_load_blkg HU6.out rfl _ _ rfl rfl Try.underlying34 rfl (by kernel_rfl) ?_) | (refine wpl_load_blk (HA.out _ K6.out) rfl _ _ rfl rfl Try.underlying34 rfl (by kernel_rfl) ?_) | (refine wpl_load_blkg (HA.out _ K6.out) rfl _ _ rfl rfl Try.underlying34 rfl (by kernel_rfl) ?_) | (go_at_call 9; ((with_reducible refine HS1.out.mono ?_); rintro e w7 ⟨rfl, hbq⟩; have L7 := Lib.hid (L6.out.step hbq); have K7 := Lib.hid (K6.out.step hbq); have HU7 := Lib.hid (HU6.out.below hbq); clear hbq)) | (go_at_call 10; ((with_reducible refine (HMY.out _ L7.out).mono ?_); rintro e w8 ⟨rfl, hbq⟩; have K8 := Lib.hid (K7.out.step hbq); clear hbq)))
          go_meet
          exact K8.out
        · have hx := HE.out
          rw [if_neg hma] at hx
          injection hx with hx1 hx2
          subst hx1 hx2
          clear hma HE
          go_wp2_with fail
          go_meet
          exact K2.out
      case rest =>
        have K2 := Lib.hid hcut
        clear hcut HE HA RA HL HTM
        go_upto_region 10 with (first
          | (go_at_call 8; go_loud ((with_reducible refine (HDs.out _).mono ?_); rintro e w3 ⟨v3, rfl, hr, hbq⟩; obtain ⟨q1, qc1, q2, qc2, q3, qc3, q4, qc4, q5, qc5, q6, qc6, rfl⟩ := hr.vs; have R3 := Lib.hid hr; have K3 := Lib.hid (K2.out.step hbq); clear hr hbq))
          | (refine wpl_store_blk (Blk.new _ _ _) rfl _ _ _ rfl rfl rfl (by kernel_rfl) rfl mc_one ?_; go_loud (intro w4 hbk ho; have HU4 := Lib.hid hbk; have L4 := Lib.hid (al_step ho); have K4 := Lib.hid (K3.out.step L4.out); clear hbk ho)))
        by_cases hc : c = 0
        · obtain ⟨b1, b2, b3⟩ := HBK.out hc
          have HEn := Lib.hid (fun w (k : Below w3.heap.size w3 w) => show Calls Try.prog 7 #[.agg (mcells n _)] w (EncP w s 0) from by have h := enc_any ((R3.out.keep fun b o x h1 h2 => Below.cellq k h1 h2).mono k.size) (Nat.le_refl _) HTN.out (lite_may b1); rw [b3] at h; exact h)
          have hc' : (c == 0) = true := by simpa using hc
          have hst := str_of (a := s) rfl
          clear hc b1 b2 b3 HBK HTN
          go_wp2_with (first | (refine wpl_load_blk HU4.out rfl _ _ rfl rfl Try.underlying34 rfl (by kernel_rfl) ?_) | (refine wpl_load_blkg HU4.out rfl _ _ rfl rfl Try.underlying34 rfl (by kernel_rfl) ?_) | (go_at_call 7; ((with_reducible refine (HEn.out _ L4.out).mono ?_); rintro e w5 ⟨rfl, hbq⟩; have K5 := Lib.hid (K4.out.step hbq); clear hbq)) | (go_at_call 6; ((with_reducible refine (alive26_any _).mono ?_); rintro e wz ⟨rfl, hbq⟩; have KZ := Lib.hid (K5.out.step hbq); clear hbq)))
          go_ret
          exact ⟨rfl, HW.out.trans (KZ.out.mono HW.out.size)⟩
        · have hc' : (c == 0) = false := by simpa using hc
          clear hc HBK HTN
          go_wp2_with (go_at_call 6; ((with_reducible refine (alive26_any _).mono ?_); rintro e wz ⟨rfl, hbq⟩; have KZ := Lib.hid (K4.out.step hbq); clear hbq))
          go_ret
          exact ⟨rfl, HW.out.trans (KZ.out.mono HW.out.size)⟩
set_option maxRecDepth 100000 in
theorem back_open {H : Type} {enc : TypeId × Value → H} {W : World} {base : Nat} {held : Bool} {r : Reach} {b0 : Nat} {d1 : DataW H} {ps1 : List MemPlace} {x : Value} (s : ByteArray)
    (hval1 : Value.okWide Try.prog W r b0 34 x) (hd1 : DataW.Trod enc Try.prog W base (fun _ => true) held 34 x d1 ps1) (_ : ∀ x ∈ ps1, x.block < W.heap.size) (hs : s.size ≤ maxLen) :
    Calls Try.prog 3 #[x, .string s] W fun e w' => e = .returned (.bool true) ∧ Below W.heap.size W w' := by
  obtain ⟨a, v, rfl, h1, t1⟩ := open_msg hval1 hd1
  exact back_run h1 t1 hs
end Go.Proofs.Ytghbjknpffiaiaa
