import Derived.Test.YtghbjknpffiaiaaMgl

/- The law 'MsgApart' at any two messages. No condition. -/
namespace Go.Proofs.Ytghbjknpffiaiaa
open Go.RowKit Wire Ms
set_option linter.unusedVariables false
set_option linter.unusedSimpArgs false
theorem blk_b {W w : World} {b : Nat} {T : TypeId} {A : Array Value} (h : Blk W b T A) (hb : Below W.heap.size W w) : Blk w b T A := h.below hb
/-- What holds behind the boxes: the contracts, at any world from there on. -/
structure ApC (W W1 : World) (g : Nat) (m : M) (v : VS) : Prop where
  blk : ∀ w, Below W1.heap.size W1 w → Blk w g 34 (mcells m v)
  row : ∀ w, Below W1.heap.size W1 w → MR w w.heap.size m v
theorem ApC.one {W W1 : World} {g : Nat} {m : M} {v : VS} (h : MR W W.heap.size m v) (hb : Below W.heap.size W W1) (hk : Blk W1 g 34 (mcells m v)) : ApC W W1 g m v :=
  ⟨fun w k => hk.below k, fun w k => (h.keep fun b o x h1 h2 => Below.cellq (hb.trans (k.mono hb.size)) h1 h2).mono (Nat.le_trans hb.size k.size)⟩
set_option maxRecDepth 100000 in
set_option maxHeartbeats 8000000 in
theorem apart_run {a b : M} {v u : VS} {W : World} (ha : MR W W.heap.size a v) (hb : MR W W.heap.size b u) (ta : TyM a) (tb : TyM b) :
    Calls Try.prog 4 #[.agg (mcells a v), .agg (mcells b u)] W (AlP W) := by
  have hW : Below W.heap.size W ((W.alloc (.cells (mcells a v) 34)).alloc (.cells (mcells b u) 34)) := ((Below.refl _ W).alloc (Nat.le_refl _) _).alloc (by simp) _
  have ca : ApC W ((W.alloc (.cells (mcells a v) 34)).alloc (.cells (mcells b u) 34)) W.heap.size a v := .one ha hW ((Blk.new W _ _).alloc _)
  have cb : ApC W ((W.alloc (.cells (mcells a v) 34)).alloc (.cells (mcells b u) 34)) (W.heap.size + 1) b u := .one hb hW (blk_new1 W _ _ _)
  have HW := Lib.hid hW
  have K0 := Lib.hid (Below.refl (((W.alloc (.cells (mcells a v) 34)).alloc (.cells (mcells b u) 34))).heap.size ((W.alloc (.cells (mcells a v) 34)).alloc (.cells (mcells b u) 34)))
  have HA := Lib.hid ca.blk
  have HX := Lib.hid cb.blk
  have RA := Lib.hid ca.row
  have RB := Lib.hid cb.row
  obtain ⟨p1, c1, p2, c2, p3, c3, p4, c4, p5, c5, p6, c6, rfl⟩ := ha.vs
  obtain ⟨q1, d1, q2, d2, q3, d3, q4, d4, q5, d5, q6, d6, rfl⟩ := hb.vs
  clear ha hb hW ca cb
  by_cases hha : HvOk a
  · have HHa := Lib.hid (fun w k => heavy_f (RA.out w k) (Nat.le_refl _) hha)
    by_cases hhb : HvOk b
    · have HHb := Lib.hid (fun w k => heavy_f (RB.out w k) (Nat.le_refl _) hhb)
      have HEa := Lib.hid (fun w k => enc_any (RA.out w k) (Nat.le_refl _) ta hha.lite)
      have HEb := Lib.hid (fun w k => enc_any (RB.out w k) (Nat.le_refl _) tb hhb.lite)
      have HS := Lib.hid (fun w k => same_any (RA.out w k) (RB.out w k) (Nat.le_refl _) hha.lite)
      rw [enc_eq ta] at HEa
      rw [enc_eq tb] at HEb
      clear RA RB
      by_cases hma : mayM a = true
      · rw [if_pos hma] at HEa
        by_cases hmb : mayM b = true
        · rw [if_pos hmb] at HEb
          have hinj := raw_inj ta tb hma hmb
          have hdec : ∃ r : Bool, r = decide (a = b) ∧ ((rawS a).toList == (rawS b).toList) = r := by
            refine ⟨_, rfl, ?_⟩
            by_cases he : a = b
            · rw [decide_eq_true he]; exact str_of (hinj.2 he)
            · rw [decide_eq_false he]; exact str_ne (fun h => he (hinj.1 h))
          obtain ⟨r, hr, hst⟩ := hdec
          rw [← hr] at HS
          clear hinj hr hma hmb hha hhb ta tb
          generalize rawS a = sa at *
          generalize rawS b = sb at *
          unfold mcells at *
          dsimp only at *
          cases r with
          | true =>
            go_enter Try.func4, Try.ntmps4
            go_upto_region 3 with (first | (refine wpl_load_blk (HA.out _ K0.out) rfl _ _ rfl rfl Try.underlying34 rfl (by kernel_rfl) ?_) | (refine wpl_load_blkg (HA.out _ K0.out) rfl _ _ rfl rfl Try.underlying34 rfl (by kernel_rfl) ?_) | (refine wpl_load_blk (HX.out _ K1.out) rfl _ _ rfl rfl Try.underlying34 rfl (by kernel_rfl) ?_) | (refine wpl_load_blkg (HX.out _ K1.out) rfl _ _ rfl rfl Try.underlying34 rfl (by kernel_rfl) ?_) | (go_at_call 5; ((with_reducible refine (HHa.out _ K0.out).mono ?_); rintro e w1 ⟨rfl, hbq⟩; have K1 := Lib.hid (K0.out.step hbq); clear hbq)) | (go_at_call 5; ((with_reducible refine (HHb.out _ K1.out).mono ?_); rintro e w2 ⟨rfl, hbq⟩; have K2 := Lib.hid (K1.out.step hbq); clear hbq)))
            go_upto_region 5 with (first | (refine wpl_load_blk (HA.out _ K2.out) rfl _ _ rfl rfl Try.underlying34 rfl (by kernel_rfl) ?_) | (refine wpl_load_blkg (HA.out _ K2.out) rfl _ _ rfl rfl Try.underlying34 rfl (by kernel_rfl) ?_) | (refine wpl_load_blk (HX.out _ K3.out) rfl _ _ rfl rfl Try.underlying34 rfl (by kernel_rfl) ?_) | (refine wpl_load_blkg (HX.out _ K3.out) rfl _ _ rfl rfl Try.underlying34 rfl (by kernel_rfl) ?_) | (go_at_call 7; ((with_reducible refine (HEa.out _ K2.out).mono ?_); rintro e w3 ⟨rfl, hbq⟩; have K3 := Lib.hid (K2.out.step hbq); clear hbq)) | (go_at_call 7; ((with_reducible refine (HEb.out _ K3.out).mono ?_); rintro e w4 ⟨rfl, hbq⟩; have K4 := Lib.hid (K3.out.step hbq); clear hbq)))
            go_wp2_with (first | (refine wpl_load_blk (HA.out _ K4.out) rfl _ _ rfl rfl Try.underlying34 rfl (by kernel_rfl) ?_) | (refine wpl_load_blkg (HA.out _ K4.out) rfl _ _ rfl rfl Try.underlying34 rfl (by kernel_rfl) ?_) | (refine wpl_load_blk (HX.out _ K4.out) rfl _ _ rfl rfl Try.underlying34 rfl (by kernel_rfl) ?_) | (refine wpl_load_blkg (HX.out _ K4.out) rfl _ _ rfl rfl Try.underlying34 rfl (by kernel_rfl) ?_) | (go_at_call 9; ((with_reducible refine (HS.out _ K4.out).mono ?_); rintro e w5 ⟨rfl, hbq⟩; have K5 := Lib.hid (K4.out.step hbq); clear hbq)) | (go_at_call 6; ((with_reducible refine (alive26_any _).mono ?_); rintro e wz ⟨rfl, hbq⟩; have KZ := Lib.hid (K5.out.step hbq); clear hbq)))
            go_ret
            exact ⟨rfl, HW.out.trans (KZ.out.mono HW.out.size)⟩
          | false =>
            go_enter Try.func4, Try.ntmps4
            go_upto_region 3 with (first | (refine wpl_load_blk (HA.out _ K0.out) rfl _ _ rfl rfl Try.underlying34 rfl (by kernel_rfl) ?_) | (refine wpl_load_blkg (HA.out _ K0.out) rfl _ _ rfl rfl Try.underlying34 rfl (by kernel_rfl) ?_) | (refine wpl_load_blk (HX.out _ K1.out) rfl _ _ rfl rfl Try.underlying34 rfl (by kernel_rfl) ?_) | (refine wpl_load_blkg (HX.out _ K1.out) rfl _ _ rfl rfl Try.underlying34 rfl (by kernel_rfl) ?_) | (go_at_call 5; ((with_reducible refine (HHa.out _ K0.out).mono ?_); rintro e w1 ⟨rfl, hbq⟩; have K1 := Lib.hid (K0.out.step hbq); clear hbq)) | (go_at_call 5; ((with_reducible refine (HHb.out _ K1.out).mono ?_); rintro e w2 ⟨rfl, hbq⟩; have K2 := Lib.hid (K1.out.step hbq); clear hbq)))
            go_upto_region 5 with (first | (refine wpl_load_blk (HA.out _ K2.out) rfl _ _ rfl rfl Try.underlying34 rfl (by kernel_rfl) ?_) | (refine wpl_load_blkg (HA.out _ K2.out) rfl _ _ rfl rfl Try.underlying34 rfl (by kernel_rfl) ?_) | (refine wpl_load_blk (HX.out _ K3.out) rfl _ _ rfl rfl Try.underlying34 rfl (by kernel_rfl) ?_) | (refine wpl_load_blkg (HX.out _ K3.out) rfl _ _ rfl rfl Try.underlying34 rfl (by kernel_rfl) ?_) | (go_at_call 7; ((with_reducible refine (HEa.out _ K2.out).mono ?_); rintro e w3 ⟨rfl, hbq⟩; have K3 := Lib.hid (K2.out.step hbq); clear hbq)) | (go_at_call 7; ((with_reducible refine (HEb.out _ K3.out).mono ?_); rintro e w4 ⟨rfl, hbq⟩; have K4 := Lib.hid (K3.out.step hbq); clear hbq)))
            go_wp2_with (first | (refine wpl_load_blk (HA.out _ K4.out) rfl _ _ rfl rfl Try.underlying34 rfl (by kernel_rfl) ?_) | (refine wpl_load_blkg (HA.out _ K4.out) rfl _ _ rfl rfl Try.underlying34 rfl (by kernel_rfl) ?_) | (refine wpl_load_blk (HX.out _ K4.out) rfl _ _ rfl rfl Try.underlying34 rfl (by kernel_rfl) ?_) | (refine wpl_load_blkg (HX.out _ K4.out) rfl _ _ rfl rfl Try.underlying34 rfl (by kernel_rfl) ?_) | (go_at_call 9; ((with_reducible refine (HS.out _ K4.out).mono ?_); rintro e w5 ⟨rfl, hbq⟩; have K5 := Lib.hid (K4.out.step hbq); clear hbq)) | (go_at_call 6; ((with_reducible refine (alive26_any _).mono ?_); rintro e wz ⟨rfl, hbq⟩; have KZ := Lib.hid (K5.out.step hbq); clear hbq)))
            go_ret
            exact ⟨rfl, HW.out.trans (KZ.out.mono HW.out.size)⟩
        · rw [if_neg hmb] at HEb
          clear hma hmb hha hhb ta tb HS
          generalize rawS a = sa at *
          unfold mcells at *
          dsimp only at *
          go_enter Try.func4, Try.ntmps4
          go_upto_region 3 with (first | (refine wpl_load_blk (HA.out _ K0.out) rfl _ _ rfl rfl Try.underlying34 rfl (by kernel_rfl) ?_) | (refine wpl_load_blkg (HA.out _ K0.out) rfl _ _ rfl rfl Try.underlying34 rfl (by kernel_rfl) ?_) | (refine wpl_load_blk (HX.out _ K1.out) rfl _ _ rfl rfl Try.underlying34 rfl (by kernel_rfl) ?_) | (refine wpl_load_blkg (HX.out _ K1.out) rfl _ _ rfl rfl Try.underlying34 rfl (by kernel_rfl) ?_) | (go_at_call 5; ((with_reducible refine (HHa.out _ K0.out).mono ?_); rintro e w1 ⟨rfl, hbq⟩; have K1 := Lib.hid (K0.out.step hbq); clear hbq)) | (go_at_call 5; ((with_reducible refine (HHb.out _ K1.out).mono ?_); rintro e w2 ⟨rfl, hbq⟩; have K2 := Lib.hid (K1.out.step hbq); clear hbq)))
          go_upto_region 5 with (first | (refine wpl_load_blk (HA.out _ K2.out) rfl _ _ rfl rfl Try.underlying34 rfl (by kernel_rfl) ?_) | (refine wpl_load_blkg (HA.out _ K2.out) rfl _ _ rfl rfl Try.underlying34 rfl (by kernel_rfl) ?_) | (refine wpl_load_blk (HX.out _ K3.out) rfl _ _ rfl rfl Try.underlying34 rfl (by kernel_rfl) ?_) | (refine wpl_load_blkg (HX.out _ K3.out) rfl _ _ rfl rfl Try.underlying34 rfl (by kernel_rfl) ?_) | (go_at_call 7; ((with_reducible refine (HEa.out _ K2.out).mono ?_); rintro e w3 ⟨rfl, hbq⟩; have K3 := Lib.hid (K2.out.step hbq); clear hbq)) | (go_at_call 7; ((with_reducible refine (HEb.out _ K3.out).mono ?_); rintro e w4 ⟨rfl, hbq⟩; have K4 := Lib.hid (K3.out.step hbq); clear hbq)))
          go_wp2_with (go_at_call 6; ((with_reducible refine (alive26_any _).mono ?_); rintro e wz ⟨rfl, hbq⟩; have KZ := Lib.hid (K4.out.step hbq); clear hbq))
          go_ret
          exact ⟨rfl, HW.out.trans (KZ.out.mono HW.out.size)⟩
      · rw [if_neg hma] at HEa
        obtain ⟨sb, cb, hsb⟩ : ∃ sb cb, (if mayM b = true then (rawS b, (0 : Int)) else (⟨#[]⟩, 2)) = (sb, cb) := ⟨_, _, rfl⟩
        rw [hsb] at HEb
        clear hma hha hhb ta tb HS hsb
        unfold mcells at *
        dsimp only at *
        go_enter Try.func4, Try.ntmps4
        go_upto_region 3 with (first | (refine wpl_load_blk (HA.out _ K0.out) rfl _ _ rfl rfl Try.underlying34 rfl (by kernel_rfl) ?_) | (refine wpl_load_blkg (HA.out _ K0.out) rfl _ _ rfl rfl Try.underlying34 rfl (by kernel_rfl) ?_) | (refine wpl_load_blk (HX.out _ K1.out) rfl _ _ rfl rfl Try.underlying34 rfl (by kernel_rfl) ?_) | (refine wpl_load_blkg (HX.out _ K1.out) rfl _ _ rfl rfl Try.underlying34 rfl (by kernel_rfl) ?_) | (go_at_call 5; ((with_reducible refine (HHa.out _ K0.out).mono ?_); rintro e w1 ⟨rfl, hbq⟩; have K1 := Lib.hid (K0.out.step hbq); clear hbq)) | (go_at_call 5; ((with_reducible refine (HHb.out _ K1.out).mono ?_); rintro e w2 ⟨rfl, hbq⟩; have K2 := Lib.hid (K1.out.step hbq); clear hbq)))
        go_upto_region 5 with (first | (refine wpl_load_blk (HA.out _ K2.out) rfl _ _ rfl rfl Try.underlying34 rfl (by kernel_rfl) ?_) | (refine wpl_load_blkg (HA.out _ K2.out) rfl _ _ rfl rfl Try.underlying34 rfl (by kernel_rfl) ?_) | (refine wpl_load_blk (HX.out _ K3.out) rfl _ _ rfl rfl Try.underlying34 rfl (by kernel_rfl) ?_) | (refine wpl_load_blkg (HX.out _ K3.out) rfl _ _ rfl rfl Try.underlying34 rfl (by kernel_rfl) ?_) | (go_at_call 7; ((with_reducible refine (HEa.out _ K2.out).mono ?_); rintro e w3 ⟨rfl, hbq⟩; have K3 := Lib.hid (K2.out.step hbq); clear hbq)) | (go_at_call 7; ((with_reducible refine (HEb.out _ K3.out).mono ?_); rintro e w4 ⟨rfl, hbq⟩; have K4 := Lib.hid (K3.out.step hbq); clear hbq)))
        go_wp2_with (go_at_call 6; ((with_reducible refine (alive26_any _).mono ?_); rintro e wz ⟨rfl, hbq⟩; have KZ := Lib.hid (K4.out.step hbq); clear hbq))
        go_ret
        exact ⟨rfl, HW.out.trans (KZ.out.mono HW.out.size)⟩
    · have HHb := Lib.hid (fun w k => heavy_t (RB.out w k) (Nat.le_refl _) hhb)
      clear RA RB hha hhb ta tb
      unfold mcells at *
      dsimp only at *
      go_enter Try.func4, Try.ntmps4
      go_wp2_with (first | (refine wpl_load_blk (HA.out _ K0.out) rfl _ _ rfl rfl Try.underlying34 rfl (by kernel_rfl) ?_) | (refine wpl_load_blkg (HA.out _ K0.out) rfl _ _ rfl rfl Try.underlying34 rfl (by kernel_rfl) ?_) | (refine wpl_load_blk (HX.out _ K1.out) rfl _ _ rfl rfl Try.underlying34 rfl (by kernel_rfl) ?_) | (refine wpl_load_blkg (HX.out _ K1.out) rfl _ _ rfl rfl Try.underlying34 rfl (by kernel_rfl) ?_) | (go_at_call 5; ((with_reducible refine (HHa.out _ K0.out).mono ?_); rintro e w1 ⟨rfl, hbq⟩; have K1 := Lib.hid (K0.out.step hbq); clear hbq)) | (go_at_call 5; ((with_reducible refine (HHb.out _ K1.out).mono ?_); rintro e w2 ⟨rfl, hbq⟩; have K2 := Lib.hid (K1.out.step hbq); clear hbq)) | (go_at_call 6; ((with_reducible refine (alive26_any _).mono ?_); rintro e wz ⟨rfl, hbq⟩; have KZ := Lib.hid (K2.out.step hbq); clear hbq)))
      go_ret
      exact ⟨rfl, HW.out.trans (KZ.out.mono HW.out.size)⟩
  · have HHa := Lib.hid (fun w k => heavy_t (RA.out w k) (Nat.le_refl _) hha)
    clear RA RB hha ta tb
    unfold mcells at *
    dsimp only at *
    go_enter Try.func4, Try.ntmps4
    go_wp2_with (first | (refine wpl_load_blk (HA.out _ K0.out) rfl _ _ rfl rfl Try.underlying34 rfl (by kernel_rfl) ?_) | (refine wpl_load_blkg (HA.out _ K0.out) rfl _ _ rfl rfl Try.underlying34 rfl (by kernel_rfl) ?_) | (go_at_call 5; ((with_reducible refine (HHa.out _ K0.out).mono ?_); rintro e w1 ⟨rfl, hbq⟩; have K1 := Lib.hid (K0.out.step hbq); clear hbq)) | (go_at_call 6; ((with_reducible refine (alive26_any _).mono ?_); rintro e wz ⟨rfl, hbq⟩; have KZ := Lib.hid (K1.out.step hbq); clear hbq)))
    go_ret
    exact ⟨rfl, HW.out.trans (KZ.out.mono HW.out.size)⟩
set_option maxRecDepth 100000 in
theorem apart_open {H : Type} {enc : TypeId × Value → H} {W : World} {base : Nat} {held : Bool} {r : Reach} {b0 b1 : Nat} {d1 d2 : DataW H} {ps1 ps2 : List MemPlace} {x y : Value}
    (hval1 : Value.okWide Try.prog W r b0 34 x) (hd1 : DataW.Trod enc Try.prog W base (fun _ => true) held 34 x d1 ps1) (_ : ∀ x ∈ ps1, x.block < W.heap.size)
    (hval2 : Value.okWide Try.prog W r b1 34 y) (hd2 : DataW.Trod enc Try.prog W base (fun _ => true) held 34 y d2 ps2) (_ : ∀ x ∈ ps2, x.block < W.heap.size) :
    Calls Try.prog 4 #[x, y] W fun e w' => e = .returned (.bool true) ∧ Below W.heap.size W w' := by
  obtain ⟨a, v, rfl, h1, t1⟩ := open_msg hval1 hd1
  obtain ⟨b, u, rfl, h2, t2⟩ := open_msg hval2 hd2
  exact apart_run h1 h2 t1 t2
end Go.Proofs.Ytghbjknpffiaiaa
