import Derived.Test.YtpidhcogaoehhaaChkX
import Derived.Test.YtpidhcogaoehhaaMgm
import Derived.Test.YtpidhcogaoehhaaMgl

/- The law 'CheckTells' at every program, every input, every function. No condition. -/
namespace Go.Proofs.Ytpidhcogaoehhaa
open Go.RowKit Cd
set_option linter.unusedVariables false
set_option linter.unusedSimpArgs false
set_option maxRecDepth 100000 in
set_option maxHeartbeats 8000000 in
theorem tells11_run {l : List FunV} {W : World} {v : Value} {q : Option Addr} {m cq : Nat} {fn : Int} (hv : FunsAt W v l) (ho : OkP l) :
    Calls Try.prog 3 #[.agg #[v], .slice q m cq, .int .i64 fn] W fun e w' => e = .returned (.bool true) ∧ Below W.heap.size W w' := by
  have HB0 := Lib.hid ((Below.refl _ W).alloc (Nat.le_refl _) (.cells #[v] 24))
  have HT0 := Lib.hid (Blk.new W 24 #[v])
  have HV0 := Lib.hid (hv.alloc (.cells #[v] 24))
  have HO := Lib.hid ho
  have HH := Lib.hid (heavy_any (hv.alloc (.cells #[v] 24)))
  obtain ⟨p, cap, rfl⟩ := hv.slice
  clear hv ho
  cases hh : heavyB l with
  | true =>
    rw [hh] at HH
    clear hh
    generalize l.length = n at *
    go_enter Try.func3, Try.ntmps3
    go_wp2_with (first | (go_at_call 6; ((with_reducible refine (alive11_any _).mono ?_); rintro e w9 ⟨rfl, b9⟩)) | (go_at_call 5; ((with_reducible refine HH.out.mono ?_); rintro e w1 ⟨rfl, b1⟩; have HB1 := Lib.hid (HB0.out.step b1); have HV1 := Lib.hid (HV0.out.below b1); have HT1 := Lib.hid (HT0.out.below b1); have x1 : w1.cell? ⟨W.heap.size, 0, none⟩ = some (.slice p n cap) := HT1.out.cell 0; clear b1)))
    go_ret
    exact ⟨rfl, HB1.out.step b9⟩
  | false =>
    rw [hh] at HH
    have HL := Lib.hid (heavy_lim hh)
    have HX := Lib.hid (reachX_len (fn := fn) HL.out)
    clear hh
    generalize l.length = n at *
    by_cases hm : (1024 : Int) < (m : Int)
    · go_enter Try.func3, Try.ntmps3
      go_wp2_with (first | (go_at_call 6; ((with_reducible refine (alive11_any _).mono ?_); rintro e w9 ⟨rfl, b9⟩)) | (go_at_call 5; ((with_reducible refine HH.out.mono ?_); rintro e w1 ⟨rfl, b1⟩; have HB1 := Lib.hid (HB0.out.step b1); have HV1 := Lib.hid (HV0.out.below b1); have HT1 := Lib.hid (HT0.out.below b1); have x1 : w1.cell? ⟨W.heap.size, 0, none⟩ = some (.slice p n cap) := HT1.out.cell 0; clear b1)))
      go_ret
      exact ⟨rfl, HB1.out.step b9⟩
    have hm' : decide ((1024 : Int) < (m : Int)) = false := decide_eq_false hm
    have hmm : (m : Int) ≤ 1024 := by omega
    clear hm
    obtain ⟨k, hk⟩ : ∃ k, k = inE l m := ⟨_, rfl⟩
    have HK := Lib.hid hk.symm
    clear hk
    go_enter Try.func3, Try.ntmps3
    go_upto_region 5 with (first | (go_at_call 5; ((with_reducible refine HH.out.mono ?_); rintro e w1 ⟨rfl, b1⟩; have HB1 := Lib.hid (HB0.out.step b1); have HV1 := Lib.hid (HV0.out.below b1); have HT1 := Lib.hid (HT0.out.below b1); have x1 : w1.cell? ⟨W.heap.size, 0, none⟩ = some (.slice p n cap) := HT1.out.cell 0; clear b1)) | (go_at_call 7; ((with_reducible refine (cmay_any HV1.out HL.out HO.out).mono ?_); rintro e w2 ⟨c, f0, o0, rfl, hE, b2⟩; have HB2 := Lib.hid (HB1.out.step b2); have HV2 := Lib.hid (HV1.out.below b2); have HT2 := Lib.hid (HT1.out.below b2); have HE := Lib.hid hE; have x2 : w2.cell? ⟨W.heap.size, 0, none⟩ = some (.slice p n cap) := HT2.out.cell 0; clear b2 hE)) | (go_at_call 8; ((with_reducible refine (rmay11_any HV2.out HL.out HO.out).mono ?_); rintro e w3 ⟨c3, f3, o3, rfl, hE3, b3⟩; rw [HE.out] at hE3; injection hE3 with g1 g2; injection g2 with g2 g3; subst g1 g2 g3; have HB3 := Lib.hid (HB2.out.step b3); have HV3 := Lib.hid (HV2.out.below b3); have HT3 := Lib.hid (HT2.out.below b3); clear b3)))
    refine Reg.wp_rely 34 (fun w => FunsAt w (.slice p n cap) l ∧ Blk w W.heap.size 24 #[.slice p n cap] ∧ Below w3.heap.size w3 w) (by kernel_rfl) (Reg.relyOk_of (by kernel_rfl)) ⟨HV3.out.drew, HT3.out.drew, (Below.refl _ _).drew⟩ (fun w w' h hI => ⟨hI.1.below h, hI.2.1.below h, hI.2.2.trans (h.mono hI.2.2.size)⟩) ?_
    refine Reg.rely_plain (.int .i64 c) rfl (fun a w hI hF => by
        have f1 : a.tmps.getD 7 undef = .int .i64 c := hF 7 (Reg.looksB (by kernel_rfl))
        clear hF hI
        simp only [Array.getD_eq_getD_getElem?] at f1
        simp only [execOp]; go_simp) ?_
    refine Reg.rely_plain (.int .i64 c) rfl (fun a w hI hF => by
        have f1 : a.tmps.getD 10 undef = .int .i64 c := hF 10 (Reg.looksB (by kernel_rfl))
        clear hF hI
        simp only [Array.getD_eq_getD_getElem?] at f1
        simp only [execOp]; go_simp) ?_
    refine Reg.rely_plain (.bool true) rfl (fun a w hI hF => by
        have f1 : a.tmps.getD 33 undef = .int .i64 c := hF 33 (Reg.looksB (by kernel_rfl))
        have f2 : a.tmps.getD 34 undef = .int .i64 c := hF 34 (Reg.looksB (by kernel_rfl))
        clear hF hI
        simp only [Array.getD_eq_getD_getElem?] at f1 f2
        simp only [execOp]; go_simp) ?_
    refine Reg.rely_plain (.bool true) rfl (fun a w hI hF => by
        have f1 : a.tmps.getD 35 undef = .bool true := hF 35 (Reg.looksB (by kernel_rfl))
        clear hF hI
        simp only [Array.getD_eq_getD_getElem?] at f1
        simp only [execOp]; go_simp) ?_
    refine Reg.rely_isb (.int .i64 f0) 3 true 36 rfl rfl (fun v w h => h) (fun a w hI hF => by
        have f1 : a.tmps.getD 8 undef = .int .i64 f0 := hF 8 (Reg.looksB (by kernel_rfl))
        clear hF hI
        simp only [Array.getD_eq_getD_getElem?] at f1
        simp only [execOp]; go_simp) ?_
    refine Reg.rely_isb (.int .i64 f0) 3 true 36 rfl rfl (fun v w h => h) (fun a w hI hF => by
        have f1 : a.tmps.getD 11 undef = .int .i64 f0 := hF 11 (Reg.looksB (by kernel_rfl))
        clear hF hI
        simp only [Array.getD_eq_getD_getElem?] at f1
        simp only [execOp]; go_simp) ?_
    refine Reg.rely_isb (.bool true) 3 true 36 rfl rfl (fun v w h => h) (fun a w hI hF => by
        have f1 : a.tmps.getD 37 undef = .int .i64 f0 := hF 37 (Reg.looksB (by kernel_rfl))
        have f2 : a.tmps.getD 38 undef = .int .i64 f0 := hF 38 (Reg.looksB (by kernel_rfl))
        clear hF hI
        simp only [Array.getD_eq_getD_getElem?] at f1 f2
        simp only [execOp]; go_simp) ?_
    refine Reg.rely_plain (.bool true) rfl (fun a w hI hF => by
        have f1 : a.tmps.getD 36 undef = .bool true := hF 36 (Reg.looksB (by kernel_rfl))
        have f2 : a.tmps.getD 39 undef = .bool true := hF 39 (Reg.looksB (by kernel_rfl))
        clear hF hI
        simp only [Array.getD_eq_getD_getElem?] at f1 f2
        simp only [execOp]; go_simp) ?_
    refine Reg.rely_plain (.bool true) rfl (fun a w hI hF => by
        have f1 : a.tmps.getD 40 undef = .bool true := hF 40 (Reg.looksB (by kernel_rfl))
        clear hF hI
        simp only [Array.getD_eq_getD_getElem?] at f1
        simp only [execOp]; go_simp) ?_
    refine Reg.rely_isb (.int .i64 o0) 8 true 41 rfl rfl (fun v w h => h) (fun a w hI hF => by
        have f1 : a.tmps.getD 9 undef = .int .i64 o0 := hF 9 (Reg.looksB (by kernel_rfl))
        clear hF hI
        simp only [Array.getD_eq_getD_getElem?] at f1
        simp only [execOp]; go_simp) ?_
    refine Reg.rely_isb (.int .i64 o0) 8 true 41 rfl rfl (fun v w h => h) (fun a w hI hF => by
        have f1 : a.tmps.getD 12 undef = .int .i64 o0 := hF 12 (Reg.looksB (by kernel_rfl))
        clear hF hI
        simp only [Array.getD_eq_getD_getElem?] at f1
        simp only [execOp]; go_simp) ?_
    refine Reg.rely_isb (.bool true) 8 true 41 rfl rfl (fun v w h => h) (fun a w hI hF => by
        have f1 : a.tmps.getD 42 undef = .int .i64 o0 := hF 42 (Reg.looksB (by kernel_rfl))
        have f2 : a.tmps.getD 43 undef = .int .i64 o0 := hF 43 (Reg.looksB (by kernel_rfl))
        clear hF hI
        simp only [Array.getD_eq_getD_getElem?] at f1 f2
        simp only [execOp]; go_simp) ?_
    refine Reg.rely_plain (.bool true) rfl (fun a w hI hF => by
        have f1 : a.tmps.getD 41 undef = .bool true := hF 41 (Reg.looksB (by kernel_rfl))
        have f2 : a.tmps.getD 44 undef = .bool true := hF 44 (Reg.looksB (by kernel_rfl))
        clear hF hI
        simp only [Array.getD_eq_getD_getElem?] at f1 f2
        simp only [execOp]; go_simp) ?_
    refine Reg.rely_plain (.bool true) rfl (fun a w hI hF => by
        have f1 : a.tmps.getD 45 undef = .bool true := hF 45 (Reg.looksB (by kernel_rfl))
        clear hF hI
        simp only [Array.getD_eq_getD_getElem?] at f1
        simp only [execOp]; go_simp) ?_
    refine Reg.rely_isb (.agg #[.slice p n cap]) 13 true 46 rfl rfl (fun v w h => h) (fun a w hI hF => by
        have f1 : a.tmps.getD 3 undef = .pointer (some ⟨W.heap.size, 0, none⟩) := hF 3 (Reg.looksB (by kernel_rfl))
        have hc := hI.2.1.cell 0
        clear hF hI
        simp only [Array.getD_eq_getD_getElem?] at f1
        simp only [execOp]; go_simp) ?_
    refine Reg.rely_isb (.slice q m cq) 13 true 46 rfl rfl (fun v w h => h) (fun a w hI hF => by
        have f1 : a.tmps.getD 1 undef = .slice q m cq := hF 1 (Reg.looksB (by kernel_rfl))
        clear hF hI
        simp only [Array.getD_eq_getD_getElem?] at f1
        simp only [execOp]; go_simp) ?_
    refine Reg.rely_callb (Reg.Is (.int .i64 k)) (Reg.stab_is _ _) (fun G hG => by cases hG) 13 true 46 rfl rfl (fun v w h => h) (fun a w hI hF => by
        have f1 : a.tmps.getD 47 undef = .agg #[.slice p n cap] := hF 47 (Reg.looksB (by kernel_rfl))
        have f2 : a.tmps.getD 48 undef = .slice q m cq := hF 48 (Reg.looksB (by kernel_rfl))
        refine ⟨9, #[.agg #[.slice p n cap], .slice q m cq], ?_, (cinput_any hI.1 HL.out HO.out).mono fun e w' h => by obtain ⟨r, h1, h2, h3⟩ := h; exact ⟨_, h1, by rw [h2, HK.out]; exact rfl, h3⟩⟩
        clear hF hI
        simp only [Array.getD_eq_getD_getElem?] at f1 f2
        simp only [execOp]; go_simp) ?_
    refine Reg.rely_isb (.agg #[.slice p n cap]) 13 true 46 rfl rfl (fun v w h => h) (fun a w hI hF => by
        have f1 : a.tmps.getD 3 undef = .pointer (some ⟨W.heap.size, 0, none⟩) := hF 3 (Reg.looksB (by kernel_rfl))
        have hc := hI.2.1.cell 0
        clear hF hI
        simp only [Array.getD_eq_getD_getElem?] at f1
        simp only [execOp]; go_simp) ?_
    refine Reg.rely_isb (.slice q m cq) 13 true 46 rfl rfl (fun v w h => h) (fun a w hI hF => by
        have f1 : a.tmps.getD 1 undef = .slice q m cq := hF 1 (Reg.looksB (by kernel_rfl))
        clear hF hI
        simp only [Array.getD_eq_getD_getElem?] at f1
        simp only [execOp]; go_simp) ?_
    refine Reg.rely_callb (Reg.Is (.int .i64 k)) (Reg.stab_is _ _) (fun G hG => by cases hG) 13 true 46 rfl rfl (fun v w h => h) (fun a w hI hF => by
        have f1 : a.tmps.getD 50 undef = .agg #[.slice p n cap] := hF 50 (Reg.looksB (by kernel_rfl))
        have f2 : a.tmps.getD 51 undef = .slice q m cq := hF 51 (Reg.looksB (by kernel_rfl))
        refine ⟨10, #[.agg #[.slice p n cap], .slice q m cq], ?_, (rinput11_any hI.1 HL.out HO.out).mono fun e w' h => by obtain ⟨r, h1, h2, h3⟩ := h; exact ⟨_, h1, by rw [h2, HK.out]; exact rfl, h3⟩⟩
        clear hF hI
        simp only [Array.getD_eq_getD_getElem?] at f1 f2
        simp only [execOp]; go_simp) ?_
    refine Reg.rely_isb (.bool true) 13 true 46 rfl rfl (fun v w h => h) (fun a w hI hF => by
        have f1 : a.tmps.getD 49 undef = .int .i64 k := hF 49 (Reg.looksB (by kernel_rfl))
        have f2 : a.tmps.getD 52 undef = .int .i64 k := hF 52 (Reg.looksB (by kernel_rfl))
        clear hF hI
        simp only [Array.getD_eq_getD_getElem?] at f1 f2
        simp only [execOp]; go_simp) ?_
    refine Reg.rely_plain (.bool true) rfl (fun a w hI hF => by
        have f1 : a.tmps.getD 46 undef = .bool true := hF 46 (Reg.looksB (by kernel_rfl))
        have f2 : a.tmps.getD 53 undef = .bool true := hF 53 (Reg.looksB (by kernel_rfl))
        clear hF hI
        simp only [Array.getD_eq_getD_getElem?] at f1 f2
        simp only [execOp]; go_simp) ?_
    refine Reg.rely_plain (.bool true) rfl (fun a w hI hF => by
        have f1 : a.tmps.getD 54 undef = .bool true := hF 54 (Reg.looksB (by kernel_rfl))
        clear hF hI
        simp only [Array.getD_eq_getD_getElem?] at f1
        simp only [execOp]; go_simp) ?_
    refine Reg.rely_isb (.agg #[.slice p n cap]) 22 true 55 rfl rfl (fun v w h => h) (fun a w hI hF => by
        have f1 : a.tmps.getD 3 undef = .pointer (some ⟨W.heap.size, 0, none⟩) := hF 3 (Reg.looksB (by kernel_rfl))
        have hc := hI.2.1.cell 0
        clear hF hI
        simp only [Array.getD_eq_getD_getElem?] at f1
        simp only [execOp]; go_simp) ?_
    refine Reg.rely_isb (.int .i64 fn) 22 true 55 rfl rfl (fun v w h => h) (fun a w hI hF => by
        have f1 : a.tmps.getD 2 undef = .int .i64 fn := hF 2 (Reg.looksB (by kernel_rfl))
        clear hF hI
        simp only [Array.getD_eq_getD_getElem?] at f1
        simp only [execOp]; go_simp) ?_
    refine Reg.rely_callb (fun v w => IntsAt w v (reachX l fn)) (fun v w w' h hS => hS.below h) (fun G hG => by cases hG) 22 true 55 rfl rfl (fun v w h => h) (fun a w hI hF => by
        have f1 : a.tmps.getD 56 undef = .agg #[.slice p n cap] := hF 56 (Reg.looksB (by kernel_rfl))
        have f2 : a.tmps.getD 57 undef = .int .i64 fn := hF 57 (Reg.looksB (by kernel_rfl))
        refine ⟨12, #[.agg #[.slice p n cap], .int .i64 fn], ?_, (reach_any hI.1 HL.out HO.out).mono fun e w' h => by obtain ⟨v, h1, h2, h3⟩ := h; exact ⟨v, h1, h2, h3⟩⟩
        clear hF hI
        simp only [Array.getD_eq_getD_getElem?] at f1 f2
        simp only [execOp]; go_simp) ?_
    refine Reg.rely_isb (.agg #[.slice p n cap]) 22 true 55 rfl rfl (fun v w h => h) (fun a w hI hF => by
        have f1 : a.tmps.getD 3 undef = .pointer (some ⟨W.heap.size, 0, none⟩) := hF 3 (Reg.looksB (by kernel_rfl))
        have hc := hI.2.1.cell 0
        clear hF hI
        simp only [Array.getD_eq_getD_getElem?] at f1
        simp only [execOp]; go_simp) ?_
    refine Reg.rely_isb (.int .i64 fn) 22 true 55 rfl rfl (fun v w h => h) (fun a w hI hF => by
        have f1 : a.tmps.getD 2 undef = .int .i64 fn := hF 2 (Reg.looksB (by kernel_rfl))
        clear hF hI
        simp only [Array.getD_eq_getD_getElem?] at f1
        simp only [execOp]; go_simp) ?_
    refine Reg.rely_callb (fun v w => IntsAt w v (reachX l fn)) (fun v w w' h hS => hS.below h) (fun G hG => by cases hG) 22 true 55 rfl rfl (fun v w h => h) (fun a w hI hF => by
        have f1 : a.tmps.getD 59 undef = .agg #[.slice p n cap] := hF 59 (Reg.looksB (by kernel_rfl))
        have f2 : a.tmps.getD 60 undef = .int .i64 fn := hF 60 (Reg.looksB (by kernel_rfl))
        refine ⟨13, #[.agg #[.slice p n cap], .int .i64 fn], ?_, (rreach_any hI.1 HL.out HO.out).mono fun e w' h => by obtain ⟨v, h1, h2, h3⟩ := h; exact ⟨v, h1, h2, h3⟩⟩
        clear hF hI
        simp only [Array.getD_eq_getD_getElem?] at f1 f2
        simp only [execOp]; go_simp) ?_
    refine Reg.rely_callb (Reg.Is (.bool true)) (Reg.stab_is _ _) (fun G hG => by cases hG) 22 true 55 rfl rfl (fun v w h => h) (fun a w hI hF => by
      obtain ⟨v1, f1, h1⟩ : ∃ v, a.tmps.getD 58 undef = v ∧ IntsAt w v (reachX l fn) := ⟨_, rfl, hF 58 (Reg.looksB (by kernel_rfl))⟩
      obtain ⟨v2, f2, h2⟩ : ∃ v, a.tmps.getD 61 undef = v ∧ IntsAt w v (reachX l fn) := ⟨_, rfl, hF 61 (Reg.looksB (by kernel_rfl))⟩
      refine ⟨11, #[v1, v2], ?_, (same_t h1 h2 HX.out).mono fun e w' h => ⟨_, h.1, rfl, h.2⟩⟩
      clear hF hI h1 h2
      simp only [Array.getD_eq_getD_getElem?] at f1 f2
      simp only [execOp]; go_simp) ?_
    refine Reg.rely_plain (.bool true) rfl (fun a w hI hF => by
        have f1 : a.tmps.getD 55 undef = .bool true := hF 55 (Reg.looksB (by kernel_rfl))
        have f2 : a.tmps.getD 62 undef = .bool true := hF 62 (Reg.looksB (by kernel_rfl))
        clear hF hI
        simp only [Array.getD_eq_getD_getElem?] at f1 f2
        simp only [execOp]; go_simp) ?_
    refine Reg.rely_plain (.bool true) rfl (fun a w hI hF => by
        have f1 : a.tmps.getD 63 undef = .bool true := hF 63 (Reg.looksB (by kernel_rfl))
        clear hF hI
        simp only [Array.getD_eq_getD_getElem?] at f1
        simp only [execOp]; go_simp) ?_
    refine Reg.rely_callb (Reg.Is (.bool true)) (Reg.stab_is _ _) (fun G hG => by cases hG) 31 true 64 rfl rfl (fun v w h => h) (fun a w hI hF => by
        refine ⟨6, #[], ?_, (alive11_any w).mono fun e w' h => ⟨_, h.1, rfl, h.2⟩⟩
        clear hF hI
        simp only [execOp]; go_simp) ?_
    refine Reg.rely_plain (.bool true) rfl (fun a w hI hF => by
        have f1 : a.tmps.getD 64 undef = .bool true := hF 64 (Reg.looksB (by kernel_rfl))
        have f2 : a.tmps.getD 65 undef = .bool true := hF 65 (Reg.looksB (by kernel_rfl))
        clear hF hI
        simp only [Array.getD_eq_getD_getElem?] at f1 f2
        simp only [execOp]; go_simp) ?_
    refine Reg.rely_nil ?_
    refine Reg.final_is ?_
    refine Reg.final_is ?_
    refine Reg.final_is ?_
    refine Reg.final_is ?_
    refine Reg.final_is ?_
    refine Reg.final_rel (fun v28 => ?_)
    refine Reg.final_is ?_
    refine Reg.final_is ?_
    refine Reg.final_rel (fun v25 => ?_)
    refine Reg.final_is ?_
    refine Reg.final_is ?_
    refine Reg.final_is ?_
    refine Reg.final_is ?_
    refine Reg.final_is ?_
    refine Reg.final_is ?_
    refine Reg.final_is ?_
    refine Reg.final_is ?_
    refine Reg.final_is ?_
    refine Reg.final_is ?_
    refine Reg.final_is ?_
    refine Reg.final_is ?_
    refine Reg.final_is ?_
    refine Reg.final_is ?_
    refine Reg.final_is ?_
    refine Reg.final_is ?_
    refine Reg.final_is ?_
    refine Reg.final_is ?_
    refine Reg.final_is ?_
    refine Reg.final_is ?_
    refine Reg.final_is ?_
    refine Reg.final_is ?_
    refine Reg.final_is ?_
    refine Reg.final_is ?_
    refine Reg.final_is ?_
    refine Reg.final_nil (fun w9 hF => ?_)
    have HW := Lib.hid hF.1.1.2.2
    clear hF
    simp only [List.drop_succ_cons, List.drop_zero]
    go_simp
    go_wp2_with fail
    refine Reg.fin (by kernel_rfl) ?_
    go_wp2_with fail
    go_ret
    exact ⟨rfl, HB3.out.step HW.out⟩
set_option maxRecDepth 100000 in
theorem tells11_open {H : Type} {enc : TypeId × Value → H} {W : World} {base : Nat} {held : Bool} {r : Reach} {b0 b1 : Nat} {d1 d2 : DataW H} {ps1 ps2 : List MemPlace} {x y : Value} (fn : Int)
    (hval1 : Value.okWide Try.prog W r b0 24 x) (hd1 : DataW.Trod enc Try.prog W base (fun _ => true) held 24 x d1 ps1) (_ : ∀ x ∈ ps1, x.block < W.heap.size)
    (hval2 : Value.okWide Try.prog W r b1 25 y) (hd2 : DataW.Trod enc Try.prog W base (fun _ => true) held 25 y d2 ps2) (_ : ∀ x ∈ ps2, x.block < W.heap.size) :
    Calls Try.prog 3 #[x, y, .int .i64 fn] W fun e w' => e = .returned (.bool true) ∧ Below W.heap.size W w' := by
  obtain ⟨u, l, rfl, hv, ho⟩ := open_prog hval1 hd1
  obtain ⟨q, m, cq, rfl, _⟩ := open_rows (e := 2) (m := 1) Try.underlying25 (by kernel_rfl) (by decide) hval2 hd2
  exact tells11_run hv ho
end Go.Proofs.Ytpidhcogaoehhaa
