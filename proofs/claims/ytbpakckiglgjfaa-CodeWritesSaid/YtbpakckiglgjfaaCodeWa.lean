
/- The law's walk: 'CodeWrites' at every program. No condition but that numbers fit their kinds. -/
import Derived.Test.YtbpakckiglgjfaaCodeHa
import Derived.Test.YtbpakckiglgjfaaCodeEa
import Derived.Test.YtbpakckiglgjfaaCodeLa
namespace Go.Proofs.Ytbpakckiglgjfaa
open Go.RowKit Cd Wire
set_option linter.unusedVariables false
set_option maxRecDepth 100000 in
set_option maxHeartbeats 8000000 in
theorem cwrites_run {l : List FunV} {W : World} {v : Value} (hv : FunsAt W v l) (ho : OkP l) :
    Calls Try.prog 3 #[.agg #[v]] W fun e w' => e = .returned (.bool true) ∧ Below W.heap.size W w' := by
  have HB0 := Lib.hid ((Below.refl _ W).alloc (Nat.le_refl _) (.cells #[v] 24))
  have HT0 := Lib.hid (Blk.new W 24 #[v])
  have HV0 := Lib.hid (hv.alloc (.cells #[v] 24))
  have HO := Lib.hid ho
  have HH := Lib.hid (heavy_any (hv.alloc (.cells #[v] 24)))
  obtain ⟨p, cap, rfl⟩ := hv.slice
  clear hv ho
  cases hh : heavyB l with
  | true =>
    rw [hh] at HH
    clear hh
    go_enter Try.func3, Try.ntmps3
    go_wp2_with (first | (go_at_call 10; ((with_reducible refine (calive_any _).mono ?_); rintro e w9 ⟨rfl, b9⟩)) | (go_at_call 9; ((with_reducible refine HH.out.mono ?_); rintro e w1 ⟨rfl, b1⟩; have HB1 := Lib.hid (HB0.out.step b1))))
    go_ret
    exact ⟨rfl, HB1.out.step b9⟩
  | false =>
    rw [hh] at HH
    have HL := Lib.hid (heavy_lim hh)
    clear hh
    generalize l.length = n at *
    go_enter Try.func3, Try.ntmps3
    go_upto_region 5 with (first | (go_at_call 9; ((with_reducible refine HH.out.mono ?_); rintro e w1 ⟨rfl, b1⟩; have HB1 := Lib.hid (HB0.out.step b1); have HV1 := Lib.hid (HV0.out.below b1); have HT1 := Lib.hid (HT0.out.below b1); have x1 : w1.cell? ⟨W.heap.size, 0, none⟩ = some (.slice p n cap) := HT1.out.cell 0; clear b1)) | (go_at_call 11; ((with_reducible refine (encode_go HV1.out HL.out HO.out).mono ?_); rintro e w2 ⟨s2, k2, rfl, e1, e2, b2⟩; have HB2 := Lib.hid (HB1.out.step b2); have HV2 := Lib.hid (HV1.out.below b2); have HT2 := Lib.hid (HT1.out.below b2); have x2 : w2.cell? ⟨W.heap.size, 0, none⟩ = some (.slice p n cap) := HT2.out.cell 0; have E2 := Lib.hid (And.intro e1 e2); clear b2 e1 e2 x1)) | (go_at_call 12; ((with_reducible refine (rencode_go HV2.out HL.out HO.out).mono ?_); rintro e w3 ⟨s3, k3, rfl, e1, e2, b3⟩; have HB3 := Lib.hid (HB2.out.step b3); have HV3 := Lib.hid (HV2.out.below b3); have HT3 := Lib.hid (HT2.out.below b3); obtain rfl : s3 = s2 := e1.trans E2.out.1.symm; obtain rfl : k3 = k2 := e2.trans E2.out.2.symm; clear b3 e1 e2 x2)))
    refine Reg.wp_rely 18 (fun w => FunsAt w (.slice p n cap) l ∧ Blk w W.heap.size 24 #[.slice p n cap] ∧ Below w3.heap.size w3 w) (by kernel_rfl) (Reg.relyOk_of (by kernel_rfl)) ⟨HV3.out.drew, HT3.out.drew, (Below.refl _ _).drew⟩ (fun w w' h hI => ⟨hI.1.below h, hI.2.1.below h, hI.2.2.trans (h.mono hI.2.2.size)⟩) ?_
    refine Reg.rely_plain (.string s3) rfl (fun a w hI hF => by
        have f1 : a.tmps.getD 3 undef = .string s3 := hF 3 (Reg.looksB (by kernel_rfl))
        clear hF hI
        simp only [Array.getD_eq_getD_getElem?] at f1
        simp only [execOp]; go_simp) ?_
    refine Reg.rely_plain (.string s3) rfl (fun a w hI hF => by
        have f1 : a.tmps.getD 5 undef = .string s3 := hF 5 (Reg.looksB (by kernel_rfl))
        clear hF hI
        simp only [Array.getD_eq_getD_getElem?] at f1
        simp only [execOp]; go_simp) ?_
    refine Reg.rely_plain (.bool true) rfl (fun a w hI hF => by
        have f1 : a.tmps.getD 20 undef = .string s3 := hF 20 (Reg.looksB (by kernel_rfl))
        have f2 : a.tmps.getD 21 undef = .string s3 := hF 21 (Reg.looksB (by kernel_rfl))
        clear hF hI
        simp only [Array.getD_eq_getD_getElem?] at f1 f2
        simp only [execOp]; go_simp) ?_
    refine Reg.rely_plain (.bool true) rfl (fun a w hI hF => by
        have f1 : a.tmps.getD 22 undef = .bool true := hF 22 (Reg.looksB (by kernel_rfl))
        clear hF hI
        simp only [Array.getD_eq_getD_getElem?] at f1
        simp only [execOp]; go_simp) ?_
    refine Reg.rely_isg (.int .i64 k3) 3 23 rfl rfl (fun v w h => h) (fun a w hI hF => by
        have f1 : a.tmps.getD 4 undef = .int .i64 k3 := hF 4 (Reg.looksB (by kernel_rfl))
        clear hF hI
        simp only [Array.getD_eq_getD_getElem?] at f1
        simp only [execOp]; go_simp) ?_
    refine Reg.rely_isg (.int .i64 k3) 3 23 rfl rfl (fun v w h => h) (fun a w hI hF => by
        have f1 : a.tmps.getD 6 undef = .int .i64 k3 := hF 6 (Reg.looksB (by kernel_rfl))
        clear hF hI
        simp only [Array.getD_eq_getD_getElem?] at f1
        simp only [execOp]; go_simp) ?_
    refine Reg.rely_isg (.bool true) 3 23 rfl rfl (fun v w h => h) (fun a w hI hF => by
        have f1 : a.tmps.getD 24 undef = .int .i64 k3 := hF 24 (Reg.looksB (by kernel_rfl))
        have f2 : a.tmps.getD 25 undef = .int .i64 k3 := hF 25 (Reg.looksB (by kernel_rfl))
        clear hF hI
        simp only [Array.getD_eq_getD_getElem?] at f1 f2
        simp only [execOp]; go_simp) ?_
    refine Reg.rely_plain (.bool true) rfl (fun a w hI hF => by
        have f1 : a.tmps.getD 23 undef = .bool true := hF 23 (Reg.looksB (by kernel_rfl))
        have f2 : a.tmps.getD 26 undef = .bool true := hF 26 (Reg.looksB (by kernel_rfl))
        clear hF hI
        simp only [Array.getD_eq_getD_getElem?] at f1 f2
        simp only [execOp]; go_simp) ?_
    refine Reg.rely_plain (.bool true) rfl (fun a w hI hF => by
        have f1 : a.tmps.getD 27 undef = .bool true := hF 27 (Reg.looksB (by kernel_rfl))
        clear hF hI
        simp only [Array.getD_eq_getD_getElem?] at f1
        simp only [execOp]; go_simp) ?_
    refine Reg.rely_isg (.agg #[.slice p n cap]) 8 28 rfl rfl (fun v w h => h) (fun a w hI hF => by
        have f1 : a.tmps.getD 1 undef = .pointer (some ⟨W.heap.size, 0, none⟩) := hF 1 (Reg.looksB (by kernel_rfl))
        have hc := hI.2.1.cell 0
        clear hF hI
        simp only [Array.getD_eq_getD_getElem?] at f1
        simp only [execOp]; go_simp) ?_
    refine Reg.rely_callg (Reg.Is (.bool (mayB l))) (Reg.stab_is _ _) (fun G hG => by cases hG) 8 28 rfl rfl (fun v w h => h) (fun a w hI hF => by
        have f1 : a.tmps.getD 29 undef = .agg #[.slice p n cap] := hF 29 (Reg.looksB (by kernel_rfl))
        refine ⟨13, #[.agg #[.slice p n cap]], ?_, (may_any hI.1 HL.out HO.out).mono fun e w' h => ⟨_, h.1, rfl, h.2⟩⟩
        clear hF hI
        simp only [Array.getD_eq_getD_getElem?] at f1
        simp only [execOp]; go_simp) ?_
    refine Reg.rely_isg (.agg #[.slice p n cap]) 8 28 rfl rfl (fun v w h => h) (fun a w hI hF => by
        have f1 : a.tmps.getD 1 undef = .pointer (some ⟨W.heap.size, 0, none⟩) := hF 1 (Reg.looksB (by kernel_rfl))
        have hc := hI.2.1.cell 0
        clear hF hI
        simp only [Array.getD_eq_getD_getElem?] at f1
        simp only [execOp]; go_simp) ?_
    refine Reg.rely_callg (Reg.Is (.bool (mayB l))) (Reg.stab_is _ _) (fun G hG => by cases hG) 8 28 rfl rfl (fun v w h => h) (fun a w hI hF => by
        have f1 : a.tmps.getD 31 undef = .agg #[.slice p n cap] := hF 31 (Reg.looksB (by kernel_rfl))
        refine ⟨14, #[.agg #[.slice p n cap]], ?_, (rmay_any hI.1 HL.out HO.out).mono fun e w' h => ⟨_, h.1, rfl, h.2⟩⟩
        clear hF hI
        simp only [Array.getD_eq_getD_getElem?] at f1
        simp only [execOp]; go_simp) ?_
    refine Reg.rely_isg (.bool true) 8 28 rfl rfl (fun v w h => h) (fun a w hI hF => by
        have f1 : a.tmps.getD 30 undef = .bool (mayB l) := hF 30 (Reg.looksB (by kernel_rfl))
        have f2 : a.tmps.getD 32 undef = .bool (mayB l) := hF 32 (Reg.looksB (by kernel_rfl))
        clear hF hI
        simp only [Array.getD_eq_getD_getElem?] at f1 f2
        simp only [execOp]; go_simp) ?_
    refine Reg.rely_plain (.bool true) rfl (fun a w hI hF => by
        have f1 : a.tmps.getD 28 undef = .bool true := hF 28 (Reg.looksB (by kernel_rfl))
        have f2 : a.tmps.getD 33 undef = .bool true := hF 33 (Reg.looksB (by kernel_rfl))
        clear hF hI
        simp only [Array.getD_eq_getD_getElem?] at f1 f2
        simp only [execOp]; go_simp) ?_
    refine Reg.rely_plain (.bool true) rfl (fun a w hI hF => by
        have f1 : a.tmps.getD 34 undef = .bool true := hF 34 (Reg.looksB (by kernel_rfl))
        clear hF hI
        simp only [Array.getD_eq_getD_getElem?] at f1
        simp only [execOp]; go_simp) ?_
    refine Reg.rely_callg (Reg.Is (.bool true)) (Reg.stab_is _ _) (fun G hG => by cases hG) 15 35 rfl rfl (fun v w h => h) (fun a w hI hF => by
        refine ⟨10, #[], ?_, (calive_any w).mono fun e w' h => ⟨_, h.1, rfl, h.2⟩⟩
        clear hF hI
        simp only [execOp]; go_simp) ?_
    refine Reg.rely_plain (.bool true) rfl (fun a w hI hF => by
        have f1 : a.tmps.getD 35 undef = .bool true := hF 35 (Reg.looksB (by kernel_rfl))
        have f2 : a.tmps.getD 36 undef = .bool true := hF 36 (Reg.looksB (by kernel_rfl))
        clear hF hI
        simp only [Array.getD_eq_getD_getElem?] at f1 f2
        simp only [execOp]; go_simp) ?_
    refine Reg.rely_nil ?_
    refine Reg.final_is ?_
    refine Reg.final_is ?_
    refine Reg.final_is ?_
    refine Reg.final_is ?_
    refine Reg.final_is ?_
    refine Reg.final_is ?_
    refine Reg.final_is ?_
    refine Reg.final_is ?_
    refine Reg.final_is ?_
    refine Reg.final_is ?_
    refine Reg.final_is ?_
    refine Reg.final_is ?_
    refine Reg.final_is ?_
    refine Reg.final_is ?_
    refine Reg.final_is ?_
    refine Reg.final_is ?_
    refine Reg.final_is ?_
    refine Reg.final_is ?_
    refine Reg.final_nil (fun w9 hF => ?_)
    have HW := Lib.hid hF.2.2
    clear hF
    simp only [List.drop_succ_cons, List.drop_zero]
    go_simp
    go_wp2_with fail
    refine Reg.fin (by kernel_rfl) ?_
    go_wp2_with fail
    go_ret
    exact ⟨rfl, HB3.out.step HW.out⟩
end Go.Proofs.Ytbpakckiglgjfaa
