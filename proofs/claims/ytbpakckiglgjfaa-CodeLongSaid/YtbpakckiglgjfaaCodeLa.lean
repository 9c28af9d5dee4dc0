
/- The walk of the statements' own example: 'alive'. No condition. -/
import Derived.Test.YtbpakckiglgjfaaCodeK
import Derived.Test.YtbpakckiglgjfaaRely3
namespace Go.Proofs.Ytbpakckiglgjfaa
open Go.RowKit Cd Wire
set_option linter.unusedVariables false
theorem ex_encL : encV ex = ⟨#[1, 1, 1, 2, 2, 1, 1, 1, 14, 1]⟩ := ex_enc
theorem ex_decL : dec ⟨#[1, 1, 1, 2, 2, 1, 1, 1, 14, 1]⟩ = (ex, 0) := ex_dec
theorem ex_dec3L : dec (⟨#[1, 1, 1, 2, 2, 1, 1, 1, 14, 1]⟩ ++ ⟨#[0]⟩) = ([], 8) := by kernel_rfl
theorem dec_c {s : ByteArray} {W : World} {l : List FunV} {c : Int} (h : dec s = (l, c)) : Calls Try.prog 15 #[.string s] W fun e w' => ∃ v, e = .returned (.tuple #[.agg #[v], .int .i64 c]) ∧ FunsAt w' v l ∧ Below W.heap.size W w' :=
  (decode_any s W).mono fun e w' ⟨v, l', c', h1, h2, h3, h4, h5⟩ => ⟨v, by rw [h1, h3, h], by rw [h2, h] at h4; exact h4, h5⟩
theorem enc_c {fs : List FunV} {W : World} {v : Value} {s : ByteArray} {c : Int} (hv : FunsAt W v fs) (hn : Lim fs) (ho : OkP fs) (h1 : encV fs = s) (h2 : encC fs = c) :
    Calls Try.prog 11 #[.agg #[v]] W fun e w' => e = .returned (.tuple #[.string s, .int .i64 c]) ∧ Below W.heap.size W w' :=
  (encode_go hv hn ho).mono fun e w' ⟨s', c', h, e1, e2, hb⟩ => ⟨by rw [h, e1, e2, h1, h2], hb⟩
theorem rsame_t {l : List FunV} {W : World} {v u : Value} (hv : FunsAt W v l) (hu : FunsAt W u l) (hl : Lim l) : Calls Try.prog 17 #[.agg #[v], .agg #[u]] W fun e w' => e = .returned (.bool true) ∧ Below W.heap.size W w' :=
  (rsame_any hv hu hl).mono fun e w' ⟨h, hb⟩ => ⟨by rw [h, decide_eq_true rfl], hb⟩
theorem csame_t {l : List FunV} {W : World} {v u : Value} (hv : FunsAt W v l) (hu : FunsAt W u l) (hl : Lim l) : Calls Try.prog 20 #[.agg #[v], .agg #[u]] W fun e w' => e = .returned (.bool true) ∧ Below W.heap.size W w' :=
  (csame_any hv hu hl).mono fun e w' ⟨h, hb⟩ => ⟨by rw [h, decide_eq_true rfl], hb⟩
theorem may_c {fs : List FunV} {r : Bool} {w : World} {v : Value} (hv : FunsAt w v fs) (hn : Lim fs) (ho : OkP fs) (hr : mayB fs = r) : Calls Try.prog 13 #[.agg #[v]] w fun e w' => e = .returned (.bool r) ∧ Below w.heap.size w w' :=
  (may_any hv hn ho).mono fun e w' ⟨h, hb⟩ => ⟨by rw [h, hr], hb⟩
set_option maxRecDepth 100000 in
set_option maxHeartbeats 40000000 in
theorem calive_any (w : World) : Calls Try.prog 10 #[] w fun e w' => e = .returned (.bool true) ∧ Below w.heap.size w w' := by
  go_enter Try.func10, Try.ntmps10
  go_upto_region 2 with fail
  have h1 : Blk (((w.alloc (.cells #[.int .u8 1, .int .i64 1, .int .i64 0, .int .i64 0, .int .i64 (-1), .int .u8 14, .int .i64 0, .int .i64 1, .int .i64 0, .int .i64 0] 43)).alloc (.cells #[.int .i64 1, .int .i64 2, .slice (some ⟨w.heap.size, 0, none⟩) 2 2] 41)).alloc (.cells #[.slice (some ⟨w.heap.size + 1, 0, none⟩) 1 1] 24)) w.heap.size 43 #[.int .u8 1, .int .i64 1, .int .i64 0, .int .i64 0, .int .i64 (-1), .int .u8 14, .int .i64 0, .int .i64 1, .int .i64 0, .int .i64 0] := ((Blk.new _ _ _).alloc _).alloc _
  have h2 : Blk (((w.alloc (.cells #[.int .u8 1, .int .i64 1, .int .i64 0, .int .i64 0, .int .i64 (-1), .int .u8 14, .int .i64 0, .int .i64 1, .int .i64 0, .int .i64 0] 43)).alloc (.cells #[.int .i64 1, .int .i64 2, .slice (some ⟨w.heap.size, 0, none⟩) 2 2] 41)).alloc (.cells #[.slice (some ⟨w.heap.size + 1, 0, none⟩) 1 1] 24)) (w.heap.size + 1) 41 #[.int .i64 1, .int .i64 2, .slice (some ⟨w.heap.size, 0, none⟩) 2 2] := (Blk.new2 _ _ _ _).alloc _
  have h3 : Blk (((w.alloc (.cells #[.int .u8 1, .int .i64 1, .int .i64 0, .int .i64 0, .int .i64 (-1), .int .u8 14, .int .i64 0, .int .i64 1, .int .i64 0, .int .i64 0] 43)).alloc (.cells #[.int .i64 1, .int .i64 2, .slice (some ⟨w.heap.size, 0, none⟩) 2 2] 41)).alloc (.cells #[.slice (some ⟨w.heap.size + 1, 0, none⟩) 1 1] 24)) (w.heap.size + 1 + 1) 24 #[.slice (some ⟨w.heap.size + 1, 0, none⟩) 1 1] := by
    have := Blk.new2 (w.alloc (.cells #[.int .u8 1, .int .i64 1, .int .i64 0, .int .i64 0, .int .i64 (-1), .int .u8 14, .int .i64 0, .int .i64 1, .int .i64 0, .int .i64 0] 43)) (.cells #[.int .i64 1, .int .i64 2, .slice (some ⟨w.heap.size, 0, none⟩) 2 2] 41) 24 #[.slice (some ⟨w.heap.size + 1, 0, none⟩) 1 1]
    simpa using this
  have HX := Lib.hid (ex_at h1 h2)
  have HT := Lib.hid h3
  have HB := Lib.hid ((((Below.refl _ w).alloc (Nat.le_refl _) (.cells #[.int .u8 1, .int .i64 1, .int .i64 0, .int .i64 0, .int .i64 (-1), .int .u8 14, .int .i64 0, .int .i64 1, .int .i64 0, .int .i64 0] 43)).alloc (by simp) (.cells #[.int .i64 1, .int .i64 2, .slice (some ⟨w.heap.size, 0, none⟩) 2 2] 41)).alloc (by simp; omega) (.cells #[.slice (some ⟨w.heap.size + 1, 0, none⟩) 1 1] 24))
  have z0 := h3.cell 0
  simp only [List.getElem?_toArray, List.getElem?_cons_zero] at z0
  clear h1 h2 h3
  generalize ((w.alloc (.cells #[.int .u8 1, .int .i64 1, .int .i64 0, .int .i64 0, .int .i64 (-1), .int .u8 14, .int .i64 0, .int .i64 1, .int .i64 0, .int .i64 0] 43)).alloc (.cells #[.int .i64 1, .int .i64 2, .slice (some ⟨w.heap.size, 0, none⟩) 2 2] 41)).alloc (.cells #[.slice (some ⟨w.heap.size + 1, 0, none⟩) 1 1] 24) = wA at *
  go_upto_region 6 with (first | (go_at_call 11; ((with_reducible refine (enc_c HX.out ex_lim ex_ok ex_encL ex_encC).mono ?_); rintro e w1 ⟨rfl, b1⟩; have HX1 := Lib.hid (HX.out.below b1); have HT1 := Lib.hid (HT.out.below b1); have HB1 := Lib.hid (HB.out.step b1); clear b1 z0)) | (go_at_call 15; (first | ((with_reducible refine (dec_c ex_decL).mono ?_); rintro e w2 ⟨vq, rfl, hq, b2⟩; obtain ⟨pq, cq, rfl⟩ := hq.slice; have HQ2 := Lib.hid hq; have HX2 := Lib.hid (HX1.out.below b2); have HT2 := Lib.hid (HT1.out.below b2); have HB2 := Lib.hid (HB1.out.step b2); clear b2 hq) | ((with_reducible refine (dec_c ex_dec2).mono ?_); rintro e w3 ⟨v3, rfl, hq3, b3⟩; obtain ⟨p3, c3, rfl⟩ := hq3.slice; have HBB3 := Lib.hid b3; clear b3 hq3) | ((with_reducible refine (dec_c (l := []) (c := 8) ex_dec3L).mono ?_); rintro e w4 ⟨v4, rfl, hq4, b4⟩; obtain ⟨p4, c4, rfl⟩ := hq4.slice; have HBB4 := Lib.hid b4; clear b4 hq4))))
  have bQ : Below w2.heap.size w2 (w4.alloc (.cells #[.slice p4 0 c4] 24)) :=
    ((((Below.refl _ w2).alloc (Nat.le_refl _) (.cells #[.slice pq ex.length cq] 24)).step HBB3.out).alloc (by have := HBB3.out.size; simp at this; omega) (.cells #[.slice p3 0 c3] 24)).step HBB4.out |>.alloc (by have := HBB3.out.size; have := HBB4.out.size; simp at *; omega) _
  have bQ4 : Below (w2.alloc (.cells #[.slice pq ex.length cq] 24)).heap.size (w2.alloc (.cells #[.slice pq ex.length cq] 24)) (w4.alloc (.cells #[.slice p4 0 c4] 24)) :=
    ((HBB3.out.alloc HBB3.out.size (.cells #[.slice p3 0 c3] 24)).step HBB4.out).alloc (by have := HBB3.out.size; have := HBB4.out.size; simp at *; omega) _
  have HXR := Lib.hid (HX2.out.below bQ)
  have HQR := Lib.hid (HQ2.out.below bQ)
  have HTR := Lib.hid (HT2.out.below bQ)
  have HUR := Lib.hid ((Blk.new w2 24 #[.slice pq ex.length cq]).below bQ4)
  have HBR := Lib.hid (HB2.out.step bQ)
  clear bQ bQ4 HX HT HB HX1 HT1 HB1 HQ2 HX2 HT2 HB2 HBB3 HBB4
  generalize w4.alloc (.cells #[.slice p4 0 c4] 24) = wR at *
  generalize w.heap.size + 1 = g1 at *
  generalize g1 + 1 = t1 at *
  generalize w2.heap.size = t4 at *
  refine Reg.wp_rely 40 (fun w => FunsAt w (.slice (some ⟨g1, 0, none⟩) 1 1) ex ∧ FunsAt w (.slice pq ex.length cq) ex ∧ Blk w t1 24 #[.slice (some ⟨g1, 0, none⟩) 1 1] ∧ Blk w t4 24 #[.slice pq ex.length cq] ∧ Below wR.heap.size wR w) (by kernel_rfl) (Reg.relyOk_of (by kernel_rfl)) ⟨HXR.out.drew, HQR.out.drew, HTR.out.drew, HUR.out.drew, (Below.refl _ _).drew⟩ (fun w w' h hI => ⟨hI.1.below h, hI.2.1.below h, hI.2.2.1.below h, hI.2.2.2.1.below h, hI.2.2.2.2.trans (h.mono hI.2.2.2.2.size)⟩) ?_
  refine Reg.rely_plain (.string ⟨#[1, 1, 1, 2, 2, 1, 1, 1, 14, 1]⟩) rfl (fun a w hI hF => by
      have f1 : a.tmps.getD 2 undef = .string ⟨#[1, 1, 1, 2, 2, 1, 1, 1, 14, 1]⟩ := hF 2 (Reg.looksB (by kernel_rfl))
      clear hF hI
      simp only [Array.getD_eq_getD_getElem?] at f1
      simp only [execOp]; go_simp) ?_
  refine Reg.rely_plain (.bool true) rfl (fun a w hI hF => by
      have f1 : a.tmps.getD 36 undef = .string ⟨#[1, 1, 1, 2, 2, 1, 1, 1, 14, 1]⟩ := hF 36 (Reg.looksB (by kernel_rfl))
      clear hF hI
      simp only [Array.getD_eq_getD_getElem?] at f1
      simp only [execOp]; go_simp) ?_
  refine Reg.rely_plain (.bool true) rfl (fun a w hI hF => by
      have f1 : a.tmps.getD 37 undef = .bool true := hF 37 (Reg.looksB (by kernel_rfl))
      clear hF hI
      simp only [Array.getD_eq_getD_getElem?] at f1
      simp only [execOp]; go_simp) ?_
  refine Reg.rely_isg (.int .i64 0) 2 38 rfl rfl (fun v w h => h) (fun a w hI hF => by
      have f1 : a.tmps.getD 3 undef = .int .i64 0 := hF 3 (Reg.looksB (by kernel_rfl))
      clear hF hI
      simp only [Array.getD_eq_getD_getElem?] at f1
      simp only [execOp]; go_simp) ?_
  refine Reg.rely_isg (.bool true) 2 38 rfl rfl (fun v w h => h) (fun a w hI hF => by
      have f1 : a.tmps.getD 39 undef = .int .i64 0 := hF 39 (Reg.looksB (by kernel_rfl))
      clear hF hI
      simp only [Array.getD_eq_getD_getElem?] at f1
      simp only [execOp]; go_simp) ?_
  refine Reg.rely_plain (.bool true) rfl (fun a w hI hF => by
      have f1 : a.tmps.getD 38 undef = .bool true := hF 38 (Reg.looksB (by kernel_rfl))
      have f2 : a.tmps.getD 40 undef = .bool true := hF 40 (Reg.looksB (by kernel_rfl))
      clear hF hI
      simp only [Array.getD_eq_getD_getElem?] at f1 f2
      simp only [execOp]; go_simp) ?_
  refine Reg.rely_plain (.bool true) rfl (fun a w hI hF => by
      have f1 : a.tmps.getD 41 undef = .bool true := hF 41 (Reg.looksB (by kernel_rfl))
      clear hF hI
      simp only [Array.getD_eq_getD_getElem?] at f1
      simp only [execOp]; go_simp) ?_
  refine Reg.rely_isg (.agg #[.slice (some ⟨g1, 0, none⟩) 1 1]) 6 42 rfl rfl (fun v w h => h) (fun a w hI hF => by
      have f1 : a.tmps.getD 1 undef = .pointer (some ⟨t1, 0, none⟩) := hF 1 (Reg.looksB (by kernel_rfl))
      have hc := hI.2.2.1.cell 0
      clear hF hI
      simp only [Array.getD_eq_getD_getElem?] at f1
      simp only [execOp]; go_simp) ?_
  refine Reg.rely_isg (.agg #[.slice pq ex.length cq]) 6 42 rfl rfl (fun v w h => h) (fun a w hI hF => by
      have f1 : a.tmps.getD 4 undef = .pointer (some ⟨t4, 0, none⟩) := hF 4 (Reg.looksB (by kernel_rfl))
      have hc := hI.2.2.2.1.cell 0
      clear hF hI
      simp only [Array.getD_eq_getD_getElem?] at f1
      simp only [execOp]; go_simp) ?_
  refine Reg.rely_callg (Reg.Is (.bool true)) (Reg.stab_is _ _) (fun G hG => by cases hG) 6 42 rfl rfl (fun v w h => h) (fun a w hI hF => by
      have f1 : a.tmps.getD 43 undef = .agg #[.slice (some ⟨g1, 0, none⟩) 1 1] := hF 43 (Reg.looksB (by kernel_rfl))
      have f2 : a.tmps.getD 44 undef = .agg #[.slice pq ex.length cq] := hF 44 (Reg.looksB (by kernel_rfl))
      refine ⟨17, #[.agg #[.slice (some ⟨g1, 0, none⟩) 1 1], .agg #[.slice pq ex.length cq]], ?_, (rsame_t hI.1 hI.2.1 ex_lim).mono fun e w' h => ⟨_, h.1, rfl, h.2⟩⟩
      clear hF hI
      simp only [Array.getD_eq_getD_getElem?] at f1 f2
      simp only [execOp]; go_simp) ?_
  refine Reg.rely_plain (.bool true) rfl (fun a w hI hF => by
      have f1 : a.tmps.getD 42 undef = .bool true := hF 42 (Reg.looksB (by kernel_rfl))
      have f2 : a.tmps.getD 45 undef = .bool true := hF 45 (Reg.looksB (by kernel_rfl))
      clear hF hI
      simp only [Array.getD_eq_getD_getElem?] at f1 f2
      simp only [execOp]; go_simp) ?_
  refine Reg.rely_plain (.bool true) rfl (fun a w hI hF => by
      have f1 : a.tmps.getD 46 undef = .bool true := hF 46 (Reg.looksB (by kernel_rfl))
      clear hF hI
      simp only [Array.getD_eq_getD_getElem?] at f1
      simp only [execOp]; go_simp) ?_
  refine Reg.rely_isg (.int .i64 0) 11 47 rfl rfl (fun v w h => h) (fun a w hI hF => by
      have f1 : a.tmps.getD 5 undef = .int .i64 0 := hF 5 (Reg.looksB (by kernel_rfl))
      clear hF hI
      simp only [Array.getD_eq_getD_getElem?] at f1
      simp only [execOp]; go_simp) ?_
  refine Reg.rely_isg (.bool true) 11 47 rfl rfl (fun v w h => h) (fun a w hI hF => by
      have f1 : a.tmps.getD 48 undef = .int .i64 0 := hF 48 (Reg.looksB (by kernel_rfl))
      clear hF hI
      simp only [Array.getD_eq_getD_getElem?] at f1
      simp only [execOp]; go_simp) ?_
  refine Reg.rely_plain (.bool true) rfl (fun a w hI hF => by
      have f1 : a.tmps.getD 47 undef = .bool true := hF 47 (Reg.looksB (by kernel_rfl))
      have f2 : a.tmps.getD 49 undef = .bool true := hF 49 (Reg.looksB (by kernel_rfl))
      clear hF hI
      simp only [Array.getD_eq_getD_getElem?] at f1 f2
      simp only [execOp]; go_simp) ?_
  refine Reg.rely_plain (.bool true) rfl (fun a w hI hF => by
      have f1 : a.tmps.getD 50 undef = .bool true := hF 50 (Reg.looksB (by kernel_rfl))
      clear hF hI
      simp only [Array.getD_eq_getD_getElem?] at f1
      simp only [execOp]; go_simp) ?_
  refine Reg.rely_isg (.int .i64 100) 15 51 rfl rfl (fun v w h => h) (fun a w hI hF => by
      have f1 : a.tmps.getD 7 undef = .int .i64 100 := hF 7 (Reg.looksB (by kernel_rfl))
      clear hF hI
      simp only [Array.getD_eq_getD_getElem?] at f1
      simp only [execOp]; go_simp) ?_
  refine Reg.rely_isg (.bool true) 15 51 rfl rfl (fun v w h => h) (fun a w hI hF => by
      have f1 : a.tmps.getD 52 undef = .int .i64 100 := hF 52 (Reg.looksB (by kernel_rfl))
      clear hF hI
      simp only [Array.getD_eq_getD_getElem?] at f1
      simp only [execOp]; go_simp) ?_
  refine Reg.rely_plain (.bool true) rfl (fun a w hI hF => by
      have f1 : a.tmps.getD 51 undef = .bool true := hF 51 (Reg.looksB (by kernel_rfl))
      have f2 : a.tmps.getD 53 undef = .bool true := hF 53 (Reg.looksB (by kernel_rfl))
      clear hF hI
      simp only [Array.getD_eq_getD_getElem?] at f1 f2
      simp only [execOp]; go_simp) ?_
  refine Reg.rely_plain (.bool true) rfl (fun a w hI hF => by
      have f1 : a.tmps.getD 54 undef = .bool true := hF 54 (Reg.looksB (by kernel_rfl))
      clear hF hI
      simp only [Array.getD_eq_getD_getElem?] at f1
      simp only [execOp]; go_simp) ?_
  refine Reg.rely_isg (.int .i64 8) 19 55 rfl rfl (fun v w h => h) (fun a w hI hF => by
      have f1 : a.tmps.getD 9 undef = .int .i64 8 := hF 9 (Reg.looksB (by kernel_rfl))
      clear hF hI
      simp only [Array.getD_eq_getD_getElem?] at f1
      simp only [execOp]; go_simp) ?_
  refine Reg.rely_isg (.bool true) 19 55 rfl rfl (fun v w h => h) (fun a w hI hF => by
      have f1 : a.tmps.getD 56 undef = .int .i64 8 := hF 56 (Reg.looksB (by kernel_rfl))
      clear hF hI
      simp only [Array.getD_eq_getD_getElem?] at f1
      simp only [execOp]; go_simp) ?_
  refine Reg.rely_plain (.bool true) rfl (fun a w hI hF => by
      have f1 : a.tmps.getD 55 undef = .bool true := hF 55 (Reg.looksB (by kernel_rfl))
      have f2 : a.tmps.getD 57 undef = .bool true := hF 57 (Reg.looksB (by kernel_rfl))
      clear hF hI
      simp only [Array.getD_eq_getD_getElem?] at f1 f2
      simp only [execOp]; go_simp) ?_
  refine Reg.rely_plain (.bool true) rfl (fun a w hI hF => by
      have f1 : a.tmps.getD 58 undef = .bool true := hF 58 (Reg.looksB (by kernel_rfl))
      clear hF hI
      simp only [Array.getD_eq_getD_getElem?] at f1
      simp only [execOp]; go_simp) ?_
  refine Reg.rely_isg (.agg #[.slice (some ⟨g1, 0, none⟩) 1 1]) 23 59 rfl rfl (fun v w h => h) (fun a w hI hF => by
      have f1 : a.tmps.getD 1 undef = .pointer (some ⟨t1, 0, none⟩) := hF 1 (Reg.looksB (by kernel_rfl))
      have hc := hI.2.2.1.cell 0
      clear hF hI
      simp only [Array.getD_eq_getD_getElem?] at f1
      simp only [execOp]; go_simp) ?_
  refine Reg.rely_callg (Reg.Is (.bool true)) (Reg.stab_is _ _) (fun G hG => by cases hG) 23 59 rfl rfl (fun v w h => h) (fun a w hI hF => by
      have f1 : a.tmps.getD 60 undef = .agg #[.slice (some ⟨g1, 0, none⟩) 1 1] := hF 60 (Reg.looksB (by kernel_rfl))
      refine ⟨13, #[.agg #[.slice (some ⟨g1, 0, none⟩) 1 1]], ?_, (may_c hI.1 ex_lim ex_ok ex_may).mono fun e w' h => ⟨_, h.1, rfl, h.2⟩⟩
      clear hF hI
      simp only [Array.getD_eq_getD_getElem?] at f1
      simp only [execOp]; go_simp) ?_
  refine Reg.rely_plain (.bool true) rfl (fun a w hI hF => by
      have f1 : a.tmps.getD 59 undef = .bool true := hF 59 (Reg.looksB (by kernel_rfl))
      have f2 : a.tmps.getD 61 undef = .bool true := hF 61 (Reg.looksB (by kernel_rfl))
      clear hF hI
      simp only [Array.getD_eq_getD_getElem?] at f1 f2
      simp only [execOp]; go_simp) ?_
  refine Reg.rely_plain (.bool true) rfl (fun a w hI hF => by
      have f1 : a.tmps.getD 62 undef = .bool true := hF 62 (Reg.looksB (by kernel_rfl))
      clear hF hI
      simp only [Array.getD_eq_getD_getElem?] at f1
      simp only [execOp]; go_simp) ?_
  refine Reg.rely_isg (.agg #[.slice (some ⟨g1, 0, none⟩) 1 1]) 27 63 rfl rfl (fun v w h => h) (fun a w hI hF => by
      have f1 : a.tmps.getD 1 undef = .pointer (some ⟨t1, 0, none⟩) := hF 1 (Reg.looksB (by kernel_rfl))
      have hc := hI.2.2.1.cell 0
      clear hF hI
      simp only [Array.getD_eq_getD_getElem?] at f1
      simp only [execOp]; go_simp) ?_
  refine Reg.rely_isg (.agg #[.slice (some ⟨g1, 0, none⟩) 1 1]) 27 63 rfl rfl (fun v w h => h) (fun a w hI hF => by
      have f1 : a.tmps.getD 1 undef = .pointer (some ⟨t1, 0, none⟩) := hF 1 (Reg.looksB (by kernel_rfl))
      have hc := hI.2.2.1.cell 0
      clear hF hI
      simp only [Array.getD_eq_getD_getElem?] at f1
      simp only [execOp]; go_simp) ?_
  refine Reg.rely_callg (fun v w => ∃ u, v = .agg #[u] ∧ FunsAt w u ex) (fun v w w' h hS => by obtain ⟨u, h1, h2⟩ := hS; exact ⟨u, h1, h2.below h⟩) (fun G hG => by cases hG) 27 63 rfl rfl (fun v w h => h) (fun a w hI hF => by
      have f1 : a.tmps.getD 65 undef = .agg #[.slice (some ⟨g1, 0, none⟩) 1 1] := hF 65 (Reg.looksB (by kernel_rfl))
      refine ⟨18, #[.agg #[.slice (some ⟨g1, 0, none⟩) 1 1]], ?_, (copy_any hI.1 ex_lim).mono fun e w' h => by obtain ⟨u, h1, h2, h3⟩ := h; exact ⟨_, h1, ⟨u, rfl, h2.at⟩, h3⟩⟩
      clear hF hI
      simp only [Array.getD_eq_getD_getElem?] at f1
      simp only [execOp]; go_simp) ?_
  refine Reg.rely_callg (Reg.Is (.bool true)) (Reg.stab_is _ _) (fun G hG => by cases hG) 27 63 rfl rfl (fun v w h => h) (fun a w hI hF => by
    have f1 : a.tmps.getD 64 undef = .agg #[.slice (some ⟨g1, 0, none⟩) 1 1] := hF 64 (Reg.looksB (by kernel_rfl))
    obtain ⟨u, f2, hu⟩ : ∃ u, a.tmps.getD 66 undef = .agg #[u] ∧ FunsAt w u ex := hF 66 (Reg.looksB (by kernel_rfl))
    refine ⟨20, #[.agg #[.slice (some ⟨g1, 0, none⟩) 1 1], .agg #[u]], ?_, (csame_t hI.1 hu ex_lim).mono fun e w' h => ⟨_, h.1, rfl, h.2⟩⟩
    clear hF hI hu
    simp only [Array.getD_eq_getD_getElem?] at f1 f2
    simp only [execOp]; go_simp) ?_
  refine Reg.rely_plain (.bool true) rfl (fun a w hI hF => by
      have f1 : a.tmps.getD 63 undef = .bool true := hF 63 (Reg.looksB (by kernel_rfl))
      have f2 : a.tmps.getD 67 undef = .bool true := hF 67 (Reg.looksB (by kernel_rfl))
      clear hF hI
      simp only [Array.getD_eq_getD_getElem?] at f1 f2
      simp only [execOp]; go_simp) ?_
  refine Reg.rely_plain (.bool true) rfl (fun a w hI hF => by
      have f1 : a.tmps.getD 68 undef = .bool true := hF 68 (Reg.looksB (by kernel_rfl))
      clear hF hI
      simp only [Array.getD_eq_getD_getElem?] at f1
      simp only [execOp]; go_simp) ?_
  refine Reg.rely_isg (.agg #[.int .i64 0, .int .i64 17, .slice none 0 0]) 33 69 rfl rfl (fun v w h => h) (fun a w hI hF => by
      clear hF hI
      simp only [execOp]; go_simp) ?_
  refine Reg.rely_relg (fun v w => ∃ b, v = .slice (some ⟨b, 0, none⟩) 1 1 ∧ FunsAt w v ex2) (fun v w w' h hS => by obtain ⟨b, h1, h2⟩ := hS; exact ⟨b, h1, h2.below h⟩) (fun G hG => by cases hG) 33 69 rfl rfl (fun v w h => h) (fun a w hI hF => by
    have f1 : a.tmps.getD 70 undef = .agg #[.int .i64 0, .int .i64 17, .slice none 0 0] := hF 70 (Reg.looksB (by kernel_rfl))
    have hK : ∃ v : Value, a.tmps.setIfInBounds 71 (.slice (some ⟨w.heap.size, 0, none⟩) 1 1) = a.tmps.setIfInBounds 71 v ∧ ((∃ x, v = .slice (some ⟨x, 0, none⟩) 1 1) ∧ FunsAt (w.alloc (.cells #[.int .i64 0, .int .i64 17, .slice none 0 0] 41)) v ex2) ∧ Reg.Grow w (w.alloc (.cells #[.int .i64 0, .int .i64 17, .slice none 0 0] 41)) := ⟨_, rfl, ⟨⟨_, rfl⟩, ex2_at (Blk.new _ _ _)⟩, (Below.refl _ w).alloc (Nat.le_refl _) _⟩
    clear hF hI
    simp only [Array.getD_eq_getD_getElem?] at f1
    unfold Oper.wp
    simp only [execOp]
    go_simp) ?_
  refine Reg.rely_relg (fun v w => ∃ u, v = .agg #[u] ∧ FunsAt w u ex2) (fun v w w' h hS => by obtain ⟨u, h1, h2⟩ := hS; exact ⟨u, h1, h2.below h⟩) (fun G hG => by cases hG) 33 69 rfl rfl (fun v w h => h) (fun a w hI hF => by
    obtain ⟨b, f1, hu⟩ : ∃ b, a.tmps.getD 71 undef = .slice (some ⟨b, 0, none⟩) 1 1 ∧ FunsAt w (a.tmps.getD 71 undef) ex2 := hF 71 (Reg.looksB (by kernel_rfl))
    rw [f1] at hu
    have hK : ∃ v : Value, a.tmps.setIfInBounds 72 (.agg #[.slice (some ⟨b, 0, none⟩) 1 1]) = a.tmps.setIfInBounds 72 v ∧ (∃ u, v = .agg #[u] ∧ FunsAt w u ex2) ∧ Reg.Grow w w := ⟨_, rfl, ⟨_, rfl, hu⟩, Below.refl _ w⟩
    clear hF hI hu
    simp only [Array.getD_eq_getD_getElem?] at f1
    unfold Oper.wp
    simp only [execOp]
    go_simp) ?_
  refine Reg.rely_callg (Reg.Is (.bool false)) (Reg.stab_is _ _) (fun G hG => by cases hG) 33 69 rfl rfl (fun v w h => h) (fun a w hI hF => by
    obtain ⟨u, f1, hu⟩ : ∃ u, a.tmps.getD 72 undef = .agg #[u] ∧ FunsAt w u ex2 := hF 72 (Reg.looksB (by kernel_rfl))
    refine ⟨13, #[.agg #[u]], ?_, (may_c hu ex2_lim ex2_ok ex2_may).mono fun e w' h => ⟨_, h.1, rfl, h.2⟩⟩
    clear hF hI hu
    simp only [Array.getD_eq_getD_getElem?] at f1
    simp only [execOp]; go_simp) ?_
  refine Reg.rely_isg (.bool true) 33 69 rfl rfl (fun v w h => h) (fun a w hI hF => by
      have f1 : a.tmps.getD 73 undef = .bool false := hF 73 (Reg.looksB (by kernel_rfl))
      clear hF hI
      simp only [Array.getD_eq_getD_getElem?] at f1
      simp only [execOp]; go_simp) ?_
  refine Reg.rely_plain (.bool true) rfl (fun a w hI hF => by
      have f1 : a.tmps.getD 69 undef = .bool true := hF 69 (Reg.looksB (by kernel_rfl))
      have f2 : a.tmps.getD 74 undef = .bool true := hF 74 (Reg.looksB (by kernel_rfl))
      clear hF hI
      simp only [Array.getD_eq_getD_getElem?] at f1 f2
      simp only [execOp]; go_simp) ?_
  refine Reg.rely_nil ?_
  refine Reg.final_is ?_
  refine Reg.final_is ?_
  refine Reg.final_is ?_
  refine Reg.final_rel (fun v36 => ?_)
  refine Reg.final_rel (fun v35 => ?_)
  refine Reg.final_is ?_
  refine Reg.final_is ?_
  refine Reg.final_is ?_
  refine Reg.final_is ?_
  refine Reg.final_rel (fun v30 => ?_)
  refine Reg.final_is ?_
  refine Reg.final_is ?_
  refine Reg.final_is ?_
  refine Reg.final_is ?_
  refine Reg.final_is ?_
  refine Reg.final_is ?_
  refine Reg.final_is ?_
  refine Reg.final_is ?_
  refine Reg.final_is ?_
  refine Reg.final_is ?_
  refine Reg.final_is ?_
  refine Reg.final_is ?_
  refine Reg.final_is ?_
  refine Reg.final_is ?_
  refine Reg.final_is ?_
  refine Reg.final_is ?_
  refine Reg.final_is ?_
  refine Reg.final_is ?_
  refine Reg.final_is ?_
  refine Reg.final_is ?_
  refine Reg.final_is ?_
  refine Reg.final_is ?_
  refine Reg.final_is ?_
  refine Reg.final_is ?_
  refine Reg.final_is ?_
  refine Reg.final_is ?_
  refine Reg.final_is ?_
  refine Reg.final_is ?_
  refine Reg.final_is ?_
  refine Reg.final_is ?_
  refine Reg.final_nil (fun w9 hF => ?_)
  have HW := Lib.hid hF.1.1.1.2.2.2.2
  clear hF
  simp only [List.drop_succ_cons, List.drop_zero]
  go_simp
  go_wp2_with fail
  refine Reg.fin (by kernel_rfl) ?_
  go_wp2_with fail
  go_ret
  exact ⟨rfl, HBR.out.step HW.out⟩
end Go.Proofs.Ytbpakckiglgjfaa
