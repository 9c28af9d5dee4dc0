import Derived.Test.YtghbjknpffiaiaaMgi

/- Cases of what tells whether two messages are the same. No condition but that lists are not too long. -/
namespace Go.Proofs.Ytghbjknpffiaiaa
open Go.RowKit Wire Ms
set_option linter.unusedVariables false
set_option linter.unusedSimpArgs false
set_option maxRecDepth 100000 in
set_option maxHeartbeats 8000000 in
theorem same_c12 {a0 : Int} {a1 : Int} {a2 : ByteArray} {a3 : ByteArray} {a4 : List Int} {a5 : Int} {a6 : ByteArray} {a7 : Int} {a8 : List Int} {a9 : Int} {a10 : Int} {a11 : List En} {a12 : List Int} {a13 : List Nm} {a14 : List Int} {a15 : Int} {a16 : Int} {a17 : Int} {a18 : Int} {b15 : Int} {b16 : Int} {b17 : Int} {b18 : Int} {W : World} {B : Nat} {p1 p2 p3 p4 p5 p6 q1 q2 q3 q4 q5 q6 : Option Addr} {c1 c2 c3 c4 c5 c6 d1 d2 d3 d4 d5 d6 : Nat}
    (hv : MR W B (⟨a0, a1, a2, a3, a4, a5, ⟨a6, a7, a8, a9⟩, a10, a11, a12, a13, a14, a15, ⟨a16, a17⟩, a18⟩ : M) ⟨.slice p1 a4.length c1, .slice p2 a8.length c2, .slice p3 a11.length c3, .slice p4 a12.length c4, .slice p5 a13.length c5, .slice p6 a14.length c6⟩) (hu : MR W B (⟨a0, a1, a2, a3, a4, a5, ⟨a6, a7, a8, a9⟩, a10, a11, a12, a13, a14, b15, ⟨b16, b17⟩, b18⟩ : M) ⟨.slice q1 a4.length d1, .slice q2 a8.length d2, .slice q3 a11.length d3, .slice q4 a12.length d4, .slice q5 a13.length d5, .slice q6 a14.length d6⟩) (hB : B ≤ W.heap.size) (hl : Lite (⟨a0, a1, a2, a3, a4, a5, ⟨a6, a7, a8, a9⟩, a10, a11, a12, a13, a14, a15, ⟨a16, a17⟩, a18⟩ : M)) (hne : ¬ a15 = b15) :
    Calls Try.prog 9 #[.agg #[.int .u8 a0, .int .u64 a1, .string a2, .string a3, .slice p1 a4.length c1, .int .i64 a5, .string a6, .int .i64 a7, .slice p2 a8.length c2, .int .i64 a9, .int .u64 a10, .slice p3 a11.length c3, .slice p4 a12.length c4, .slice p5 a13.length c5, .slice p6 a14.length c6, .int .u8 a15, .int .i64 a16, .int .i64 a17, .int .i64 a18], .agg #[.int .u8 a0, .int .u64 a1, .string a2, .string a3, .slice q1 a4.length d1, .int .i64 a5, .string a6, .int .i64 a7, .slice q2 a8.length d2, .int .i64 a9, .int .u64 a10, .slice q3 a11.length d3, .slice q4 a12.length d4, .slice q5 a13.length d5, .slice q6 a14.length d6, .int .u8 b15, .int .i64 b16, .int .i64 b17, .int .i64 b18]] W (EqP false W) := by
  have H1 := Lib.hid (show ∀ w, Below W.heap.size W w → Calls Try.prog 14 #[.slice p1 a4.length c1, .slice q1 a4.length d1] w (EqP true w) from fun w hb => by
    have h := eq_int ((hv.keep fun b o x hlt hx => Below.cellq hb (by omega) hx).ri) ((hu.keep fun b o x hlt hx => Below.cellq hb (by omega) hx).ri) (Nat.le_trans hB hb.size) (by have := hl.input; omega)
    rw [decide_eq_true rfl] at h; exact h)
  have H2 := Lib.hid (show ∀ w, Below W.heap.size W w → Calls Try.prog 15 #[.agg #[.string a6, .int .i64 a7, .slice p2 a8.length c2, .int .i64 a9], .agg #[.string a6, .int .i64 a7, .slice q2 a8.length d2, .int .i64 a9]] w (EqP true w) from fun w hb => by
    have h := tsk_any (t := (⟨a6, a7, a8, a9⟩ : Tk)) (u := (⟨a6, a7, a8, a9⟩ : Tk)) ((hv.keep fun b o x hlt hx => Below.cellq hb (by omega) hx).ra) ((hu.keep fun b o x hlt hx => Below.cellq hb (by omega) hx).ra) (Nat.le_trans hB hb.size) (hl.args)
    rw [decide_eq_true rfl] at h; exact h)
  have H3 := Lib.hid (show ∀ w, Below W.heap.size W w → Calls Try.prog 16 #[.slice p3 a11.length c3, .slice q3 a11.length d3] w (EqP true w) from fun w hb => by
    have h := eq_en ((hv.keep fun b o x hlt hx => Below.cellq hb (by omega) hx).rn) ((hu.keep fun b o x hlt hx => Below.cellq hb (by omega) hx).rn) (Nat.le_trans hB hb.size) (by have := hl.ents.1; omega)
    rw [decide_eq_true rfl] at h; exact h)
  have H4 := Lib.hid (show ∀ w, Below W.heap.size W w → Calls Try.prog 17 #[.slice p4 a12.length c4, .slice q4 a12.length d4] w (EqP true w) from fun w hb => by
    have h := eq_u64 ((hv.keep fun b o x hlt hx => Below.cellq hb (by omega) hx).rh) ((hu.keep fun b o x hlt hx => Below.cellq hb (by omega) hx).rh) (Nat.le_trans hB hb.size) (by have := hl.epochs; omega)
    rw [decide_eq_true rfl] at h; exact h)
  have H5 := Lib.hid (show ∀ w, Below W.heap.size W w → Calls Try.prog 18 #[.slice p5 a13.length c5, .slice q5 a13.length d5] w (EqP true w) from fun w hb => by
    have h := eq_nm ((hv.keep fun b o x hlt hx => Below.cellq hb (by omega) hx).rm) ((hu.keep fun b o x hlt hx => Below.cellq hb (by omega) hx).rm) (Nat.le_trans hB hb.size) (by have := hl.names.1; omega)
    rw [decide_eq_true rfl] at h; exact h)
  have H6 := Lib.hid (show ∀ w, Below W.heap.size W w → Calls Try.prog 19 #[.slice p6 a14.length c6, .slice q6 a14.length d6] w (EqP true w) from fun w hb => by
    have h := eq_err ((hv.keep fun b o x hlt hx => Below.cellq hb (by omega) hx).rc) ((hu.keep fun b o x hlt hx => Below.cellq hb (by omega) hx).rc) (Nat.le_trans hB hb.size) (by have := hl.codes; omega)
    rw [decide_eq_true rfl] at h; exact h)
  have HB0 := Lib.hid (((Below.refl _ W).alloc (Nat.le_refl _) (.cells #[.int .u8 a0, .int .u64 a1, .string a2, .string a3, .slice p1 a4.length c1, .int .i64 a5, .string a6, .int .i64 a7, .slice p2 a8.length c2, .int .i64 a9, .int .u64 a10, .slice p3 a11.length c3, .slice p4 a12.length c4, .slice p5 a13.length c5, .slice p6 a14.length c6, .int .u8 a15, .int .i64 a16, .int .i64 a17, .int .i64 a18] 34)).alloc (by simp) (.cells #[.int .u8 a0, .int .u64 a1, .string a2, .string a3, .slice q1 a4.length d1, .int .i64 a5, .string a6, .int .i64 a7, .slice q2 a8.length d2, .int .i64 a9, .int .u64 a10, .slice q3 a11.length d3, .slice q4 a12.length d4, .slice q5 a13.length d5, .slice q6 a14.length d6, .int .u8 b15, .int .i64 b16, .int .i64 b17, .int .i64 b18] 34))
  have HA0 := Lib.hid ((Blk.new W 34 #[.int .u8 a0, .int .u64 a1, .string a2, .string a3, .slice p1 a4.length c1, .int .i64 a5, .string a6, .int .i64 a7, .slice p2 a8.length c2, .int .i64 a9, .int .u64 a10, .slice p3 a11.length c3, .slice p4 a12.length c4, .slice p5 a13.length c5, .slice p6 a14.length c6, .int .u8 a15, .int .i64 a16, .int .i64 a17, .int .i64 a18]).alloc (.cells #[.int .u8 a0, .int .u64 a1, .string a2, .string a3, .slice q1 a4.length d1, .int .i64 a5, .string a6, .int .i64 a7, .slice q2 a8.length d2, .int .i64 a9, .int .u64 a10, .slice q3 a11.length d3, .slice q4 a12.length d4, .slice q5 a13.length d5, .slice q6 a14.length d6, .int .u8 b15, .int .i64 b16, .int .i64 b17, .int .i64 b18] 34))
  have HX0 := Lib.hid (blk_new1 W (.cells #[.int .u8 a0, .int .u64 a1, .string a2, .string a3, .slice p1 a4.length c1, .int .i64 a5, .string a6, .int .i64 a7, .slice p2 a8.length c2, .int .i64 a9, .int .u64 a10, .slice p3 a11.length c3, .slice p4 a12.length c4, .slice p5 a13.length c5, .slice p6 a14.length c6, .int .u8 a15, .int .i64 a16, .int .i64 a17, .int .i64 a18] 34) 34 #[.int .u8 a0, .int .u64 a1, .string a2, .string a3, .slice q1 a4.length d1, .int .i64 a5, .string a6, .int .i64 a7, .slice q2 a8.length d2, .int .i64 a9, .int .u64 a10, .slice q3 a11.length d3, .slice q4 a12.length d4, .slice q5 a13.length d5, .slice q6 a14.length d6, .int .u8 b15, .int .i64 b16, .int .i64 b17, .int .i64 b18])
  have hs2 := str_of (a := a2) rfl
  have hs3 := str_of (a := a3) rfl
  have hb' : (a15 == b15) = false := by simpa using hne
  clear hv hu hl hB hne
  generalize a4.length = na4 at *
  generalize a8.length = na8 at *
  generalize a11.length = na11 at *
  generalize a12.length = na12 at *
  generalize a13.length = na13 at *
  generalize a14.length = na14 at *
  go_enter Try.func9, Try.ntmps9
  go_wp2_with (first | (with_reducible refine wpl_here (W := W) (oA := (.cells #[.int .u8 a0, .int .u64 a1, .string a2, .string a3, .slice p1 na4 c1, .int .i64 a5, .string a6, .int .i64 a7, .slice p2 na8 c2, .int .i64 a9, .int .u64 a10, .slice p3 na11 c3, .slice p4 na12 c4, .slice p5 na13 c5, .slice p6 na14 c6, .int .u8 a15, .int .i64 a16, .int .i64 a17, .int .i64 a18] 34)) (oB := (.cells #[.int .u8 a0, .int .u64 a1, .string a2, .string a3, .slice q1 na4 d1, .int .i64 a5, .string a6, .int .i64 a7, .slice q2 na8 d2, .int .i64 a9, .int .u64 a10, .slice q3 na11 d3, .slice q4 na12 d4, .slice q5 na13 d5, .slice q6 na14 d6, .int .u8 b15, .int .i64 b16, .int .i64 b17, .int .i64 b18] 34)) ?_; intro W1 hW1; rw [← hW1] at HA0 HX0 HB0; clear hW1; have x0 : W1.cell? ⟨W.heap.size, 0, none⟩ = some (.int .u8 a0) := HA0.out.cell 0; have y0 : W1.cell? ⟨W.heap.size + 1, 0, none⟩ = some (.int .u8 a0) := HX0.out.cell 0; have x1 : W1.cell? ⟨W.heap.size, 1, none⟩ = some (.int .u64 a1) := HA0.out.cell 1; have y1 : W1.cell? ⟨W.heap.size + 1, 1, none⟩ = some (.int .u64 a1) := HX0.out.cell 1; have x2 : W1.cell? ⟨W.heap.size, 2, none⟩ = some (.string a2) := HA0.out.cell 2; have y2 : W1.cell? ⟨W.heap.size + 1, 2, none⟩ = some (.string a2) := HX0.out.cell 2; have x3 : W1.cell? ⟨W.heap.size, 3, none⟩ = some (.string a3) := HA0.out.cell 3; have y3 : W1.cell? ⟨W.heap.size + 1, 3, none⟩ = some (.string a3) := HX0.out.cell 3; have x4 : W1.cell? ⟨W.heap.size, 4, none⟩ = some (.slice p1 na4 c1) := HA0.out.cell 4; have y4 : W1.cell? ⟨W.heap.size + 1, 4, none⟩ = some (.slice q1 na4 d1) := HX0.out.cell 4) | (go_at_call 14; go_loud ((with_reducible refine (H1.out _ HB0.out).mono ?_); rintro e w1 ⟨rfl, hb1⟩; have HB1 := Lib.hid (HB0.out.step hb1); have HA1 := Lib.hid (HA0.out.below hb1); have HX1 := Lib.hid (HX0.out.below hb1); clear hb1; have x5 : w1.cell? ⟨W.heap.size, 5, none⟩ = some (.int .i64 a5) := HA1.out.cell 5; have y5 : w1.cell? ⟨W.heap.size + 1, 5, none⟩ = some (.int .i64 a5) := HX1.out.cell 5; have x6 : w1.cell? ⟨W.heap.size, 6, none⟩ = some (.string a6) := HA1.out.cell 6; have y6 : w1.cell? ⟨W.heap.size + 1, 6, none⟩ = some (.string a6) := HX1.out.cell 6; have x7 : w1.cell? ⟨W.heap.size, 7, none⟩ = some (.int .i64 a7) := HA1.out.cell 7; have y7 : w1.cell? ⟨W.heap.size + 1, 7, none⟩ = some (.int .i64 a7) := HX1.out.cell 7; have x8 : w1.cell? ⟨W.heap.size, 8, none⟩ = some (.slice p2 na8 c2) := HA1.out.cell 8; have y8 : w1.cell? ⟨W.heap.size + 1, 8, none⟩ = some (.slice q2 na8 d2) := HX1.out.cell 8; have x9 : w1.cell? ⟨W.heap.size, 9, none⟩ = some (.int .i64 a9) := HA1.out.cell 9; have y9 : w1.cell? ⟨W.heap.size + 1, 9, none⟩ = some (.int .i64 a9) := HX1.out.cell 9)) | (go_at_call 15; go_loud ((with_reducible refine (H2.out _ HB1.out).mono ?_); rintro e w2 ⟨rfl, hb2⟩; have HB2 := Lib.hid (HB1.out.step hb2); have HA2 := Lib.hid (HA1.out.below hb2); have HX2 := Lib.hid (HX1.out.below hb2); clear hb2; have x10 : w2.cell? ⟨W.heap.size, 10, none⟩ = some (.int .u64 a10) := HA2.out.cell 10; have y10 : w2.cell? ⟨W.heap.size + 1, 10, none⟩ = some (.int .u64 a10) := HX2.out.cell 10; have x11 : w2.cell? ⟨W.heap.size, 11, none⟩ = some (.slice p3 na11 c3) := HA2.out.cell 11; have y11 : w2.cell? ⟨W.heap.size + 1, 11, none⟩ = some (.slice q3 na11 d3) := HX2.out.cell 11)) | (go_at_call 16; go_loud ((with_reducible refine (H3.out _ HB2.out).mono ?_); rintro e w3 ⟨rfl, hb3⟩; have HB3 := Lib.hid (HB2.out.step hb3); have HA3 := Lib.hid (HA2.out.below hb3); have HX3 := Lib.hid (HX2.out.below hb3); clear hb3; have x12 : w3.cell? ⟨W.heap.size, 12, none⟩ = some (.slice p4 na12 c4) := HA3.out.cell 12; have y12 : w3.cell? ⟨W.heap.size + 1, 12, none⟩ = some (.slice q4 na12 d4) := HX3.out.cell 12)) | (go_at_call 17; go_loud ((with_reducible refine (H4.out _ HB3.out).mono ?_); rintro e w4 ⟨rfl, hb4⟩; have HB4 := Lib.hid (HB3.out.step hb4); have HA4 := Lib.hid (HA3.out.below hb4); have HX4 := Lib.hid (HX3.out.below hb4); clear hb4; have x13 : w4.cell? ⟨W.heap.size, 13, none⟩ = some (.slice p5 na13 c5) := HA4.out.cell 13; have y13 : w4.cell? ⟨W.heap.size + 1, 13, none⟩ = some (.slice q5 na13 d5) := HX4.out.cell 13)) | (go_at_call 18; go_loud ((with_reducible refine (H5.out _ HB4.out).mono ?_); rintro e w5 ⟨rfl, hb5⟩; have HB5 := Lib.hid (HB4.out.step hb5); have HA5 := Lib.hid (HA4.out.below hb5); have HX5 := Lib.hid (HX4.out.below hb5); clear hb5; have x14 : w5.cell? ⟨W.heap.size, 14, none⟩ = some (.slice p6 na14 c6) := HA5.out.cell 14; have y14 : w5.cell? ⟨W.heap.size + 1, 14, none⟩ = some (.slice q6 na14 d6) := HX5.out.cell 14)) | (go_at_call 19; go_loud ((with_reducible refine (H6.out _ HB5.out).mono ?_); rintro e w6 ⟨rfl, hb6⟩; have HB6 := Lib.hid (HB5.out.step hb6); have HA6 := Lib.hid (HA5.out.below hb6); have HX6 := Lib.hid (HX5.out.below hb6); clear hb6; have x15 : w6.cell? ⟨W.heap.size, 15, none⟩ = some (.int .u8 a15) := HA6.out.cell 15; have y15 : w6.cell? ⟨W.heap.size + 1, 15, none⟩ = some (.int .u8 b15) := HX6.out.cell 15)))
  go_ret
  exact ⟨rfl, HB6.out⟩
set_option maxRecDepth 100000 in
set_option maxHeartbeats 8000000 in
theorem same_c13_16 {a0 : Int} {a1 : Int} {a2 : ByteArray} {a3 : ByteArray} {a4 : List Int} {a5 : Int} {a6 : ByteArray} {a7 : Int} {a8 : List Int} {a9 : Int} {a10 : Int} {a11 : List En} {a12 : List Int} {a13 : List Nm} {a14 : List Int} {a15 : Int} {a16 : Int} {a17 : Int} {a18 : Int} {b16 : Int} {b17 : Int} {b18 : Int} {W : World} {B : Nat} {p1 p2 p3 p4 p5 p6 q1 q2 q3 q4 q5 q6 : Option Addr} {c1 c2 c3 c4 c5 c6 d1 d2 d3 d4 d5 d6 : Nat}
    (hv : MR W B (⟨a0, a1, a2, a3, a4, a5, ⟨a6, a7, a8, a9⟩, a10, a11, a12, a13, a14, a15, ⟨a16, a17⟩, a18⟩ : M) ⟨.slice p1 a4.length c1, .slice p2 a8.length c2, .slice p3 a11.length c3, .slice p4 a12.length c4, .slice p5 a13.length c5, .slice p6 a14.length c6⟩) (hu : MR W B (⟨a0, a1, a2, a3, a4, a5, ⟨a6, a7, a8, a9⟩, a10, a11, a12, a13, a14, a15, ⟨b16, b17⟩, b18⟩ : M) ⟨.slice q1 a4.length d1, .slice q2 a8.length d2, .slice q3 a11.length d3, .slice q4 a12.length d4, .slice q5 a13.length d5, .slice q6 a14.length d6⟩) (hB : B ≤ W.heap.size) (hl : Lite (⟨a0, a1, a2, a3, a4, a5, ⟨a6, a7, a8, a9⟩, a10, a11, a12, a13, a14, a15, ⟨a16, a17⟩, a18⟩ : M)) (hne : ¬ a16 = b16) :
    Calls Try.prog 9 #[.agg #[.int .u8 a0, .int .u64 a1, .string a2, .string a3, .slice p1 a4.length c1, .int .i64 a5, .string a6, .int .i64 a7, .slice p2 a8.length c2, .int .i64 a9, .int .u64 a10, .slice p3 a11.length c3, .slice p4 a12.length c4, .slice p5 a13.length c5, .slice p6 a14.length c6, .int .u8 a15, .int .i64 a16, .int .i64 a17, .int .i64 a18], .agg #[.int .u8 a0, .int .u64 a1, .string a2, .string a3, .slice q1 a4.length d1, .int .i64 a5, .string a6, .int .i64 a7, .slice q2 a8.length d2, .int .i64 a9, .int .u64 a10, .slice q3 a11.length d3, .slice q4 a12.length d4, .slice q5 a13.length d5, .slice q6 a14.length d6, .int .u8 a15, .int .i64 b16, .int .i64 b17, .int .i64 b18]] W (EqP false W) := by
  have H1 := Lib.hid (show ∀ w, Below W.heap.size W w → Calls Try.prog 14 #[.slice p1 a4.length c1, .slice q1 a4.length d1] w (EqP true w) from fun w hb => by
    have h := eq_int ((hv.keep fun b o x hlt hx => Below.cellq hb (by omega) hx).ri) ((hu.keep fun b o x hlt hx => Below.cellq hb (by omega) hx).ri) (Nat.le_trans hB hb.size) (by have := hl.input; omega)
    rw [decide_eq_true rfl] at h; exact h)
  have H2 := Lib.hid (show ∀ w, Below W.heap.size W w → Calls Try.prog 15 #[.agg #[.string a6, .int .i64 a7, .slice p2 a8.length c2, .int .i64 a9], .agg #[.string a6, .int .i64 a7, .slice q2 a8.length d2, .int .i64 a9]] w (EqP true w) from fun w hb => by
    have h := tsk_any (t := (⟨a6, a7, a8, a9⟩ : Tk)) (u := (⟨a6, a7, a8, a9⟩ : Tk)) ((hv.keep fun b o x hlt hx => Below.cellq hb (by omega) hx).ra) ((hu.keep fun b o x hlt hx => Below.cellq hb (by omega) hx).ra) (Nat.le_trans hB hb.size) (hl.args)
    rw [decide_eq_true rfl] at h; exact h)
  have H3 := Lib.hid (show ∀ w, Below W.heap.size W w → Calls Try.prog 16 #[.slice p3 a11.length c3, .slice q3 a11.length d3] w (EqP true w) from fun w hb => by
    have h := eq_en ((hv.keep fun b o x hlt hx => Below.cellq hb (by omega) hx).rn) ((hu.keep fun b o x hlt hx => Below.cellq hb (by omega) hx).rn) (Nat.le_trans hB hb.size) (by have := hl.ents.1; omega)
    rw [decide_eq_true rfl] at h; exact h)
  have H4 := Lib.hid (show ∀ w, Below W.heap.size W w → Calls Try.prog 17 #[.slice p4 a12.length c4, .slice q4 a12.length d4] w (EqP true w) from fun w hb => by
    have h := eq_u64 ((hv.keep fun b o x hlt hx => Below.cellq hb (by omega) hx).rh) ((hu.keep fun b o x hlt hx => Below.cellq hb (by omega) hx).rh) (Nat.le_trans hB hb.size) (by have := hl.epochs; omega)
    rw [decide_eq_true rfl] at h; exact h)
  have H5 := Lib.hid (show ∀ w, Below W.heap.size W w → Calls Try.prog 18 #[.slice p5 a13.length c5, .slice q5 a13.length d5] w (EqP true w) from fun w hb => by
    have h := eq_nm ((hv.keep fun b o x hlt hx => Below.cellq hb (by omega) hx).rm) ((hu.keep fun b o x hlt hx => Below.cellq hb (by omega) hx).rm) (Nat.le_trans hB hb.size) (by have := hl.names.1; omega)
    rw [decide_eq_true rfl] at h; exact h)
  have H6 := Lib.hid (show ∀ w, Below W.heap.size W w → Calls Try.prog 19 #[.slice p6 a14.length c6, .slice q6 a14.length d6] w (EqP true w) from fun w hb => by
    have h := eq_err ((hv.keep fun b o x hlt hx => Below.cellq hb (by omega) hx).rc) ((hu.keep fun b o x hlt hx => Below.cellq hb (by omega) hx).rc) (Nat.le_trans hB hb.size) (by have := hl.codes; omega)
    rw [decide_eq_true rfl] at h; exact h)
  have HB0 := Lib.hid (((Below.refl _ W).alloc (Nat.le_refl _) (.cells #[.int .u8 a0, .int .u64 a1, .string a2, .string a3, .slice p1 a4.length c1, .int .i64 a5, .string a6, .int .i64 a7, .slice p2 a8.length c2, .int .i64 a9, .int .u64 a10, .slice p3 a11.length c3, .slice p4 a12.length c4, .slice p5 a13.length c5, .slice p6 a14.length c6, .int .u8 a15, .int .i64 a16, .int .i64 a17, .int .i64 a18] 34)).alloc (by simp) (.cells #[.int .u8 a0, .int .u64 a1, .string a2, .string a3, .slice q1 a4.length d1, .int .i64 a5, .string a6, .int .i64 a7, .slice q2 a8.length d2, .int .i64 a9, .int .u64 a10, .slice q3 a11.length d3, .slice q4 a12.length d4, .slice q5 a13.length d5, .slice q6 a14.length d6, .int .u8 a15, .int .i64 b16, .int .i64 b17, .int .i64 b18] 34))
  have HA0 := Lib.hid ((Blk.new W 34 #[.int .u8 a0, .int .u64 a1, .string a2, .string a3, .slice p1 a4.length c1, .int .i64 a5, .string a6, .int .i64 a7, .slice p2 a8.length c2, .int .i64 a9, .int .u64 a10, .slice p3 a11.length c3, .slice p4 a12.length c4, .slice p5 a13.length c5, .slice p6 a14.length c6, .int .u8 a15, .int .i64 a16, .int .i64 a17, .int .i64 a18]).alloc (.cells #[.int .u8 a0, .int .u64 a1, .string a2, .string a3, .slice q1 a4.length d1, .int .i64 a5, .string a6, .int .i64 a7, .slice q2 a8.length d2, .int .i64 a9, .int .u64 a10, .slice q3 a11.length d3, .slice q4 a12.length d4, .slice q5 a13.length d5, .slice q6 a14.length d6, .int .u8 a15, .int .i64 b16, .int .i64 b17, .int .i64 b18] 34))
  have HX0 := Lib.hid (blk_new1 W (.cells #[.int .u8 a0, .int .u64 a1, .string a2, .string a3, .slice p1 a4.length c1, .int .i64 a5, .string a6, .int .i64 a7, .slice p2 a8.length c2, .int .i64 a9, .int .u64 a10, .slice p3 a11.length c3, .slice p4 a12.length c4, .slice p5 a13.length c5, .slice p6 a14.length c6, .int .u8 a15, .int .i64 a16, .int .i64 a17, .int .i64 a18] 34) 34 #[.int .u8 a0, .int .u64 a1, .string a2, .string a3, .slice q1 a4.length d1, .int .i64 a5, .string a6, .int .i64 a7, .slice q2 a8.length d2, .int .i64 a9, .int .u64 a10, .slice q3 a11.length d3, .slice q4 a12.length d4, .slice q5 a13.length d5, .slice q6 a14.length d6, .int .u8 a15, .int .i64 b16, .int .i64 b17, .int .i64 b18])
  have hs2 := str_of (a := a2) rfl
  have hs3 := str_of (a := a3) rfl
  have hb' : (a16 == b16) = false := by simpa using hne
  clear hv hu hl hB hne
  generalize a4.length = na4 at *
  generalize a8.length = na8 at *
  generalize a11.length = na11 at *
  generalize a12.length = na12 at *
  generalize a13.length = na13 at *
  generalize a14.length = na14 at *
  go_enter Try.func9, Try.ntmps9
  go_wp2_with (first | (with_reducible refine wpl_here (W := W) (oA := (.cells #[.int .u8 a0, .int .u64 a1, .string a2, .string a3, .slice p1 na4 c1, .int .i64 a5, .string a6, .int .i64 a7, .slice p2 na8 c2, .int .i64 a9, .int .u64 a10, .slice p3 na11 c3, .slice p4 na12 c4, .slice p5 na13 c5, .slice p6 na14 c6, .int .u8 a15, .int .i64 a16, .int .i64 a17, .int .i64 a18] 34)) (oB := (.cells #[.int .u8 a0, .int .u64 a1, .string a2, .string a3, .slice q1 na4 d1, .int .i64 a5, .string a6, .int .i64 a7, .slice q2 na8 d2, .int .i64 a9, .int .u64 a10, .slice q3 na11 d3, .slice q4 na12 d4, .slice q5 na13 d5, .slice q6 na14 d6, .int .u8 a15, .int .i64 b16, .int .i64 b17, .int .i64 b18] 34)) ?_; intro W1 hW1; rw [← hW1] at HA0 HX0 HB0; clear hW1; have x0 : W1.cell? ⟨W.heap.size, 0, none⟩ = some (.int .u8 a0) := HA0.out.cell 0; have y0 : W1.cell? ⟨W.heap.size + 1, 0, none⟩ = some (.int .u8 a0) := HX0.out.cell 0; have x1 : W1.cell? ⟨W.heap.size, 1, none⟩ = some (.int .u64 a1) := HA0.out.cell 1; have y1 : W1.cell? ⟨W.heap.size + 1, 1, none⟩ = some (.int .u64 a1) := HX0.out.cell 1; have x2 : W1.cell? ⟨W.heap.size, 2, none⟩ = some (.string a2) := HA0.out.cell 2; have y2 : W1.cell? ⟨W.heap.size + 1, 2, none⟩ = some (.string a2) := HX0.out.cell 2; have x3 : W1.cell? ⟨W.heap.size, 3, none⟩ = some (.string a3) := HA0.out.cell 3; have y3 : W1.cell? ⟨W.heap.size + 1, 3, none⟩ = some (.string a3) := HX0.out.cell 3; have x4 : W1.cell? ⟨W.heap.size, 4, none⟩ = some (.slice p1 na4 c1) := HA0.out.cell 4; have y4 : W1.cell? ⟨W.heap.size + 1, 4, none⟩ = some (.slice q1 na4 d1) := HX0.out.cell 4) | (go_at_call 14; go_loud ((with_reducible refine (H1.out _ HB0.out).mono ?_); rintro e w1 ⟨rfl, hb1⟩; have HB1 := Lib.hid (HB0.out.step hb1); have HA1 := Lib.hid (HA0.out.below hb1); have HX1 := Lib.hid (HX0.out.below hb1); clear hb1; have x5 : w1.cell? ⟨W.heap.size, 5, none⟩ = some (.int .i64 a5) := HA1.out.cell 5; have y5 : w1.cell? ⟨W.heap.size + 1, 5, none⟩ = some (.int .i64 a5) := HX1.out.cell 5; have x6 : w1.cell? ⟨W.heap.size, 6, none⟩ = some (.string a6) := HA1.out.cell 6; have y6 : w1.cell? ⟨W.heap.size + 1, 6, none⟩ = some (.string a6) := HX1.out.cell 6; have x7 : w1.cell? ⟨W.heap.size, 7, none⟩ = some (.int .i64 a7) := HA1.out.cell 7; have y7 : w1.cell? ⟨W.heap.size + 1, 7, none⟩ = some (.int .i64 a7) := HX1.out.cell 7; have x8 : w1.cell? ⟨W.heap.size, 8, none⟩ = some (.slice p2 na8 c2) := HA1.out.cell 8; have y8 : w1.cell? ⟨W.heap.size + 1, 8, none⟩ = some (.slice q2 na8 d2) := HX1.out.cell 8; have x9 : w1.cell? ⟨W.heap.size, 9, none⟩ = some (.int .i64 a9) := HA1.out.cell 9; have y9 : w1.cell? ⟨W.heap.size + 1, 9, none⟩ = some (.int .i64 a9) := HX1.out.cell 9)) | (go_at_call 15; go_loud ((with_reducible refine (H2.out _ HB1.out).mono ?_); rintro e w2 ⟨rfl, hb2⟩; have HB2 := Lib.hid (HB1.out.step hb2); have HA2 := Lib.hid (HA1.out.below hb2); have HX2 := Lib.hid (HX1.out.below hb2); clear hb2; have x10 : w2.cell? ⟨W.heap.size, 10, none⟩ = some (.int .u64 a10) := HA2.out.cell 10; have y10 : w2.cell? ⟨W.heap.size + 1, 10, none⟩ = some (.int .u64 a10) := HX2.out.cell 10; have x11 : w2.cell? ⟨W.heap.size, 11, none⟩ = some (.slice p3 na11 c3) := HA2.out.cell 11; have y11 : w2.cell? ⟨W.heap.size + 1, 11, none⟩ = some (.slice q3 na11 d3) := HX2.out.cell 11)) | (go_at_call 16; go_loud ((with_reducible refine (H3.out _ HB2.out).mono ?_); rintro e w3 ⟨rfl, hb3⟩; have HB3 := Lib.hid (HB2.out.step hb3); have HA3 := Lib.hid (HA2.out.below hb3); have HX3 := Lib.hid (HX2.out.below hb3); clear hb3; have x12 : w3.cell? ⟨W.heap.size, 12, none⟩ = some (.slice p4 na12 c4) := HA3.out.cell 12; have y12 : w3.cell? ⟨W.heap.size + 1, 12, none⟩ = some (.slice q4 na12 d4) := HX3.out.cell 12)) | (go_at_call 17; go_loud ((with_reducible refine (H4.out _ HB3.out).mono ?_); rintro e w4 ⟨rfl, hb4⟩; have HB4 := Lib.hid (HB3.out.step hb4); have HA4 := Lib.hid (HA3.out.below hb4); have HX4 := Lib.hid (HX3.out.below hb4); clear hb4; have x13 : w4.cell? ⟨W.heap.size, 13, none⟩ = some (.slice p5 na13 c5) := HA4.out.cell 13; have y13 : w4.cell? ⟨W.heap.size + 1, 13, none⟩ = some (.slice q5 na13 d5) := HX4.out.cell 13)) | (go_at_call 18; go_loud ((with_reducible refine (H5.out _ HB4.out).mono ?_); rintro e w5 ⟨rfl, hb5⟩; have HB5 := Lib.hid (HB4.out.step hb5); have HA5 := Lib.hid (HA4.out.below hb5); have HX5 := Lib.hid (HX4.out.below hb5); clear hb5; have x14 : w5.cell? ⟨W.heap.size, 14, none⟩ = some (.slice p6 na14 c6) := HA5.out.cell 14; have y14 : w5.cell? ⟨W.heap.size + 1, 14, none⟩ = some (.slice q6 na14 d6) := HX5.out.cell 14)) | (go_at_call 19; go_loud ((with_reducible refine (H6.out _ HB5.out).mono ?_); rintro e w6 ⟨rfl, hb6⟩; have HB6 := Lib.hid (HB5.out.step hb6); have HA6 := Lib.hid (HA5.out.below hb6); have HX6 := Lib.hid (HX5.out.below hb6); clear hb6; have x15 : w6.cell? ⟨W.heap.size, 15, none⟩ = some (.int .u8 a15) := HA6.out.cell 15; have y15 : w6.cell? ⟨W.heap.size + 1, 15, none⟩ = some (.int .u8 a15) := HX6.out.cell 15; have x16 : w6.cell? ⟨W.heap.size, 16, none⟩ = some (.int .i64 a16) := HA6.out.cell 16; have y16 : w6.cell? ⟨W.heap.size + 1, 16, none⟩ = some (.int .i64 b16) := HX6.out.cell 16; have x17 : w6.cell? ⟨W.heap.size, 17, none⟩ = some (.int .i64 a17) := HA6.out.cell 17; have y17 : w6.cell? ⟨W.heap.size + 1, 17, none⟩ = some (.int .i64 b17) := HX6.out.cell 17)))
  go_ret
  exact ⟨rfl, HB6.out⟩
set_option maxRecDepth 100000 in
set_option maxHeartbeats 8000000 in
theorem same_c13_17 {a0 : Int} {a1 : Int} {a2 : ByteArray} {a3 : ByteArray} {a4 : List Int} {a5 : Int} {a6 : ByteArray} {a7 : Int} {a8 : List Int} {a9 : Int} {a10 : Int} {a11 : List En} {a12 : List Int} {a13 : List Nm} {a14 : List Int} {a15 : Int} {a16 : Int} {a17 : Int} {a18 : Int} {b17 : Int} {b18 : Int} {W : World} {B : Nat} {p1 p2 p3 p4 p5 p6 q1 q2 q3 q4 q5 q6 : Option Addr} {c1 c2 c3 c4 c5 c6 d1 d2 d3 d4 d5 d6 : Nat}
    (hv : MR W B (⟨a0, a1, a2, a3, a4, a5, ⟨a6, a7, a8, a9⟩, a10, a11, a12, a13, a14, a15, ⟨a16, a17⟩, a18⟩ : M) ⟨.slice p1 a4.length c1, .slice p2 a8.length c2, .slice p3 a11.length c3, .slice p4 a12.length c4, .slice p5 a13.length c5, .slice p6 a14.length c6⟩) (hu : MR W B (⟨a0, a1, a2, a3, a4, a5, ⟨a6, a7, a8, a9⟩, a10, a11, a12, a13, a14, a15, ⟨a16, b17⟩, b18⟩ : M) ⟨.slice q1 a4.length d1, .slice q2 a8.length d2, .slice q3 a11.length d3, .slice q4 a12.length d4, .slice q5 a13.length d5, .slice q6 a14.length d6⟩) (hB : B ≤ W.heap.size) (hl : Lite (⟨a0, a1, a2, a3, a4, a5, ⟨a6, a7, a8, a9⟩, a10, a11, a12, a13, a14, a15, ⟨a16, a17⟩, a18⟩ : M)) (hne : ¬ a17 = b17) :
    Calls Try.prog 9 #[.agg #[.int .u8 a0, .int .u64 a1, .string a2, .string a3, .slice p1 a4.length c1, .int .i64 a5, .string a6, .int .i64 a7, .slice p2 a8.length c2, .int .i64 a9, .int .u64 a10, .slice p3 a11.length c3, .slice p4 a12.length c4, .slice p5 a13.length c5, .slice p6 a14.length c6, .int .u8 a15, .int .i64 a16, .int .i64 a17, .int .i64 a18], .agg #[.int .u8 a0, .int .u64 a1, .string a2, .string a3, .slice q1 a4.length d1, .int .i64 a5, .string a6, .int .i64 a7, .slice q2 a8.length d2, .int .i64 a9, .int .u64 a10, .slice q3 a11.length d3, .slice q4 a12.length d4, .slice q5 a13.length d5, .slice q6 a14.length d6, .int .u8 a15, .int .i64 a16, .int .i64 b17, .int .i64 b18]] W (EqP false W) := by
  have H1 := Lib.hid (show ∀ w, Below W.heap.size W w → Calls Try.prog 14 #[.slice p1 a4.length c1, .slice q1 a4.length d1] w (EqP true w) from fun w hb => by
    have h := eq_int ((hv.keep fun b o x hlt hx => Below.cellq hb (by omega) hx).ri) ((hu.keep fun b o x hlt hx => Below.cellq hb (by omega) hx).ri) (Nat.le_trans hB hb.size) (by have := hl.input; omega)
    rw [decide_eq_true rfl] at h; exact h)
  have H2 := Lib.hid (show ∀ w, Below W.heap.size W w → Calls Try.prog 15 #[.agg #[.string a6, .int .i64 a7, .slice p2 a8.length c2, .int .i64 a9], .agg #[.string a6, .int .i64 a7, .slice q2 a8.length d2, .int .i64 a9]] w (EqP true w) from fun w hb => by
    have h := tsk_any (t := (⟨a6, a7, a8, a9⟩ : Tk)) (u := (⟨a6, a7, a8, a9⟩ : Tk)) ((hv.keep fun b o x hlt hx => Below.cellq hb (by omega) hx).ra) ((hu.keep fun b o x hlt hx => Below.cellq hb (by omega) hx).ra) (Nat.le_trans hB hb.size) (hl.args)
    rw [decide_eq_true rfl] at h; exact h)
  have H3 := Lib.hid (show ∀ w, Below W.heap.size W w → Calls Try.prog 16 #[.slice p3 a11.length c3, .slice q3 a11.length d3] w (EqP true w) from fun w hb => by
    have h := eq_en ((hv.keep fun b o x hlt hx => Below.cellq hb (by omega) hx).rn) ((hu.keep fun b o x hlt hx => Below.cellq hb (by omega) hx).rn) (Nat.le_trans hB hb.size) (by have := hl.ents.1; omega)
    rw [decide_eq_true rfl] at h; exact h)
  have H4 := Lib.hid (show ∀ w, Below W.heap.size W w → Calls Try.prog 17 #[.slice p4 a12.length c4, .slice q4 a12.length d4] w (EqP true w) from fun w hb => by
    have h := eq_u64 ((hv.keep fun b o x hlt hx => Below.cellq hb (by omega) hx).rh) ((hu.keep fun b o x hlt hx => Below.cellq hb (by omega) hx).rh) (Nat.le_trans hB hb.size) (by have := hl.epochs; omega)
    rw [decide_eq_true rfl] at h; exact h)
  have H5 := Lib.hid (show ∀ w, Below W.heap.size W w → Calls Try.prog 18 #[.slice p5 a13.length c5, .slice q5 a13.length d5] w (EqP true w) from fun w hb => by
    have h := eq_nm ((hv.keep fun b o x hlt hx => Below.cellq hb (by omega) hx).rm) ((hu.keep fun b o x hlt hx => Below.cellq hb (by omega) hx).rm) (Nat.le_trans hB hb.size) (by have := hl.names.1; omega)
    rw [decide_eq_true rfl] at h; exact h)
  have H6 := Lib.hid (show ∀ w, Below W.heap.size W w → Calls Try.prog 19 #[.slice p6 a14.length c6, .slice q6 a14.length d6] w (EqP true w) from fun w hb => by
    have h := eq_err ((hv.keep fun b o x hlt hx => Below.cellq hb (by omega) hx).rc) ((hu.keep fun b o x hlt hx => Below.cellq hb (by omega) hx).rc) (Nat.le_trans hB hb.size) (by have := hl.codes; omega)
    rw [decide_eq_true rfl] at h; exact h)
  have HB0 := Lib.hid (((Below.refl _ W).alloc (Nat.le_refl _) (.cells #[.int .u8 a0, .int .u64 a1, .string a2, .string a3, .slice p1 a4.length c1, .int .i64 a5, .string a6, .int .i64 a7, .slice p2 a8.length c2, .int .i64 a9, .int .u64 a10, .slice p3 a11.length c3, .slice p4 a12.length c4, .slice p5 a13.length c5, .slice p6 a14.length c6, .int .u8 a15, .int .i64 a16, .int .i64 a17, .int .i64 a18] 34)).alloc (by simp) (.cells #[.int .u8 a0, .int .u64 a1, .string a2, .string a3, .slice q1 a4.length d1, .int .i64 a5, .string a6, .int .i64 a7, .slice q2 a8.length d2, .int .i64 a9, .int .u64 a10, .slice q3 a11.length d3, .slice q4 a12.length d4, .slice q5 a13.length d5, .slice q6 a14.length d6, .int .u8 a15, .int .i64 a16, .int .i64 b17, .int .i64 b18] 34))
  have HA0 := Lib.hid ((Blk.new W 34 #[.int .u8 a0, .int .u64 a1, .string a2, .string a3, .slice p1 a4.length c1, .int .i64 a5, .string a6, .int .i64 a7, .slice p2 a8.length c2, .int .i64 a9, .int .u64 a10, .slice p3 a11.length c3, .slice p4 a12.length c4, .slice p5 a13.length c5, .slice p6 a14.length c6, .int .u8 a15, .int .i64 a16, .int .i64 a17, .int .i64 a18]).alloc (.cells #[.int .u8 a0, .int .u64 a1, .string a2, .string a3, .slice q1 a4.length d1, .int .i64 a5, .string a6, .int .i64 a7, .slice q2 a8.length d2, .int .i64 a9, .int .u64 a10, .slice q3 a11.length d3, .slice q4 a12.length d4, .slice q5 a13.length d5, .slice q6 a14.length d6, .int .u8 a15, .int .i64 a16, .int .i64 b17, .int .i64 b18] 34))
  have HX0 := Lib.hid (blk_new1 W (.cells #[.int .u8 a0, .int .u64 a1, .string a2, .string a3, .slice p1 a4.length c1, .int .i64 a5, .string a6, .int .i64 a7, .slice p2 a8.length c2, .int .i64 a9, .int .u64 a10, .slice p3 a11.length c3, .slice p4 a12.length c4, .slice p5 a13.length c5, .slice p6 a14.length c6, .int .u8 a15, .int .i64 a16, .int .i64 a17, .int .i64 a18] 34) 34 #[.int .u8 a0, .int .u64 a1, .string a2, .string a3, .slice q1 a4.length d1, .int .i64 a5, .string a6, .int .i64 a7, .slice q2 a8.length d2, .int .i64 a9, .int .u64 a10, .slice q3 a11.length d3, .slice q4 a12.length d4, .slice q5 a13.length d5, .slice q6 a14.length d6, .int .u8 a15, .int .i64 a16, .int .i64 b17, .int .i64 b18])
  have hs2 := str_of (a := a2) rfl
  have hs3 := str_of (a := a3) rfl
  have hb' : (a17 == b17) = false := by simpa using hne
  clear hv hu hl hB hne
  generalize a4.length = na4 at *
  generalize a8.length = na8 at *
  generalize a11.length = na11 at *
  generalize a12.length = na12 at *
  generalize a13.length = na13 at *
  generalize a14.length = na14 at *
  go_enter Try.func9, Try.ntmps9
  go_wp2_with (first | (with_reducible refine wpl_here (W := W) (oA := (.cells #[.int .u8 a0, .int .u64 a1, .string a2, .string a3, .slice p1 na4 c1, .int .i64 a5, .string a6, .int .i64 a7, .slice p2 na8 c2, .int .i64 a9, .int .u64 a10, .slice p3 na11 c3, .slice p4 na12 c4, .slice p5 na13 c5, .slice p6 na14 c6, .int .u8 a15, .int .i64 a16, .int .i64 a17, .int .i64 a18] 34)) (oB := (.cells #[.int .u8 a0, .int .u64 a1, .string a2, .string a3, .slice q1 na4 d1, .int .i64 a5, .string a6, .int .i64 a7, .slice q2 na8 d2, .int .i64 a9, .int .u64 a10, .slice q3 na11 d3, .slice q4 na12 d4, .slice q5 na13 d5, .slice q6 na14 d6, .int .u8 a15, .int .i64 a16, .int .i64 b17, .int .i64 b18] 34)) ?_; intro W1 hW1; rw [← hW1] at HA0 HX0 HB0; clear hW1; have x0 : W1.cell? ⟨W.heap.size, 0, none⟩ = some (.int .u8 a0) := HA0.out.cell 0; have y0 : W1.cell? ⟨W.heap.size + 1, 0, none⟩ = some (.int .u8 a0) := HX0.out.cell 0; have x1 : W1.cell? ⟨W.heap.size, 1, none⟩ = some (.int .u64 a1) := HA0.out.cell 1; have y1 : W1.cell? ⟨W.heap.size + 1, 1, none⟩ = some (.int .u64 a1) := HX0.out.cell 1; have x2 : W1.cell? ⟨W.heap.size, 2, none⟩ = some (.string a2) := HA0.out.cell 2; have y2 : W1.cell? ⟨W.heap.size + 1, 2, none⟩ = some (.string a2) := HX0.out.cell 2; have x3 : W1.cell? ⟨W.heap.size, 3, none⟩ = some (.string a3) := HA0.out.cell 3; have y3 : W1.cell? ⟨W.heap.size + 1, 3, none⟩ = some (.string a3) := HX0.out.cell 3; have x4 : W1.cell? ⟨W.heap.size, 4, none⟩ = some (.slice p1 na4 c1) := HA0.out.cell 4; have y4 : W1.cell? ⟨W.heap.size + 1, 4, none⟩ = some (.slice q1 na4 d1) := HX0.out.cell 4) | (go_at_call 14; go_loud ((with_reducible refine (H1.out _ HB0.out).mono ?_); rintro e w1 ⟨rfl, hb1⟩; have HB1 := Lib.hid (HB0.out.step hb1); have HA1 := Lib.hid (HA0.out.below hb1); have HX1 := Lib.hid (HX0.out.below hb1); clear hb1; have x5 : w1.cell? ⟨W.heap.size, 5, none⟩ = some (.int .i64 a5) := HA1.out.cell 5; have y5 : w1.cell? ⟨W.heap.size + 1, 5, none⟩ = some (.int .i64 a5) := HX1.out.cell 5; have x6 : w1.cell? ⟨W.heap.size, 6, none⟩ = some (.string a6) := HA1.out.cell 6; have y6 : w1.cell? ⟨W.heap.size + 1, 6, none⟩ = some (.string a6) := HX1.out.cell 6; have x7 : w1.cell? ⟨W.heap.size, 7, none⟩ = some (.int .i64 a7) := HA1.out.cell 7; have y7 : w1.cell? ⟨W.heap.size + 1, 7, none⟩ = some (.int .i64 a7) := HX1.out.cell 7; have x8 : w1.cell? ⟨W.heap.size, 8, none⟩ = some (.slice p2 na8 c2) := HA1.out.cell 8; have y8 : w1.cell? ⟨W.heap.size + 1, 8, none⟩ = some (.slice q2 na8 d2) := HX1.out.cell 8; have x9 : w1.cell? ⟨W.heap.size, 9, none⟩ = some (.int .i64 a9) := HA1.out.cell 9; have y9 : w1.cell? ⟨W.heap.size + 1, 9, none⟩ = some (.int .i64 a9) := HX1.out.cell 9)) | (go_at_call 15; go_loud ((with_reducible refine (H2.out _ HB1.out).mono ?_); rintro e w2 ⟨rfl, hb2⟩; have HB2 := Lib.hid (HB1.out.step hb2); have HA2 := Lib.hid (HA1.out.below hb2); have HX2 := Lib.hid (HX1.out.below hb2); clear hb2; have x10 : w2.cell? ⟨W.heap.size, 10, none⟩ = some (.int .u64 a10) := HA2.out.cell 10; have y10 : w2.cell? ⟨W.heap.size + 1, 10, none⟩ = some (.int .u64 a10) := HX2.out.cell 10; have x11 : w2.cell? ⟨W.heap.size, 11, none⟩ = some (.slice p3 na11 c3) := HA2.out.cell 11; have y11 : w2.cell? ⟨W.heap.size + 1, 11, none⟩ = some (.slice q3 na11 d3) := HX2.out.cell 11)) | (go_at_call 16; go_loud ((with_reducible refine (H3.out _ HB2.out).mono ?_); rintro e w3 ⟨rfl, hb3⟩; have HB3 := Lib.hid (HB2.out.step hb3); have HA3 := Lib.hid (HA2.out.below hb3); have HX3 := Lib.hid (HX2.out.below hb3); clear hb3; have x12 : w3.cell? ⟨W.heap.size, 12, none⟩ = some (.slice p4 na12 c4) := HA3.out.cell 12; have y12 : w3.cell? ⟨W.heap.size + 1, 12, none⟩ = some (.slice q4 na12 d4) := HX3.out.cell 12)) | (go_at_call 17; go_loud ((with_reducible refine (H4.out _ HB3.out).mono ?_); rintro e w4 ⟨rfl, hb4⟩; have HB4 := Lib.hid (HB3.out.step hb4); have HA4 := Lib.hid (HA3.out.below hb4); have HX4 := Lib.hid (HX3.out.below hb4); clear hb4; have x13 : w4.cell? ⟨W.heap.size, 13, none⟩ = some (.slice p5 na13 c5) := HA4.out.cell 13; have y13 : w4.cell? ⟨W.heap.size + 1, 13, none⟩ = some (.slice q5 na13 d5) := HX4.out.cell 13)) | (go_at_call 18; go_loud ((with_reducible refine (H5.out _ HB4.out).mono ?_); rintro e w5 ⟨rfl, hb5⟩; have HB5 := Lib.hid (HB4.out.step hb5); have HA5 := Lib.hid (HA4.out.below hb5); have HX5 := Lib.hid (HX4.out.below hb5); clear hb5; have x14 : w5.cell? ⟨W.heap.size, 14, none⟩ = some (.slice p6 na14 c6) := HA5.out.cell 14; have y14 : w5.cell? ⟨W.heap.size + 1, 14, none⟩ = some (.slice q6 na14 d6) := HX5.out.cell 14)) | (go_at_call 19; go_loud ((with_reducible refine (H6.out _ HB5.out).mono ?_); rintro e w6 ⟨rfl, hb6⟩; have HB6 := Lib.hid (HB5.out.step hb6); have HA6 := Lib.hid (HA5.out.below hb6); have HX6 := Lib.hid (HX5.out.below hb6); clear hb6; have x15 : w6.cell? ⟨W.heap.size, 15, none⟩ = some (.int .u8 a15) := HA6.out.cell 15; have y15 : w6.cell? ⟨W.heap.size + 1, 15, none⟩ = some (.int .u8 a15) := HX6.out.cell 15; have x16 : w6.cell? ⟨W.heap.size, 16, none⟩ = some (.int .i64 a16) := HA6.out.cell 16; have y16 : w6.cell? ⟨W.heap.size + 1, 16, none⟩ = some (.int .i64 a16) := HX6.out.cell 16; have x17 : w6.cell? ⟨W.heap.size, 17, none⟩ = some (.int .i64 a17) := HA6.out.cell 17; have y17 : w6.cell? ⟨W.heap.size + 1, 17, none⟩ = some (.int .i64 b17) := HX6.out.cell 17)))
  go_ret
  exact ⟨rfl, HB6.out⟩
set_option maxRecDepth 100000 in
set_option maxHeartbeats 8000000 in
theorem same_c14 {a0 : Int} {a1 : Int} {a2 : ByteArray} {a3 : ByteArray} {a4 : List Int} {a5 : Int} {a6 : ByteArray} {a7 : Int} {a8 : List Int} {a9 : Int} {a10 : Int} {a11 : List En} {a12 : List Int} {a13 : List Nm} {a14 : List Int} {a15 : Int} {a16 : Int} {a17 : Int} {a18 : Int} {b18 : Int} {W : World} {B : Nat} {p1 p2 p3 p4 p5 p6 q1 q2 q3 q4 q5 q6 : Option Addr} {c1 c2 c3 c4 c5 c6 d1 d2 d3 d4 d5 d6 : Nat}
    (hv : MR W B (⟨a0, a1, a2, a3, a4, a5, ⟨a6, a7, a8, a9⟩, a10, a11, a12, a13, a14, a15, ⟨a16, a17⟩, a18⟩ : M) ⟨.slice p1 a4.length c1, .slice p2 a8.length c2, .slice p3 a11.length c3, .slice p4 a12.length c4, .slice p5 a13.length c5, .slice p6 a14.length c6⟩) (hu : MR W B (⟨a0, a1, a2, a3, a4, a5, ⟨a6, a7, a8, a9⟩, a10, a11, a12, a13, a14, a15, ⟨a16, a17⟩, b18⟩ : M) ⟨.slice q1 a4.length d1, .slice q2 a8.length d2, .slice q3 a11.length d3, .slice q4 a12.length d4, .slice q5 a13.length d5, .slice q6 a14.length d6⟩) (hB : B ≤ W.heap.size) (hl : Lite (⟨a0, a1, a2, a3, a4, a5, ⟨a6, a7, a8, a9⟩, a10, a11, a12, a13, a14, a15, ⟨a16, a17⟩, a18⟩ : M)) (hne : ¬ a18 = b18) :
    Calls Try.prog 9 #[.agg #[.int .u8 a0, .int .u64 a1, .string a2, .string a3, .slice p1 a4.length c1, .int .i64 a5, .string a6, .int .i64 a7, .slice p2 a8.length c2, .int .i64 a9, .int .u64 a10, .slice p3 a11.length c3, .slice p4 a12.length c4, .slice p5 a13.length c5, .slice p6 a14.length c6, .int .u8 a15, .int .i64 a16, .int .i64 a17, .int .i64 a18], .agg #[.int .u8 a0, .int .u64 a1, .string a2, .string a3, .slice q1 a4.length d1, .int .i64 a5, .string a6, .int .i64 a7, .slice q2 a8.length d2, .int .i64 a9, .int .u64 a10, .slice q3 a11.length d3, .slice q4 a12.length d4, .slice q5 a13.length d5, .slice q6 a14.length d6, .int .u8 a15, .int .i64 a16, .int .i64 a17, .int .i64 b18]] W (EqP false W) := by
  have H1 := Lib.hid (show ∀ w, Below W.heap.size W w → Calls Try.prog 14 #[.slice p1 a4.length c1, .slice q1 a4.length d1] w (EqP true w) from fun w hb => by
    have h := eq_int ((hv.keep fun b o x hlt hx => Below.cellq hb (by omega) hx).ri) ((hu.keep fun b o x hlt hx => Below.cellq hb (by omega) hx).ri) (Nat.le_trans hB hb.size) (by have := hl.input; omega)
    rw [decide_eq_true rfl] at h; exact h)
  have H2 := Lib.hid (show ∀ w, Below W.heap.size W w → Calls Try.prog 15 #[.agg #[.string a6, .int .i64 a7, .slice p2 a8.length c2, .int .i64 a9], .agg #[.string a6, .int .i64 a7, .slice q2 a8.length d2, .int .i64 a9]] w (EqP true w) from fun w hb => by
    have h := tsk_any (t := (⟨a6, a7, a8, a9⟩ : Tk)) (u := (⟨a6, a7, a8, a9⟩ : Tk)) ((hv.keep fun b o x hlt hx => Below.cellq hb (by omega) hx).ra) ((hu.keep fun b o x hlt hx => Below.cellq hb (by omega) hx).ra) (Nat.le_trans hB hb.size) (hl.args)
    rw [decide_eq_true rfl] at h; exact h)
  have H3 := Lib.hid (show ∀ w, Below W.heap.size W w → Calls Try.prog 16 #[.slice p3 a11.length c3, .slice q3 a11.length d3] w (EqP true w) from fun w hb => by
    have h := eq_en ((hv.keep fun b o x hlt hx => Below.cellq hb (by omega) hx).rn) ((hu.keep fun b o x hlt hx => Below.cellq hb (by omega) hx).rn) (Nat.le_trans hB hb.size) (by have := hl.ents.1; omega)
    rw [decide_eq_true rfl] at h; exact h)
  have H4 := Lib.hid (show ∀ w, Below W.heap.size W w → Calls Try.prog 17 #[.slice p4 a12.length c4, .slice q4 a12.length d4] w (EqP true w) from fun w hb => by
    have h := eq_u64 ((hv.keep fun b o x hlt hx => Below.cellq hb (by omega) hx).rh) ((hu.keep fun b o x hlt hx => Below.cellq hb (by omega) hx).rh) (Nat.le_trans hB hb.size) (by have := hl.epochs; omega)
    rw [decide_eq_true rfl] at h; exact h)
  have H5 := Lib.hid (show ∀ w, Below W.heap.size W w → Calls Try.prog 18 #[.slice p5 a13.length c5, .slice q5 a13.length d5] w (EqP true w) from fun w hb => by
    have h := eq_nm ((hv.keep fun b o x hlt hx => Below.cellq hb (by omega) hx).rm) ((hu.keep fun b o x hlt hx => Below.cellq hb (by omega) hx).rm) (Nat.le_trans hB hb.size) (by have := hl.names.1; omega)
    rw [decide_eq_true rfl] at h; exact h)
  have H6 := Lib.hid (show ∀ w, Below W.heap.size W w → Calls Try.prog 19 #[.slice p6 a14.length c6, .slice q6 a14.length d6] w (EqP true w) from fun w hb => by
    have h := eq_err ((hv.keep fun b o x hlt hx => Below.cellq hb (by omega) hx).rc) ((hu.keep fun b o x hlt hx => Below.cellq hb (by omega) hx).rc) (Nat.le_trans hB hb.size) (by have := hl.codes; omega)
    rw [decide_eq_true rfl] at h; exact h)
  have HB0 := Lib.hid (((Below.refl _ W).alloc (Nat.le_refl _) (.cells #[.int .u8 a0, .int .u64 a1, .string a2, .string a3, .slice p1 a4.length c1, .int .i64 a5, .string a6, .int .i64 a7, .slice p2 a8.length c2, .int .i64 a9, .int .u64 a10, .slice p3 a11.length c3, .slice p4 a12.length c4, .slice p5 a13.length c5, .slice p6 a14.length c6, .int .u8 a15, .int .i64 a16, .int .i64 a17, .int .i64 a18] 34)).alloc (by simp) (.cells #[.int .u8 a0, .int .u64 a1, .string a2, .string a3, .slice q1 a4.length d1, .int .i64 a5, .string a6, .int .i64 a7, .slice q2 a8.length d2, .int .i64 a9, .int .u64 a10, .slice q3 a11.length d3, .slice q4 a12.length d4, .slice q5 a13.length d5, .slice q6 a14.length d6, .int .u8 a15, .int .i64 a16, .int .i64 a17, .int .i64 b18] 34))
  have HA0 := Lib.hid ((Blk.new W 34 #[.int .u8 a0, .int .u64 a1, .string a2, .string a3, .slice p1 a4.length c1, .int .i64 a5, .string a6, .int .i64 a7, .slice p2 a8.length c2, .int .i64 a9, .int .u64 a10, .slice p3 a11.length c3, .slice p4 a12.length c4, .slice p5 a13.length c5, .slice p6 a14.length c6, .int .u8 a15, .int .i64 a16, .int .i64 a17, .int .i64 a18]).alloc (.cells #[.int .u8 a0, .int .u64 a1, .string a2, .string a3, .slice q1 a4.length d1, .int .i64 a5, .string a6, .int .i64 a7, .slice q2 a8.length d2, .int .i64 a9, .int .u64 a10, .slice q3 a11.length d3, .slice q4 a12.length d4, .slice q5 a13.length d5, .slice q6 a14.length d6, .int .u8 a15, .int .i64 a16, .int .i64 a17, .int .i64 b18] 34))
  have HX0 := Lib.hid (blk_new1 W (.cells #[.int .u8 a0, .int .u64 a1, .string a2, .string a3, .slice p1 a4.length c1, .int .i64 a5, .string a6, .int .i64 a7, .slice p2 a8.length c2, .int .i64 a9, .int .u64 a10, .slice p3 a11.length c3, .slice p4 a12.length c4, .slice p5 a13.length c5, .slice p6 a14.length c6, .int .u8 a15, .int .i64 a16, .int .i64 a17, .int .i64 a18] 34) 34 #[.int .u8 a0, .int .u64 a1, .string a2, .string a3, .slice q1 a4.length d1, .int .i64 a5, .string a6, .int .i64 a7, .slice q2 a8.length d2, .int .i64 a9, .int .u64 a10, .slice q3 a11.length d3, .slice q4 a12.length d4, .slice q5 a13.length d5, .slice q6 a14.length d6, .int .u8 a15, .int .i64 a16, .int .i64 a17, .int .i64 b18])
  have hs2 := str_of (a := a2) rfl
  have hs3 := str_of (a := a3) rfl
  have hb' : (a18 == b18) = false := by simpa using hne
  clear hv hu hl hB hne
  generalize a4.length = na4 at *
  generalize a8.length = na8 at *
  generalize a11.length = na11 at *
  generalize a12.length = na12 at *
  generalize a13.length = na13 at *
  generalize a14.length = na14 at *
  go_enter Try.func9, Try.ntmps9
  go_wp2_with (first | (with_reducible refine wpl_here (W := W) (oA := (.cells #[.int .u8 a0, .int .u64 a1, .string a2, .string a3, .slice p1 na4 c1, .int .i64 a5, .string a6, .int .i64 a7, .slice p2 na8 c2, .int .i64 a9, .int .u64 a10, .slice p3 na11 c3, .slice p4 na12 c4, .slice p5 na13 c5, .slice p6 na14 c6, .int .u8 a15, .int .i64 a16, .int .i64 a17, .int .i64 a18] 34)) (oB := (.cells #[.int .u8 a0, .int .u64 a1, .string a2, .string a3, .slice q1 na4 d1, .int .i64 a5, .string a6, .int .i64 a7, .slice q2 na8 d2, .int .i64 a9, .int .u64 a10, .slice q3 na11 d3, .slice q4 na12 d4, .slice q5 na13 d5, .slice q6 na14 d6, .int .u8 a15, .int .i64 a16, .int .i64 a17, .int .i64 b18] 34)) ?_; intro W1 hW1; rw [← hW1] at HA0 HX0 HB0; clear hW1; have x0 : W1.cell? ⟨W.heap.size, 0, none⟩ = some (.int .u8 a0) := HA0.out.cell 0; have y0 : W1.cell? ⟨W.heap.size + 1, 0, none⟩ = some (.int .u8 a0) := HX0.out.cell 0; have x1 : W1.cell? ⟨W.heap.size, 1, none⟩ = some (.int .u64 a1) := HA0.out.cell 1; have y1 : W1.cell? ⟨W.heap.size + 1, 1, none⟩ = some (.int .u64 a1) := HX0.out.cell 1; have x2 : W1.cell? ⟨W.heap.size, 2, none⟩ = some (.string a2) := HA0.out.cell 2; have y2 : W1.cell? ⟨W.heap.size + 1, 2, none⟩ = some (.string a2) := HX0.out.cell 2; have x3 : W1.cell? ⟨W.heap.size, 3, none⟩ = some (.string a3) := HA0.out.cell 3; have y3 : W1.cell? ⟨W.heap.size + 1, 3, none⟩ = some (.string a3) := HX0.out.cell 3; have x4 : W1.cell? ⟨W.heap.size, 4, none⟩ = some (.slice p1 na4 c1) := HA0.out.cell 4; have y4 : W1.cell? ⟨W.heap.size + 1, 4, none⟩ = some (.slice q1 na4 d1) := HX0.out.cell 4) | (go_at_call 14; go_loud ((with_reducible refine (H1.out _ HB0.out).mono ?_); rintro e w1 ⟨rfl, hb1⟩; have HB1 := Lib.hid (HB0.out.step hb1); have HA1 := Lib.hid (HA0.out.below hb1); have HX1 := Lib.hid (HX0.out.below hb1); clear hb1; have x5 : w1.cell? ⟨W.heap.size, 5, none⟩ = some (.int .i64 a5) := HA1.out.cell 5; have y5 : w1.cell? ⟨W.heap.size + 1, 5, none⟩ = some (.int .i64 a5) := HX1.out.cell 5; have x6 : w1.cell? ⟨W.heap.size, 6, none⟩ = some (.string a6) := HA1.out.cell 6; have y6 : w1.cell? ⟨W.heap.size + 1, 6, none⟩ = some (.string a6) := HX1.out.cell 6; have x7 : w1.cell? ⟨W.heap.size, 7, none⟩ = some (.int .i64 a7) := HA1.out.cell 7; have y7 : w1.cell? ⟨W.heap.size + 1, 7, none⟩ = some (.int .i64 a7) := HX1.out.cell 7; have x8 : w1.cell? ⟨W.heap.size, 8, none⟩ = some (.slice p2 na8 c2) := HA1.out.cell 8; have y8 : w1.cell? ⟨W.heap.size + 1, 8, none⟩ = some (.slice q2 na8 d2) := HX1.out.cell 8; have x9 : w1.cell? ⟨W.heap.size, 9, none⟩ = some (.int .i64 a9) := HA1.out.cell 9; have y9 : w1.cell? ⟨W.heap.size + 1, 9, none⟩ = some (.int .i64 a9) := HX1.out.cell 9)) | (go_at_call 15; go_loud ((with_reducible refine (H2.out _ HB1.out).mono ?_); rintro e w2 ⟨rfl, hb2⟩; have HB2 := Lib.hid (HB1.out.step hb2); have HA2 := Lib.hid (HA1.out.below hb2); have HX2 := Lib.hid (HX1.out.below hb2); clear hb2; have x10 : w2.cell? ⟨W.heap.size, 10, none⟩ = some (.int .u64 a10) := HA2.out.cell 10; have y10 : w2.cell? ⟨W.heap.size + 1, 10, none⟩ = some (.int .u64 a10) := HX2.out.cell 10; have x11 : w2.cell? ⟨W.heap.size, 11, none⟩ = some (.slice p3 na11 c3) := HA2.out.cell 11; have y11 : w2.cell? ⟨W.heap.size + 1, 11, none⟩ = some (.slice q3 na11 d3) := HX2.out.cell 11)) | (go_at_call 16; go_loud ((with_reducible refine (H3.out _ HB2.out).mono ?_); rintro e w3 ⟨rfl, hb3⟩; have HB3 := Lib.hid (HB2.out.step hb3); have HA3 := Lib.hid (HA2.out.below hb3); have HX3 := Lib.hid (HX2.out.below hb3); clear hb3; have x12 : w3.cell? ⟨W.heap.size, 12, none⟩ = some (.slice p4 na12 c4) := HA3.out.cell 12; have y12 : w3.cell? ⟨W.heap.size + 1, 12, none⟩ = some (.slice q4 na12 d4) := HX3.out.cell 12)) | (go_at_call 17; go_loud ((with_reducible refine (H4.out _ HB3.out).mono ?_); rintro e w4 ⟨rfl, hb4⟩; have HB4 := Lib.hid (HB3.out.step hb4); have HA4 := Lib.hid (HA3.out.below hb4); have HX4 := Lib.hid (HX3.out.below hb4); clear hb4; have x13 : w4.cell? ⟨W.heap.size, 13, none⟩ = some (.slice p5 na13 c5) := HA4.out.cell 13; have y13 : w4.cell? ⟨W.heap.size + 1, 13, none⟩ = some (.slice q5 na13 d5) := HX4.out.cell 13)) | (go_at_call 18; go_loud ((with_reducible refine (H5.out _ HB4.out).mono ?_); rintro e w5 ⟨rfl, hb5⟩; have HB5 := Lib.hid (HB4.out.step hb5); have HA5 := Lib.hid (HA4.out.below hb5); have HX5 := Lib.hid (HX4.out.below hb5); clear hb5; have x14 : w5.cell? ⟨W.heap.size, 14, none⟩ = some (.slice p6 na14 c6) := HA5.out.cell 14; have y14 : w5.cell? ⟨W.heap.size + 1, 14, none⟩ = some (.slice q6 na14 d6) := HX5.out.cell 14)) | (go_at_call 19; go_loud ((with_reducible refine (H6.out _ HB5.out).mono ?_); rintro e w6 ⟨rfl, hb6⟩; have HB6 := Lib.hid (HB5.out.step hb6); have HA6 := Lib.hid (HA5.out.below hb6); have HX6 := Lib.hid (HX5.out.below hb6); clear hb6; have x15 : w6.cell? ⟨W.heap.size, 15, none⟩ = some (.int .u8 a15) := HA6.out.cell 15; have y15 : w6.cell? ⟨W.heap.size + 1, 15, none⟩ = some (.int .u8 a15) := HX6.out.cell 15; have x16 : w6.cell? ⟨W.heap.size, 16, none⟩ = some (.int .i64 a16) := HA6.out.cell 16; have y16 : w6.cell? ⟨W.heap.size + 1, 16, none⟩ = some (.int .i64 a16) := HX6.out.cell 16; have x17 : w6.cell? ⟨W.heap.size, 17, none⟩ = some (.int .i64 a17) := HA6.out.cell 17; have y17 : w6.cell? ⟨W.heap.size + 1, 17, none⟩ = some (.int .i64 a17) := HX6.out.cell 17; have x18 : w6.cell? ⟨W.heap.size, 18, none⟩ = some (.int .i64 a18) := HA6.out.cell 18; have y18 : w6.cell? ⟨W.heap.size + 1, 18, none⟩ = some (.int .i64 b18) := HX6.out.cell 18)))
  go_ret
  exact ⟨rfl, HB6.out⟩
set_option maxRecDepth 100000 in
set_option maxHeartbeats 8000000 in
theorem same_c15 {a0 : Int} {a1 : Int} {a2 : ByteArray} {a3 : ByteArray} {a4 : List Int} {a5 : Int} {a6 : ByteArray} {a7 : Int} {a8 : List Int} {a9 : Int} {a10 : Int} {a11 : List En} {a12 : List Int} {a13 : List Nm} {a14 : List Int} {a15 : Int} {a16 : Int} {a17 : Int} {a18 : Int} {W : World} {B : Nat} {p1 p2 p3 p4 p5 p6 q1 q2 q3 q4 q5 q6 : Option Addr} {c1 c2 c3 c4 c5 c6 d1 d2 d3 d4 d5 d6 : Nat}
    (hv : MR W B (⟨a0, a1, a2, a3, a4, a5, ⟨a6, a7, a8, a9⟩, a10, a11, a12, a13, a14, a15, ⟨a16, a17⟩, a18⟩ : M) ⟨.slice p1 a4.length c1, .slice p2 a8.length c2, .slice p3 a11.length c3, .slice p4 a12.length c4, .slice p5 a13.length c5, .slice p6 a14.length c6⟩) (hu : MR W B (⟨a0, a1, a2, a3, a4, a5, ⟨a6, a7, a8, a9⟩, a10, a11, a12, a13, a14, a15, ⟨a16, a17⟩, a18⟩ : M) ⟨.slice q1 a4.length d1, .slice q2 a8.length d2, .slice q3 a11.length d3, .slice q4 a12.length d4, .slice q5 a13.length d5, .slice q6 a14.length d6⟩) (hB : B ≤ W.heap.size) (hl : Lite (⟨a0, a1, a2, a3, a4, a5, ⟨a6, a7, a8, a9⟩, a10, a11, a12, a13, a14, a15, ⟨a16, a17⟩, a18⟩ : M)) :
    Calls Try.prog 9 #[.agg #[.int .u8 a0, .int .u64 a1, .string a2, .string a3, .slice p1 a4.length c1, .int .i64 a5, .string a6, .int .i64 a7, .slice p2 a8.length c2, .int .i64 a9, .int .u64 a10, .slice p3 a11.length c3, .slice p4 a12.length c4, .slice p5 a13.length c5, .slice p6 a14.length c6, .int .u8 a15, .int .i64 a16, .int .i64 a17, .int .i64 a18], .agg #[.int .u8 a0, .int .u64 a1, .string a2, .string a3, .slice q1 a4.length d1, .int .i64 a5, .string a6, .int .i64 a7, .slice q2 a8.length d2, .int .i64 a9, .int .u64 a10, .slice q3 a11.length d3, .slice q4 a12.length d4, .slice q5 a13.length d5, .slice q6 a14.length d6, .int .u8 a15, .int .i64 a16, .int .i64 a17, .int .i64 a18]] W (EqP true W) := by
  have H1 := Lib.hid (show ∀ w, Below W.heap.size W w → Calls Try.prog 14 #[.slice p1 a4.length c1, .slice q1 a4.length d1] w (EqP true w) from fun w hb => by
    have h := eq_int ((hv.keep fun b o x hlt hx => Below.cellq hb (by omega) hx).ri) ((hu.keep fun b o x hlt hx => Below.cellq hb (by omega) hx).ri) (Nat.le_trans hB hb.size) (by have := hl.input; omega)
    rw [decide_eq_true rfl] at h; exact h)
  have H2 := Lib.hid (show ∀ w, Below W.heap.size W w → Calls Try.prog 15 #[.agg #[.string a6, .int .i64 a7, .slice p2 a8.length c2, .int .i64 a9], .agg #[.string a6, .int .i64 a7, .slice q2 a8.length d2, .int .i64 a9]] w (EqP true w) from fun w hb => by
    have h := tsk_any (t := (⟨a6, a7, a8, a9⟩ : Tk)) (u := (⟨a6, a7, a8, a9⟩ : Tk)) ((hv.keep fun b o x hlt hx => Below.cellq hb (by omega) hx).ra) ((hu.keep fun b o x hlt hx => Below.cellq hb (by omega) hx).ra) (Nat.le_trans hB hb.size) (hl.args)
    rw [decide_eq_true rfl] at h; exact h)
  have H3 := Lib.hid (show ∀ w, Below W.heap.size W w → Calls Try.prog 16 #[.slice p3 a11.length c3, .slice q3 a11.length d3] w (EqP true w) from fun w hb => by
    have h := eq_en ((hv.keep fun b o x hlt hx => Below.cellq hb (by omega) hx).rn) ((hu.keep fun b o x hlt hx => Below.cellq hb (by omega) hx).rn) (Nat.le_trans hB hb.size) (by have := hl.ents.1; omega)
    rw [decide_eq_true rfl] at h; exact h)
  have H4 := Lib.hid (show ∀ w, Below W.heap.size W w → Calls Try.prog 17 #[.slice p4 a12.length c4, .slice q4 a12.length d4] w (EqP true w) from fun w hb => by
    have h := eq_u64 ((hv.keep fun b o x hlt hx => Below.cellq hb (by omega) hx).rh) ((hu.keep fun b o x hlt hx => Below.cellq hb (by omega) hx).rh) (Nat.le_trans hB hb.size) (by have := hl.epochs; omega)
    rw [decide_eq_true rfl] at h; exact h)
  have H5 := Lib.hid (show ∀ w, Below W.heap.size W w → Calls Try.prog 18 #[.slice p5 a13.length c5, .slice q5 a13.length d5] w (EqP true w) from fun w hb => by
    have h := eq_nm ((hv.keep fun b o x hlt hx => Below.cellq hb (by omega) hx).rm) ((hu.keep fun b o x hlt hx => Below.cellq hb (by omega) hx).rm) (Nat.le_trans hB hb.size) (by have := hl.names.1; omega)
    rw [decide_eq_true rfl] at h; exact h)
  have H6 := Lib.hid (show ∀ w, Below W.heap.size W w → Calls Try.prog 19 #[.slice p6 a14.length c6, .slice q6 a14.length d6] w (EqP true w) from fun w hb => by
    have h := eq_err ((hv.keep fun b o x hlt hx => Below.cellq hb (by omega) hx).rc) ((hu.keep fun b o x hlt hx => Below.cellq hb (by omega) hx).rc) (Nat.le_trans hB hb.size) (by have := hl.codes; omega)
    rw [decide_eq_true rfl] at h; exact h)
  have HB0 := Lib.hid (((Below.refl _ W).alloc (Nat.le_refl _) (.cells #[.int .u8 a0, .int .u64 a1, .string a2, .string a3, .slice p1 a4.length c1, .int .i64 a5, .string a6, .int .i64 a7, .slice p2 a8.length c2, .int .i64 a9, .int .u64 a10, .slice p3 a11.length c3, .slice p4 a12.length c4, .slice p5 a13.length c5, .slice p6 a14.length c6, .int .u8 a15, .int .i64 a16, .int .i64 a17, .int .i64 a18] 34)).alloc (by simp) (.cells #[.int .u8 a0, .int .u64 a1, .string a2, .string a3, .slice q1 a4.length d1, .int .i64 a5, .string a6, .int .i64 a7, .slice q2 a8.length d2, .int .i64 a9, .int .u64 a10, .slice q3 a11.length d3, .slice q4 a12.length d4, .slice q5 a13.length d5, .slice q6 a14.length d6, .int .u8 a15, .int .i64 a16, .int .i64 a17, .int .i64 a18] 34))
  have HA0 := Lib.hid ((Blk.new W 34 #[.int .u8 a0, .int .u64 a1, .string a2, .string a3, .slice p1 a4.length c1, .int .i64 a5, .string a6, .int .i64 a7, .slice p2 a8.length c2, .int .i64 a9, .int .u64 a10, .slice p3 a11.length c3, .slice p4 a12.length c4, .slice p5 a13.length c5, .slice p6 a14.length c6, .int .u8 a15, .int .i64 a16, .int .i64 a17, .int .i64 a18]).alloc (.cells #[.int .u8 a0, .int .u64 a1, .string a2, .string a3, .slice q1 a4.length d1, .int .i64 a5, .string a6, .int .i64 a7, .slice q2 a8.length d2, .int .i64 a9, .int .u64 a10, .slice q3 a11.length d3, .slice q4 a12.length d4, .slice q5 a13.length d5, .slice q6 a14.length d6, .int .u8 a15, .int .i64 a16, .int .i64 a17, .int .i64 a18] 34))
  have HX0 := Lib.hid (blk_new1 W (.cells #[.int .u8 a0, .int .u64 a1, .string a2, .string a3, .slice p1 a4.length c1, .int .i64 a5, .string a6, .int .i64 a7, .slice p2 a8.length c2, .int .i64 a9, .int .u64 a10, .slice p3 a11.length c3, .slice p4 a12.length c4, .slice p5 a13.length c5, .slice p6 a14.length c6, .int .u8 a15, .int .i64 a16, .int .i64 a17, .int .i64 a18] 34) 34 #[.int .u8 a0, .int .u64 a1, .string a2, .string a3, .slice q1 a4.length d1, .int .i64 a5, .string a6, .int .i64 a7, .slice q2 a8.length d2, .int .i64 a9, .int .u64 a10, .slice q3 a11.length d3, .slice q4 a12.length d4, .slice q5 a13.length d5, .slice q6 a14.length d6, .int .u8 a15, .int .i64 a16, .int .i64 a17, .int .i64 a18])
  have hs2 := str_of (a := a2) rfl
  have hs3 := str_of (a := a3) rfl
  clear hv hu hl hB
  generalize a4.length = na4 at *
  generalize a8.length = na8 at *
  generalize a11.length = na11 at *
  generalize a12.length = na12 at *
  generalize a13.length = na13 at *
  generalize a14.length = na14 at *
  go_enter Try.func9, Try.ntmps9
  go_wp2_with (first | (with_reducible refine wpl_here (W := W) (oA := (.cells #[.int .u8 a0, .int .u64 a1, .string a2, .string a3, .slice p1 na4 c1, .int .i64 a5, .string a6, .int .i64 a7, .slice p2 na8 c2, .int .i64 a9, .int .u64 a10, .slice p3 na11 c3, .slice p4 na12 c4, .slice p5 na13 c5, .slice p6 na14 c6, .int .u8 a15, .int .i64 a16, .int .i64 a17, .int .i64 a18] 34)) (oB := (.cells #[.int .u8 a0, .int .u64 a1, .string a2, .string a3, .slice q1 na4 d1, .int .i64 a5, .string a6, .int .i64 a7, .slice q2 na8 d2, .int .i64 a9, .int .u64 a10, .slice q3 na11 d3, .slice q4 na12 d4, .slice q5 na13 d5, .slice q6 na14 d6, .int .u8 a15, .int .i64 a16, .int .i64 a17, .int .i64 a18] 34)) ?_; intro W1 hW1; rw [← hW1] at HA0 HX0 HB0; clear hW1; have x0 : W1.cell? ⟨W.heap.size, 0, none⟩ = some (.int .u8 a0) := HA0.out.cell 0; have y0 : W1.cell? ⟨W.heap.size + 1, 0, none⟩ = some (.int .u8 a0) := HX0.out.cell 0; have x1 : W1.cell? ⟨W.heap.size, 1, none⟩ = some (.int .u64 a1) := HA0.out.cell 1; have y1 : W1.cell? ⟨W.heap.size + 1, 1, none⟩ = some (.int .u64 a1) := HX0.out.cell 1; have x2 : W1.cell? ⟨W.heap.size, 2, none⟩ = some (.string a2) := HA0.out.cell 2; have y2 : W1.cell? ⟨W.heap.size + 1, 2, none⟩ = some (.string a2) := HX0.out.cell 2; have x3 : W1.cell? ⟨W.heap.size, 3, none⟩ = some (.string a3) := HA0.out.cell 3; have y3 : W1.cell? ⟨W.heap.size + 1, 3, none⟩ = some (.string a3) := HX0.out.cell 3; have x4 : W1.cell? ⟨W.heap.size, 4, none⟩ = some (.slice p1 na4 c1) := HA0.out.cell 4; have y4 : W1.cell? ⟨W.heap.size + 1, 4, none⟩ = some (.slice q1 na4 d1) := HX0.out.cell 4) | (go_at_call 14; go_loud ((with_reducible refine (H1.out _ HB0.out).mono ?_); rintro e w1 ⟨rfl, hb1⟩; have HB1 := Lib.hid (HB0.out.step hb1); have HA1 := Lib.hid (HA0.out.below hb1); have HX1 := Lib.hid (HX0.out.below hb1); clear hb1; have x5 : w1.cell? ⟨W.heap.size, 5, none⟩ = some (.int .i64 a5) := HA1.out.cell 5; have y5 : w1.cell? ⟨W.heap.size + 1, 5, none⟩ = some (.int .i64 a5) := HX1.out.cell 5; have x6 : w1.cell? ⟨W.heap.size, 6, none⟩ = some (.string a6) := HA1.out.cell 6; have y6 : w1.cell? ⟨W.heap.size + 1, 6, none⟩ = some (.string a6) := HX1.out.cell 6; have x7 : w1.cell? ⟨W.heap.size, 7, none⟩ = some (.int .i64 a7) := HA1.out.cell 7; have y7 : w1.cell? ⟨W.heap.size + 1, 7, none⟩ = some (.int .i64 a7) := HX1.out.cell 7; have x8 : w1.cell? ⟨W.heap.size, 8, none⟩ = some (.slice p2 na8 c2) := HA1.out.cell 8; have y8 : w1.cell? ⟨W.heap.size + 1, 8, none⟩ = some (.slice q2 na8 d2) := HX1.out.cell 8; have x9 : w1.cell? ⟨W.heap.size, 9, none⟩ = some (.int .i64 a9) := HA1.out.cell 9; have y9 : w1.cell? ⟨W.heap.size + 1, 9, none⟩ = some (.int .i64 a9) := HX1.out.cell 9)) | (go_at_call 15; go_loud ((with_reducible refine (H2.out _ HB1.out).mono ?_); rintro e w2 ⟨rfl, hb2⟩; have HB2 := Lib.hid (HB1.out.step hb2); have HA2 := Lib.hid (HA1.out.below hb2); have HX2 := Lib.hid (HX1.out.below hb2); clear hb2; have x10 : w2.cell? ⟨W.heap.size, 10, none⟩ = some (.int .u64 a10) := HA2.out.cell 10; have y10 : w2.cell? ⟨W.heap.size + 1, 10, none⟩ = some (.int .u64 a10) := HX2.out.cell 10; have x11 : w2.cell? ⟨W.heap.size, 11, none⟩ = some (.slice p3 na11 c3) := HA2.out.cell 11; have y11 : w2.cell? ⟨W.heap.size + 1, 11, none⟩ = some (.slice q3 na11 d3) := HX2.out.cell 11)) | (go_at_call 16; go_loud ((with_reducible refine (H3.out _ HB2.out).mono ?_); rintro e w3 ⟨rfl, hb3⟩; have HB3 := Lib.hid (HB2.out.step hb3); have HA3 := Lib.hid (HA2.out.below hb3); have HX3 := Lib.hid (HX2.out.below hb3); clear hb3; have x12 : w3.cell? ⟨W.heap.size, 12, none⟩ = some (.slice p4 na12 c4) := HA3.out.cell 12; have y12 : w3.cell? ⟨W.heap.size + 1, 12, none⟩ = some (.slice q4 na12 d4) := HX3.out.cell 12)) | (go_at_call 17; go_loud ((with_reducible refine (H4.out _ HB3.out).mono ?_); rintro e w4 ⟨rfl, hb4⟩; have HB4 := Lib.hid (HB3.out.step hb4); have HA4 := Lib.hid (HA3.out.below hb4); have HX4 := Lib.hid (HX3.out.below hb4); clear hb4; have x13 : w4.cell? ⟨W.heap.size, 13, none⟩ = some (.slice p5 na13 c5) := HA4.out.cell 13; have y13 : w4.cell? ⟨W.heap.size + 1, 13, none⟩ = some (.slice q5 na13 d5) := HX4.out.cell 13)) | (go_at_call 18; go_loud ((with_reducible refine (H5.out _ HB4.out).mono ?_); rintro e w5 ⟨rfl, hb5⟩; have HB5 := Lib.hid (HB4.out.step hb5); have HA5 := Lib.hid (HA4.out.below hb5); have HX5 := Lib.hid (HX4.out.below hb5); clear hb5; have x14 : w5.cell? ⟨W.heap.size, 14, none⟩ = some (.slice p6 na14 c6) := HA5.out.cell 14; have y14 : w5.cell? ⟨W.heap.size + 1, 14, none⟩ = some (.slice q6 na14 d6) := HX5.out.cell 14)) | (go_at_call 19; go_loud ((with_reducible refine (H6.out _ HB5.out).mono ?_); rintro e w6 ⟨rfl, hb6⟩; have HB6 := Lib.hid (HB5.out.step hb6); have HA6 := Lib.hid (HA5.out.below hb6); have HX6 := Lib.hid (HX5.out.below hb6); clear hb6; have x15 : w6.cell? ⟨W.heap.size, 15, none⟩ = some (.int .u8 a15) := HA6.out.cell 15; have y15 : w6.cell? ⟨W.heap.size + 1, 15, none⟩ = some (.int .u8 a15) := HX6.out.cell 15; have x16 : w6.cell? ⟨W.heap.size, 16, none⟩ = some (.int .i64 a16) := HA6.out.cell 16; have y16 : w6.cell? ⟨W.heap.size + 1, 16, none⟩ = some (.int .i64 a16) := HX6.out.cell 16; have x17 : w6.cell? ⟨W.heap.size, 17, none⟩ = some (.int .i64 a17) := HA6.out.cell 17; have y17 : w6.cell? ⟨W.heap.size + 1, 17, none⟩ = some (.int .i64 a17) := HX6.out.cell 17; have x18 : w6.cell? ⟨W.heap.size, 18, none⟩ = some (.int .i64 a18) := HA6.out.cell 18; have y18 : w6.cell? ⟨W.heap.size + 1, 18, none⟩ = some (.int .i64 a18) := HX6.out.cell 18)))
  go_ret
  exact ⟨rfl, HB6.out⟩
end Go.Proofs.Ytghbjknpffiaiaa


/- Cases of what tells whether two messages are the same. No condition but that lists are not too long. -/
namespace Go.Proofs.Ytghbjknpffiaiaa
open Go.RowKit Wire Ms
set_option linter.unusedVariables false
set_option linter.unusedSimpArgs false
end Go.Proofs.Ytghbjknpffiaiaa


/- Cases of what tells whether two messages are the same. No condition but that lists are not too long. -/
namespace Go.Proofs.Ytghbjknpffiaiaa
open Go.RowKit Wire Ms
set_option linter.unusedVariables false
set_option linter.unusedSimpArgs false
end Go.Proofs.Ytghbjknpffiaiaa


/- Cases of what tells whether two messages are the same. No condition but that lists are not too long. -/
namespace Go.Proofs.Ytghbjknpffiaiaa
open Go.RowKit Wire Ms
set_option linter.unusedVariables false
set_option linter.unusedSimpArgs false
end Go.Proofs.Ytghbjknpffiaiaa


/- Whether two messages are the same, as the program and as the document tell it. No condition but that lists are not too long. -/
namespace Go.Proofs.Ytghbjknpffiaiaa
open Go.RowKit Wire Ms
set_option linter.unusedVariables false
set_option linter.unusedSimpArgs false
set_option maxRecDepth 100000 in
theorem same_any {m n : M} {W : World} {B : Nat} {v v2 : VS} (hv : MR W B m v) (hu : MR W B n v2) (hB : B ≤ W.heap.size) (hl : Lite m) :
    Calls Try.prog 9 #[.agg (mcells m v), .agg (mcells n v2)] W (EqP (decide (m = n)) W) := by
  generalize hr : decide (m = n) = r
  obtain ⟨p1, c1, p2, c2, p3, c3, p4, c4, p5, c5, p6, c6, rfl⟩ := hv.vs
  obtain ⟨q1, d1, q2, d2, q3, d3, q4, d4, q5, d5, q6, d6, rfl⟩ := hu.vs
  obtain ⟨a0, a1, a2, a3, a4, a5, ⟨a6, a7, a8, a9⟩, a10, a11, a12, a13, a14, a15, ⟨a16, a17⟩, a18⟩ := m
  obtain ⟨b0, b1, b2, b3, b4, b5, ⟨b6, b7, b8, b9⟩, b10, b11, b12, b13, b14, b15, ⟨b16, b17⟩, b18⟩ := n
  by_cases e0 : a0 = b0
  · subst e0
    by_cases e1 : a1 = b1
    · subst e1
      by_cases e2 : a2 = b2
      · subst e2
        by_cases e3 : a3 = b3
        · subst e3
          by_cases e4 : a4 = b4
          · subst e4
            by_cases e5 : a5 = b5
            · subst e5
              by_cases e6 : (⟨a6, a7, a8, a9⟩ : Tk) = ⟨b6, b7, b8, b9⟩
              · injection e6 with h6 h7 h8 h9
                subst h6 h7 h8 h9
                by_cases e10 : a10 = b10
                · subst e10
                  by_cases e11 : a11 = b11
                  · subst e11
                    by_cases e12 : a12 = b12
                    · subst e12
                      by_cases e13 : a13 = b13
                      · subst e13
                        by_cases e14 : a14 = b14
                        · subst e14
                          by_cases e15 : a15 = b15
                          · subst e15
                            by_cases e16 : a16 = b16
                            · subst e16
                              by_cases e17 : a17 = b17
                              · subst e17
                                by_cases e18 : a18 = b18
                                · subst e18
                                  obtain rfl := hr.symm.trans (decide_eq_true rfl); exact same_c15 hv hu hB hl
                                · obtain rfl := hr.symm.trans (decide_eq_false (fun h => e18 (congrArg (M.err) h))); exact same_c14 hv hu hB hl e18
                              · obtain rfl := hr.symm.trans (decide_eq_false (fun h => e17 (congrArg (fun m => m.res.err) h))); exact same_c13_17 hv hu hB hl e17
                            · obtain rfl := hr.symm.trans (decide_eq_false (fun h => e16 (congrArg (fun m => m.res.val) h))); exact same_c13_16 hv hu hB hl e16
                          · obtain rfl := hr.symm.trans (decide_eq_false (fun h => e15 (congrArg (M.state) h))); exact same_c12 hv hu hB hl e15
                        · obtain rfl := hr.symm.trans (decide_eq_false (fun h => e14 (congrArg (M.codes) h))); exact same_c11 hv hu hB hl e14
                      · obtain rfl := hr.symm.trans (decide_eq_false (fun h => e13 (congrArg (M.names) h))); exact same_c10 hv hu hB hl e13
                    · obtain rfl := hr.symm.trans (decide_eq_false (fun h => e12 (congrArg (M.epochs) h))); exact same_c9 hv hu hB hl e12
                  · obtain rfl := hr.symm.trans (decide_eq_false (fun h => e11 (congrArg (M.ents) h))); exact same_c8 hv hu hB hl e11
                · obtain rfl := hr.symm.trans (decide_eq_false (fun h => e10 (congrArg (M.epoch) h))); exact same_c7 hv hu hB hl e10
              · obtain rfl := hr.symm.trans (decide_eq_false (fun h => e6 (congrArg M.task h))); exact same_c6 hv hu hB hl e6
            · obtain rfl := hr.symm.trans (decide_eq_false (fun h => e5 (congrArg (M.fuel) h))); exact same_c5 hv hu hB hl e5
          · obtain rfl := hr.symm.trans (decide_eq_false (fun h => e4 (congrArg (M.input) h))); exact same_c4 hv hu hB hl e4
        · obtain rfl := hr.symm.trans (decide_eq_false (fun h => e3 (congrArg (M.prog) h))); exact same_c3 hv hu hB hl e3
      · obtain rfl := hr.symm.trans (decide_eq_false (fun h => e2 (congrArg (M.tok) h))); exact same_c2 hv hu hB hl e2
    · obtain rfl := hr.symm.trans (decide_eq_false (fun h => e1 (congrArg (M.job) h))); exact same_c1 hv hu hB hl e1
  · obtain rfl := hr.symm.trans (decide_eq_false (fun h => e0 (congrArg (M.kind) h))); exact same_c0 hv hu hB hl e0
end Go.Proofs.Ytghbjknpffiaiaa


/- Each part of a message, written: what bytes it puts, what it finds amiss. No condition. -/
namespace Go.Proofs.Ytghbjknpffiaiaa
open Go.RowKit Wire Ms
set_option linter.unusedVariables false
set_option linter.unusedSimpArgs false
/-- A function writes a part. -/
def PartW (f : FuncId) (s : M → Ls) (b : M → Bool) : Prop :=
  ∀ (w : World) (B k g L : Nat) (m : M) (v : VS) (out : Ls) (bad : Bool), KWb w B k out bad L → B ≤ w.heap.size → L ≤ 400000000 → MB w B g m v → TyM m → Lite m →
    Calls Try.prog f #[.pointer (some ⟨k, 0, none⟩), .pointer (some ⟨g, 0, none⟩)] w (WrP w B k (out ++ s m) (bad || b m) (L + 6000000))
theorem MB.away {w : World} {B k g L : Nat} {m : M} {v : VS} {out : Ls} {bad : Bool} (h : MB w B g m v) (c : KWb w B k out bad L) : Away w B k g := c.away h.1 (by decide) (by decide)
theorem MB.on {w w' : World} {B k g L : Nat} {m : M} {v : VS} {out : Ls} {bad : Bool} (h : MB w B g m v) (c : KWb w B k out bad L) (hB : B ≤ w.heap.size) (ho : OnW B k w w') : MB w' B g m v :=
  ⟨h.1.only ho (h.away c), h.2.below (ho.below hB c.ge)⟩
theorem MB.cell {w : World} {B g : Nat} {m : M} {v : VS} (h : MB w B g m v) (o : Nat) : w.cell? ⟨g, o, none⟩ = (mcells m v)[o]? := h.1.cell o
theorem MB.below {w w' : World} {B g : Nat} {m : M} {v : VS} (h : MB w B g m v) (hB : B ≤ w.heap.size) (hb : Below w.heap.size w w') : MB w' B g m v :=
  ⟨h.1.below hb, h.2.keep fun b o x h1 h2 => Below.cellq hb (by omega) h2⟩
theorem lt_len (k n : Nat) : decide ((k : Int) < (n : Int)) = decide (k < n) := intLt k n
theorem any_none {α : Type} (l : List α) : l.any (fun _ => false) = false := by induction l with
  | nil => rfl
  | cons a l ih => rw [List.any_cons, ih]; rfl
theorem pw_job : PartW 26 (wp .J) (wbad .J) := fun w B k g L m v out bad c hB hL h t l => by
    have haw := h.away c
    have hc := fun o => h.cell o
    have lt := l.tok
    have lp := l.prog
    exact Calls.mono (part_job (Q := fun w' => KWb w' B k _ _ _ ∧ OnW B k w w') h.1.lt (numw_u64 c hB (by omega) (hc 1) haw t.job)) fun e w' h => WrP.mono h (by omega) rfl rfl
theorem pw_fuel : PartW 25 (wp .F) (wbad .F) := fun w B k g L m v out bad c hB hL h t l => by
      have haw := h.away c
      have hc := fun o => h.cell o
      have lt := l.tok
      have lp := l.prog
      exact Calls.mono (part_fuel (Q := fun w' => KWb w' B k _ _ _ ∧ OnW B k w w') h.1.lt (numw_int c hB (by omega) (hc 5) haw t.fuel)) fun e w' h => WrP.mono h (by omega) rfl rfl
theorem pw_err : PartW 27 (wp .X) (wbad .X) := fun w B k g L m v out bad c hB hL h t l => by
        have haw := h.away c
        have hc := fun o => h.cell o
        have lt := l.tok
        have lp := l.prog
        exact Calls.mono (part_err (Q := fun w' => KWb w' B k _ _ _ ∧ OnW B k w w') h.1.lt (numw_err c hB (by omega) (hc 18) haw t.err)) fun e w' h => WrP.mono h (by omega) rfl rfl
theorem pw_epoch : PartW 32 (wp .E) (wbad .E) := fun w B k g L m v out bad c hB hL h t l => by
          have haw := h.away c
          have hc := fun o => h.cell o
          have lt := l.tok
          have lp := l.prog
          exact Calls.mono (part_epoch (Q := fun w' => KWb w' B k _ _ _ ∧ OnW B k w w') h.1.lt (numw_u64 c hB (by omega) (hc 10) haw t.epoch)) fun e w' h => WrP.mono h (by omega) rfl rfl
theorem pw_state : PartW 38 (wp .S) (wbad .S) := fun w B k g L m v out bad c hB hL h t l => by
            have haw := h.away c
            have hc := fun o => h.cell o
            have lt := l.tok
            have lp := l.prog
            exact Calls.mono (part_state (Q := fun w' => KWb w' B k _ _ _ ∧ OnW B k w w') h.1.lt (numw_u8 c hB (by omega) (hc 15) haw t.state)) fun e w' h => WrP.mono h (by omega) rfl rfl
theorem pw_result : PartW 39 (wp .R) (wbad .R) := fun w B k g L m v out bad c hB hL h t l => by
              have haw := h.away c
              have hc := fun o => h.cell o
              have lt := l.tok
              have lp := l.prog
              exact Calls.mono (part_result (Q := fun w' => KWb w' B k _ _ _ ∧ OnW B k w w') h.1.lt (resw_any (r := m.res) c hB (by omega) (hc 16) (hc 17) haw t.res)) fun e w' h => WrP.mono h (by omega) rfl rfl
theorem pw_token : PartW 36 (wp .T) (wbad .T) := fun w B k g L m v out bad c hB hL h t l => by
                have haw := h.away c
                have hc := fun o => h.cell o
                have lt := l.tok
                have lp := l.prog
                exact Calls.mono (part_token (Q := fun w' => KWb w' B k _ _ _ ∧ OnW B k w w') h.1.lt (textw_any c hB (by omega) (hc 2) haw (by omega))) fun e w' h => WrP.mono h (by omega) rfl (congrArg (bad || ·) (lt_len 32 m.tok.size))
theorem pw_program : PartW 30 (wp .P) (wbad .P) := fun w B k g L m v out bad c hB hL h t l => by
                  have haw := h.away c
                  have hc := fun o => h.cell o
                  have lt := l.tok
                  have lp := l.prog
                  exact Calls.mono (part_program (Q := fun w' => KWb w' B k _ _ _ ∧ OnW B k w w') h.1.lt (textw_any c hB (by omega) (hc 3) haw (by omega))) fun e w' h => WrP.mono h (by omega) rfl (congrArg (bad || ·) (lt_len 16384 m.prog.size))
theorem pw_input : PartW 37 (wp .I) (wbad .I) := fun w B k g L m v out bad c hB hL h t l => by
                    have haw := h.away c
                    have hc := fun o => h.cell o
                    have lt := l.tok
                    have lp := l.prog
                    exact Calls.mono (part_input (Q := fun w' => KWb w' B k _ _ _ ∧ OnW B k w w') h.1.lt (lw_i64 c hB (by omega) (hc 4) haw h.2.ri l.input t.input (fun _ _ => trivial))) fun e w' h => WrP.mono h (by omega) rfl (congrArg (bad || ·) (show (decide ((16 : Int) < (m.input.length : Int)) || m.input.any fun _ => false) = decide (16 < m.input.length) by rw [any_none, Bool.or_false]; exact lt_len 16 _))
theorem pw_entries : PartW 28 (wp .N) (wbad .N) := fun w B k g L m v out bad c hB hL h t l => by
                      have haw := h.away c
                      have hc := fun o => h.cell o
                      have lt := l.tok
                      have lp := l.prog
                      exact Calls.mono (part_entries (Q := fun w' => KWb w' B k _ _ _ ∧ OnW B k w w') h.1.lt (lw_en c hB (by omega) (hc 11) haw h.2.rn l.ents.1 t.ents l.ents.2)) fun e w' h => WrP.mono h (by omega) rfl (congrArg (bad || ·) (show (decide ((128 : Int) < (m.ents.length : Int)) || m.ents.any enW) = (decide (128 < m.ents.length) || m.ents.any enW) from congrArg (· || m.ents.any enW) (lt_len 128 _)))
/-- Names: with as many epochs or without. -/
theorem pw_names : PartW 33 (wp .A) (fun m => decide (128 < m.names.length) || m.names.any nmW) := fun w B k g L m v out bad c hB hL h t l => by
  have haw := h.away c
  exact Calls.mono (part_names (Q := fun w' => KWb w' B k _ _ _ ∧ OnW B k w w') h.1.lt (lw_nm c hB (by omega) (h.cell 13) haw h.2.rm l.names.1 t.names l.names.2)) fun e w' h => WrP.mono h (by omega) rfl (congrArg (bad || ·) (show (decide ((128 : Int) < (m.names.length : Int)) || m.names.any nmW) = (decide (128 < m.names.length) || m.names.any nmW) from congrArg (· || m.names.any nmW) (lt_len 128 _)))
theorem Rw.slice {α : Type} {sz : Nat} {LAY : α → List Value} {w : World} {B : Nat} {v : Value} {l : List α} (h : Rw sz LAY w B v l) : ∃ p c, v = .slice p l.length c := by
  obtain ⟨p, c, h1, _⟩ := h
  exact ⟨p, c, h1⟩
theorem MB.sl {w : World} {B g : Nat} {m : M} {v : VS} (h : MB w B g m v) : (∃ p c, w.cell? ⟨g, 11, none⟩ = some (.slice p m.ents.length c)) ∧ (∃ p c, w.cell? ⟨g, 12, none⟩ = some (.slice p m.epochs.length c)) ∧ (∃ p c, w.cell? ⟨g, 13, none⟩ = some (.slice p m.names.length c)) := by
  obtain ⟨p1, c1, e1⟩ := h.2.rn.slice
  obtain ⟨p2, c2, e2⟩ := h.2.rh.slice
  obtain ⟨p3, c3, e3⟩ := h.2.rm.slice
  exact ⟨⟨p1, c1, by rw [h.cell 11, ← e1]; rfl⟩, ⟨p2, c2, by rw [h.cell 12, ← e2]; rfl⟩, ⟨p3, c3, by rw [h.cell 13, ← e3]; rfl⟩⟩
theorem pw_dropped : PartW 35 (wp .A) (fun m => (decide (128 < m.names.length) || m.names.any nmW) || m.epochs.length != m.names.length) := fun w B k g L m v out bad c hB hL h t l => by
  have key := pw_names w B k g L m v out bad c hB hL h t l
  refine Calls.mono (part_dropped (n := m.epochs.length) (m := m.names.length) (b1 := bad || (decide (128 < m.names.length) || m.names.any nmW)) (Q1 := fun w' => KWb w' B k (out ++ wp .A m) (bad || (decide (128 < m.names.length) || m.names.any nmW)) (L + 6000000) ∧ OnW B k w w')
    (Q := fun w' => KWb w' B k (out ++ wp .A m) ((bad || (decide (128 < m.names.length) || m.names.any nmW)) || m.epochs.length != m.names.length) (L + 6000000) ∧ OnW B k w w') key (fun w1 hq => ?_) (fun w1 w2 hq hb => ?_)) fun e w' h => WrP.mono h (by omega) rfl (Bool.or_assoc _ _ _)
  · have h1 := (h.on c hB hq.2).sl
    exact ⟨hq.1.c2, hq.1.fz 2, h1.2.1, h1.2.2⟩
  · have c2 := (hq.1.below hb).flag ((bad || (decide (128 < m.names.length) || m.names.any nmW)) || m.epochs.length != m.names.length) (fun e => (Bool.or_eq_false_iff.1 e).1)
    exact ⟨c2.1, (hq.2.step hb).trans c2.2⟩
theorem pw_codes : PartW 34 (wp .C) (wbad .C) := fun w B k g L m v out bad c hB hL h t l => by
  refine Calls.mono (part_codes (Q := fun w' => KWb w' B k (out ++ wp .C m) (bad || (decide ((128 : Int) < (m.codes.length : Int)) || m.codes.any fun x => nb x 9999)) (L + 3000000) ∧ OnW B k w w') h.1.lt fun w2 hb hx => ?_) fun e w' h => WrP.mono h (by omega) rfl (congrArg (bad || ·) (congrArg (· || m.codes.any fun x => nb x 9999) (lt_len 128 _)))
  have c2 := c.below hb
  have h2 := h.below hB hb
  exact Calls.mono (lw_err c2 (Nat.le_trans hB hb.size) (by omega) (h2.cell 14) (h2.away c2) h2.2.rc l.codes t.codes (fun _ _ => trivial) (hx.cell 0) (c2.away hx (by decide) (by decide))) fun e w' h => ⟨h.1, h.2.1, OnW.trans (.of_below hb) h.2.2⟩
theorem pw_epochs : PartW 29 (wp .H) (wbad .H) := fun w B k g L m v out bad c hB hL h t l => by
  refine Calls.mono (part_epochs (kd := m.kind) (n := m.epochs.length) (m := m.ents.length) (b1 := bad || (decide ((128 : Int) < (m.epochs.length : Int)) || m.epochs.any fun x => nb x 281474976710656))
    (Q1 := fun w' => KWb w' B k (out ++ wp .H m) (bad || (decide ((128 : Int) < (m.epochs.length : Int)) || m.epochs.any fun x => nb x 281474976710656)) (L + 3000000) ∧ OnW B k w w' ∧ Blk w' w.heap.size 47 #[.pointer (some ⟨k, 0, none⟩)])
    (Q := fun w' => KWb w' B k (out ++ wp .H m) ((bad || (decide ((128 : Int) < (m.epochs.length : Int)) || m.epochs.any fun x => nb x 281474976710656)) || (m.kind == 4 && m.epochs.length != m.ents.length)) (L + 3000000) ∧ OnW B k w w') h.1.lt (fun w2 hb hx => ?_) (fun w1 hq => ?_) (fun w1 w2 hq hb => ?_)) fun e w' h => WrP.mono h (by omega) rfl ((Bool.or_assoc _ _ _).trans (congrArg (bad || ·) (congrArg (· || (m.kind == 4 && m.epochs.length != m.ents.length)) (congrArg (· || m.epochs.any fun x => nb x 281474976710656) (lt_len 128 _)))))
  · have c2 := c.below hb
    have h2 := h.below hB hb
    exact Calls.mono (lw_u64 c2 (Nat.le_trans hB hb.size) (by omega) (h2.cell 12) (h2.away c2) h2.2.rh l.epochs t.epochs (fun _ _ => trivial) (hx.cell 0) (c2.away hx (by decide) (by decide))) fun e w' h => ⟨h.1, h.2.1, OnW.trans (.of_below hb) h.2.2, hx.only h.2.2 (c2.away hx (by decide) (by decide))⟩
  · have h1 := h.on c hB hq.2.1
    exact ⟨hq.2.2.cell 0, hq.1.c2, hq.1.fz 2, h1.cell 0, h1.sl.2.1, h1.sl.1⟩
  · have c2 := (hq.1.below hb).flag ((bad || (decide ((128 : Int) < (m.epochs.length : Int)) || m.epochs.any fun x => nb x 281474976710656)) || (m.kind == 4 && m.epochs.length != m.ents.length)) (fun e => (Bool.or_eq_false_iff.1 e).1)
    exact ⟨c2.1, (hq.2.1.step hb).trans c2.2⟩
theorem pw_task : PartW 31 (wp .K) (wbad .K) := fun w B k g L m v out bad c hB hL h t l => by
  have l1 := l.path
  have hs := fun {w' : World} (ho : OnW B k w w') => Nat.le_trans hB ho.size
  refine Calls.mono (part_task
    (Q1 := fun w' => KWb w' B k (out ++ wT m.task.path) (bad || (decide (12 < m.task.path.size) || !pathB m.task.path)) (L + 1000010) ∧ OnW B k w w')
    (Q2 := fun w' => KWb w' B k ((out ++ wT m.task.path) ++ wU m.task.fn) ((bad || (decide (12 < m.task.path.size) || !pathB m.task.path)) || nb m.task.fn 15) (L + 1000020) ∧ OnW B k w w')
    (Q3 := fun w' => KWb w' B k (((out ++ wT m.task.path) ++ wU m.task.fn) ++ wLs wI m.task.args) (((bad || (decide (12 < m.task.path.size) || !pathB m.task.path)) || nb m.task.fn 15) || (decide ((16 : Int) < (m.task.args.length : Int)) || m.task.args.any fun _ => false)) (L + 4000020) ∧ OnW B k w w')
    (Q := fun w' => KWb w' B k ((((out ++ wT m.task.path) ++ wU m.task.fn) ++ wLs wI m.task.args) ++ wU m.task.fuel) ((((bad || (decide (12 < m.task.path.size) || !pathB m.task.path)) || nb m.task.fn 15) || (decide ((16 : Int) < (m.task.args.length : Int)) || m.task.args.any fun _ => false)) || nb m.task.fuel 65536) (L + 4000030) ∧ OnW B k w w')
    ?_ (fun w1 q => ?_) (fun w1 q => ?_) (fun w1 q => ?_)) fun e w' h => WrP.mono h (by omega) ?_ ?_
  · exact Calls.mono (pathw_any c hB (by omega) (h.cell 6) (h.away c) (by omega)) fun e w' h => ⟨h.1, h.2.1.mono (by omega), h.2.2⟩
  · have h1 := h.on c hB q.2
    exact Calls.mono (numw_int q.1 (hs q.2) (by omega) (h1.cell 7) (h1.away q.1) t.fn) fun e w' h => ⟨h.1, h.2.1.mono (by omega), q.2.trans h.2.2⟩
  · have h1 := h.on c hB q.2
    exact Calls.mono (lw_i64 q.1 (hs q.2) (by omega) (h1.cell 8) (h1.away q.1) h1.2.ra l.args t.args (fun _ _ => trivial)) fun e w' h => ⟨h.1, h.2.1.mono (by omega), q.2.trans h.2.2⟩
  · have h1 := h.on c hB q.2
    exact Calls.mono (numw_int q.1 (hs q.2) (by omega) (h1.cell 9) (h1.away q.1) t.tfuel) fun e w' h => ⟨h.1, h.2.1.mono (by omega), q.2.trans h.2.2⟩
  · show _ = out ++ wTk m.task
    unfold wTk
    simp only [List.append_assoc]
  · show _ = (bad || ((decide (12 < m.task.path.size) || !pathB m.task.path) || (nb m.task.fn 15 || (decide (16 < m.task.args.length) || nb m.task.fuel 65536))))
    rw [any_none, Bool.or_false, show decide ((16 : Int) < (m.task.args.length : Int)) = decide (16 < m.task.args.length) from lt_len 16 _]
    simp only [Bool.or_assoc]
end Go.Proofs.Ytghbjknpffiaiaa
