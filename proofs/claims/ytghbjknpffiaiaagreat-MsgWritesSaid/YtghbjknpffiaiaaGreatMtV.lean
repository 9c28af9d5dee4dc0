import Derived.Test.YtghbjknpffiaiaaGreatMtU
import Derived.Test.YtghbjknpffiaiaaGreatMgl
namespace Go.Proofs.YtghbjknpffiaiaaGreat
open Go.RowKit Wire Ms
set_option linter.unusedVariables false
set_option linter.unusedSimpArgs false
theorem enc_if {m : M} (t : TyM m) : encS m = ((if mayM m = true then rawS m else ⟨#[]⟩), (if mayM m = true then 0 else 2)) := by
 rw [enc_eq t]; split <;> rfl
theorem may_if (m : M) : ((if mayM m = true then (0 : Int) else 2) == 0) = mayM m := by
 cases mayM m <;> rfl
set_option maxRecDepth 100000 in
set_option maxHeartbeats 8000000 in
theorem writes_run {ma mo : M} {v u : VS} {W : World} (ha : MR W W.heap.size ma v) (hb : MR W W.heap.size mo u) (ta : TyM ma) (tb : TyM mo) :
  Calls Tryz.prog 3 #[.agg (mcells ma v), .agg (mcells mo u)] W (AlP W) := by
 have hW : Below W.heap.size W ((W.alloc (.cells (mcells ma v) 34)).alloc (.cells (mcells mo u) 34)) := ((Below.refl _ W).alloc (Nat.le_refl _) _).alloc (by simp) _
 have ca : ApC W ((W.alloc (.cells (mcells ma v) 34)).alloc (.cells (mcells mo u) 34)) W.heap.size ma v := .one ha hW ((Blk.new W _ _).alloc _)
 have cb : ApC W ((W.alloc (.cells (mcells ma v) 34)).alloc (.cells (mcells mo u) 34)) (W.heap.size + 1) mo u := .one hb hW (blk_new1 W _ _ _)
 obtain ⟨W1, hW1⟩ : ∃ W1, W1 = ((W.alloc (.cells (mcells ma v) 34)).alloc (.cells (mcells mo u) 34)) := ⟨_, rfl⟩
 have K0 : Hid (Below W1.heap.size W1 ((W.alloc (.cells (mcells ma v) 34)).alloc (.cells (mcells mo u) 34))) := Lib.hid (by rw [← hW1]; exact Below.refl _ _)
 rw [← hW1] at hW ca cb
 clear hW1
 have HW := Lib.hid hW
 have HA := Lib.hid ca.blk
 have HX := Lib.hid cb.blk
 have RA := Lib.hid ca.row
 have RB := Lib.hid cb.row
 obtain ⟨p1, c1, p2, c2, p3, c3, p4, c4, p5, c5, p6, c6, rfl⟩ := ha.vs
 obtain ⟨q1, d1, q2, d2, q3, d3, q4, d4, q5, d5, q6, d6, rfl⟩ := hb.vs
 clear ha hb hW ca cb
 by_cases hha : HvOk ma
 case neg =>
  have HHa := Lib.hid (fun w k => heavy_t (RA.out w k) (Nat.le_refl _) hha)
  clear RA RB hha ta tb
  go_enter Tryz.func3, Tryz.ntmps3
  go_wp2_with (first | (refine wpl_load_blk (HA.out _ K0.out) rfl _ _ rfl rfl Tryz.underlying34 rfl (by kernel_rfl) ?_) | (refine wpl_load_blkg (HA.out _ K0.out) rfl _ _ rfl rfl Tryz.underlying34 rfl (by kernel_rfl) ?_) | (go_at_call 6; ((with_reducible refine (HHa.out _ K0.out).mono ?_); rintro e w1 ⟨rfl, hbq⟩; have K1 := Lib.hid (K0.out.step hbq); clear hbq)) | (go_at_call 7; ((with_reducible refine (alive26_any _).mono ?_); rintro e wz ⟨rfl, hbq⟩; have KZ := Lib.hid (K1.out.step hbq); clear hbq)))
  go_ret
  exact ⟨rfl, HW.out.trans (KZ.out.mono HW.out.size)⟩
 case pos =>
  have HHa := Lib.hid (fun w k => heavy_f (RA.out w k) (Nat.le_refl _) hha)
  by_cases hhb : HvOk mo
  case neg =>
   have HHb := Lib.hid (fun w k => heavy_t (RB.out w k) (Nat.le_refl _) hhb)
   clear RA RB hha hhb ta tb
   go_enter Tryz.func3, Tryz.ntmps3
   go_wp2_with (first | (refine wpl_load_blk (HA.out _ K0.out) rfl _ _ rfl rfl Tryz.underlying34 rfl (by kernel_rfl) ?_) | (refine wpl_load_blkg (HA.out _ K0.out) rfl _ _ rfl rfl Tryz.underlying34 rfl (by kernel_rfl) ?_) | (refine wpl_load_blk (HX.out _ K1.out) rfl _ _ rfl rfl Tryz.underlying34 rfl (by kernel_rfl) ?_) | (refine wpl_load_blkg (HX.out _ K1.out) rfl _ _ rfl rfl Tryz.underlying34 rfl (by kernel_rfl) ?_) | (go_at_call 6; ((with_reducible refine (HHa.out _ K0.out).mono ?_); rintro e w1 ⟨rfl, hbq⟩; have K1 := Lib.hid (K0.out.step hbq); clear hbq)) | (go_at_call 6; ((with_reducible refine (HHb.out _ K1.out).mono ?_); rintro e w2 ⟨rfl, hbq⟩; have K2 := Lib.hid (K1.out.step hbq); clear hbq)) | (go_at_call 7; ((with_reducible refine (alive26_any _).mono ?_); rintro e wz ⟨rfl, hbq⟩; have KZ := Lib.hid (K2.out.step hbq); clear hbq)))
   go_ret
   exact ⟨rfl, HW.out.trans (KZ.out.mono HW.out.size)⟩
  case pos =>
   have HHb := Lib.hid (fun w k => heavy_f (RB.out w k) (Nat.le_refl _) hhb)
   have HEa := Lib.hid (fun w k => enc_any (RA.out w k) (Nat.le_refl _) ta hha.lite)
   have HRa := Lib.hid (fun w k => renc26_any (RA.out w k) ta hha.lite)
   have HMA := Lib.hid (fun w k => may_any (RA.out w k) (Nat.le_refl _) ta hha.lite)
   have HMR := Lib.hid (fun w k => rmay26_any (RA.out w k) ta hha.lite)
   have HSA := Lib.hid (fun w k => same_any (RA.out w k) (RB.out w k) (Nat.le_refl _) hha.lite)
   have HSR := Lib.hid (fun w k => rsame_any (RA.out w k) (RB.out w k) (Nat.le_refl _) hha.lite)
   have HSS := Lib.hid (fun w k => (show Calls Tryz.prog 12 #[.agg (mcells ma ⟨.slice p1 ma.input.length c1, .slice p2 ma.task.args.length c2, .slice p3 ma.ents.length c3, .slice p4 ma.epochs.length c4, .slice p5 ma.names.length c5, .slice p6 ma.codes.length c6⟩), .agg (mcells ma ⟨.slice p1 ma.input.length c1, .slice p2 ma.task.args.length c2, .slice p3 ma.ents.length c3, .slice p4 ma.epochs.length c4, .slice p5 ma.names.length c5, .slice p6 ma.codes.length c6⟩)] w (EqP true w) from by have h := same_any (RA.out w k) (RA.out w k) (Nat.le_refl _) hha.lite; rw [decide_eq_true rfl] at h; exact h))
   rw [enc_if ta] at HEa HMA
   unfold EncP9 at HRa
   unfold MyP at HMR
   dsimp only at HEa HMA
   rw [may_if] at HMA
   generalize decide (ma = mo) = r at *
   generalize (if mayM ma = true then rawS ma else ⟨#[]⟩) = sa at *
   generalize (if mayM ma = true then (0 : Int) else 2) = ca at *
   generalize mayM ma = mb at *
   clear RA RB hha hhb ta tb
   go_enter Tryz.func3, Tryz.ntmps3
   go_upto_region 3 with (first | (refine wpl_load_blk (HA.out _ K0.out) rfl _ _ rfl rfl Tryz.underlying34 rfl (by kernel_rfl) ?_) | (refine wpl_load_blkg (HA.out _ K0.out) rfl _ _ rfl rfl Tryz.underlying34 rfl (by kernel_rfl) ?_) | (refine wpl_load_blk (HX.out _ K1.out) rfl _ _ rfl rfl Tryz.underlying34 rfl (by kernel_rfl) ?_) | (refine wpl_load_blkg (HX.out _ K1.out) rfl _ _ rfl rfl Tryz.underlying34 rfl (by kernel_rfl) ?_) | (go_at_call 6; ((with_reducible refine (HHa.out _ K0.out).mono ?_); rintro e w1 ⟨rfl, hbq⟩; have K1 := Lib.hid (K0.out.step hbq); clear hbq)) | (go_at_call 6; ((with_reducible refine (HHb.out _ K1.out).mono ?_); rintro e w2 ⟨rfl, hbq⟩; have K2 := Lib.hid (K1.out.step hbq); clear hbq)))
   go_upto_region 5 with (first | (refine wpl_load_blk (HA.out _ K2.out) rfl _ _ rfl rfl Tryz.underlying34 rfl (by kernel_rfl) ?_) | (refine wpl_load_blkg (HA.out _ K2.out) rfl _ _ rfl rfl Tryz.underlying34 rfl (by kernel_rfl) ?_) | (refine wpl_load_blk (HA.out _ K3.out) rfl _ _ rfl rfl Tryz.underlying34 rfl (by kernel_rfl) ?_) | (refine wpl_load_blkg (HA.out _ K3.out) rfl _ _ rfl rfl Tryz.underlying34 rfl (by kernel_rfl) ?_) | (go_at_call 8; ((with_reducible refine (HEa.out _ K2.out).mono ?_); rintro e w3 ⟨rfl, hbq⟩; have K3 := Lib.hid (K2.out.step hbq); clear hbq)) | (go_at_call 9; ((with_reducible refine (HRa.out _ K3.out).mono ?_); rintro e w4 ⟨rfl, hbq⟩; have K4 := Lib.hid (K3.out.step hbq); clear hbq)))
   clear HHa HHb HEa HRa K0 K1 K2 K3
   refine Reg.wp_rely 32 (fun w => Below W1.heap.size W1 w) (by kernel_rfl) (Reg.relyOk_of (by kernel_rfl)) (K4.out.step (Below.refl _ w4).drew) (fun w w' h hI => hI.step h) ?_
   refine Reg.rely_plain (.string sa) rfl (fun a w hI hF => by
     have f1 : a.tmps.getD 5 undef = .string sa := hF 5 (Reg.looksB (by kernel_rfl))
     clear hF hI
     simp only [Array.getD_eq_getD_getElem?] at f1
     simp only [execOp]; go_simp) ?_
   refine Reg.rely_plain (.string sa) rfl (fun a w hI hF => by
     have f1 : a.tmps.getD 7 undef = .string sa := hF 7 (Reg.looksB (by kernel_rfl))
     clear hF hI
     simp only [Array.getD_eq_getD_getElem?] at f1
     simp only [execOp]; go_simp) ?_
   refine Reg.rely_plain (.bool true) rfl (fun a w hI hF => by
     have f1 : a.tmps.getD 26 undef = .string sa := hF 26 (Reg.looksB (by kernel_rfl))
     have f2 : a.tmps.getD 27 undef = .string sa := hF 27 (Reg.looksB (by kernel_rfl))
     have hq := str_of (a := sa) rfl
     clear hF hI
     simp only [Array.getD_eq_getD_getElem?] at f1 f2
     simp only [execOp]; go_simp) ?_
   refine Reg.rely_plain (.bool true) rfl (fun a w hI hF => by
     have f1 : a.tmps.getD 28 undef = .bool true := hF 28 (Reg.looksB (by kernel_rfl))
     clear hF hI
     simp only [Array.getD_eq_getD_getElem?] at f1
     simp only [execOp]; go_simp) ?_
   refine Reg.rely_isb (.int .i64 ca) 3 true 29 rfl rfl (fun v w h => h) (fun a w hI hF => by
     have f1 : a.tmps.getD 6 undef = .int .i64 ca := hF 6 (Reg.looksB (by kernel_rfl))
     clear hF hI
     simp only [Array.getD_eq_getD_getElem?] at f1
     simp only [execOp]; go_simp) ?_
   refine Reg.rely_isb (.int .i64 ca) 3 true 29 rfl rfl (fun v w h => h) (fun a w hI hF => by
     have f1 : a.tmps.getD 8 undef = .int .i64 ca := hF 8 (Reg.looksB (by kernel_rfl))
     clear hF hI
     simp only [Array.getD_eq_getD_getElem?] at f1
     simp only [execOp]; go_simp) ?_
   refine Reg.rely_isb (.bool true) 3 true 29 rfl rfl (fun v w h => h) (fun a w hI hF => by
     have f1 : a.tmps.getD 30 undef = .int .i64 ca := hF 30 (Reg.looksB (by kernel_rfl))
     have f2 : a.tmps.getD 31 undef = .int .i64 ca := hF 31 (Reg.looksB (by kernel_rfl))
     clear hF hI
     simp only [Array.getD_eq_getD_getElem?] at f1 f2
     simp only [execOp]; go_simp) ?_
   refine Reg.rely_plain (.bool true) rfl (fun a w hI hF => by
     have f1 : a.tmps.getD 29 undef = .bool true := hF 29 (Reg.looksB (by kernel_rfl))
     have f2 : a.tmps.getD 32 undef = .bool true := hF 32 (Reg.looksB (by kernel_rfl))
     clear hF hI
     simp only [Array.getD_eq_getD_getElem?] at f1 f2
     simp only [execOp]; go_simp) ?_
   refine Reg.rely_plain (.bool true) rfl (fun a w hI hF => by
     have f1 : a.tmps.getD 33 undef = .bool true := hF 33 (Reg.looksB (by kernel_rfl))
     clear hF hI
     simp only [Array.getD_eq_getD_getElem?] at f1
     simp only [execOp]; go_simp) ?_
   refine Reg.rely_isb (.agg (mcells ma ⟨.slice p1 ma.input.length c1, .slice p2 ma.task.args.length c2, .slice p3 ma.ents.length c3, .slice p4 ma.epochs.length c4, .slice p5 ma.names.length c5, .slice p6 ma.codes.length c6⟩)) 8 true 34 rfl rfl (fun v w h => h) (fun a w hI hF => run_load_blk (HA.out w hI) rfl (show a.tmps.getD 2 undef = _ from hF 2 (Reg.looksB (by kernel_rfl))) Tryz.underlying34 rfl (by kernel_rfl)) ?_
   refine Reg.rely_callb (Reg.Is (.bool mb)) (Reg.stab_is _ _) (fun G hG => by cases hG) 8 true 34 rfl rfl (fun v w h => h) (fun a w hI hF => by
     have f1 : a.tmps.getD 35 undef = .agg (mcells ma ⟨.slice p1 ma.input.length c1, .slice p2 ma.task.args.length c2, .slice p3 ma.ents.length c3, .slice p4 ma.epochs.length c4, .slice p5 ma.names.length c5, .slice p6 ma.codes.length c6⟩) := hF 35 (Reg.looksB (by kernel_rfl))
     refine ⟨10, #[.agg (mcells ma ⟨.slice p1 ma.input.length c1, .slice p2 ma.task.args.length c2, .slice p3 ma.ents.length c3, .slice p4 ma.epochs.length c4, .slice p5 ma.names.length c5, .slice p6 ma.codes.length c6⟩)], ?_, (HMA.out w hI).mono fun e w' h => ⟨_, h.1, rfl, h.2⟩⟩
     clear hF hI
     simp only [Array.getD_eq_getD_getElem?] at f1
     simp only [execOp]; go_simp) ?_
   refine Reg.rely_isb (.agg (mcells ma ⟨.slice p1 ma.input.length c1, .slice p2 ma.task.args.length c2, .slice p3 ma.ents.length c3, .slice p4 ma.epochs.length c4, .slice p5 ma.names.length c5, .slice p6 ma.codes.length c6⟩)) 8 true 34 rfl rfl (fun v w h => h) (fun a w hI hF => run_load_blk (HA.out w hI) rfl (show a.tmps.getD 2 undef = _ from hF 2 (Reg.looksB (by kernel_rfl))) Tryz.underlying34 rfl (by kernel_rfl)) ?_
   refine Reg.rely_callb (Reg.Is (.bool mb)) (Reg.stab_is _ _) (fun G hG => by cases hG) 8 true 34 rfl rfl (fun v w h => h) (fun a w hI hF => by
     have f1 : a.tmps.getD 37 undef = .agg (mcells ma ⟨.slice p1 ma.input.length c1, .slice p2 ma.task.args.length c2, .slice p3 ma.ents.length c3, .slice p4 ma.epochs.length c4, .slice p5 ma.names.length c5, .slice p6 ma.codes.length c6⟩) := hF 37 (Reg.looksB (by kernel_rfl))
     refine ⟨11, #[.agg (mcells ma ⟨.slice p1 ma.input.length c1, .slice p2 ma.task.args.length c2, .slice p3 ma.ents.length c3, .slice p4 ma.epochs.length c4, .slice p5 ma.names.length c5, .slice p6 ma.codes.length c6⟩)], ?_, (HMR.out w hI).mono fun e w' h => ⟨_, h.1, rfl, h.2⟩⟩
     clear hF hI
     simp only [Array.getD_eq_getD_getElem?] at f1
     simp only [execOp]; go_simp) ?_
   refine Reg.rely_isb (.bool true) 8 true 34 rfl rfl (fun v w h => h) (fun a w hI hF => by
     have f1 : a.tmps.getD 36 undef = .bool mb := hF 36 (Reg.looksB (by kernel_rfl))
     have f2 : a.tmps.getD 38 undef = .bool mb := hF 38 (Reg.looksB (by kernel_rfl))
     clear hF hI
     simp only [Array.getD_eq_getD_getElem?] at f1 f2
     simp only [execOp]; go_simp) ?_
   refine Reg.rely_plain (.bool true) rfl (fun a w hI hF => by
     have f1 : a.tmps.getD 34 undef = .bool true := hF 34 (Reg.looksB (by kernel_rfl))
     have f2 : a.tmps.getD 39 undef = .bool true := hF 39 (Reg.looksB (by kernel_rfl))
     clear hF hI
     simp only [Array.getD_eq_getD_getElem?] at f1 f2
     simp only [execOp]; go_simp) ?_
   refine Reg.rely_plain (.bool true) rfl (fun a w hI hF => by
     have f1 : a.tmps.getD 40 undef = .bool true := hF 40 (Reg.looksB (by kernel_rfl))
     clear hF hI
     simp only [Array.getD_eq_getD_getElem?] at f1
     simp only [execOp]; go_simp) ?_
   refine Reg.rely_isb (.agg (mcells ma ⟨.slice p1 ma.input.length c1, .slice p2 ma.task.args.length c2, .slice p3 ma.ents.length c3, .slice p4 ma.epochs.length c4, .slice p5 ma.names.length c5, .slice p6 ma.codes.length c6⟩)) 15 true 41 rfl rfl (fun v w h => h) (fun a w hI hF => run_load_blk (HA.out w hI) rfl (show a.tmps.getD 2 undef = _ from hF 2 (Reg.looksB (by kernel_rfl))) Tryz.underlying34 rfl (by kernel_rfl)) ?_
   refine Reg.rely_isb (.agg (mcells mo ⟨.slice q1 mo.input.length d1, .slice q2 mo.task.args.length d2, .slice q3 mo.ents.length d3, .slice q4 mo.epochs.length d4, .slice q5 mo.names.length d5, .slice q6 mo.codes.length d6⟩)) 15 true 41 rfl rfl (fun v w h => h) (fun a w hI hF => run_load_blk (HX.out w hI) rfl (show a.tmps.getD 3 undef = _ from hF 3 (Reg.looksB (by kernel_rfl))) Tryz.underlying34 rfl (by kernel_rfl)) ?_
   refine Reg.rely_callb (Reg.Is (.bool r)) (Reg.stab_is _ _) (fun G hG => by cases hG) 15 true 41 rfl rfl (fun v w h => h) (fun a w hI hF => by
     have f1 : a.tmps.getD 42 undef = .agg (mcells ma ⟨.slice p1 ma.input.length c1, .slice p2 ma.task.args.length c2, .slice p3 ma.ents.length c3, .slice p4 ma.epochs.length c4, .slice p5 ma.names.length c5, .slice p6 ma.codes.length c6⟩) := hF 42 (Reg.looksB (by kernel_rfl))
     have f2 : a.tmps.getD 43 undef = .agg (mcells mo ⟨.slice q1 mo.input.length d1, .slice q2 mo.task.args.length d2, .slice q3 mo.ents.length d3, .slice q4 mo.epochs.length d4, .slice q5 mo.names.length d5, .slice q6 mo.codes.length d6⟩) := hF 43 (Reg.looksB (by kernel_rfl))
     refine ⟨12, #[.agg (mcells ma ⟨.slice p1 ma.input.length c1, .slice p2 ma.task.args.length c2, .slice p3 ma.ents.length c3, .slice p4 ma.epochs.length c4, .slice p5 ma.names.length c5, .slice p6 ma.codes.length c6⟩), .agg (mcells mo ⟨.slice q1 mo.input.length d1, .slice q2 mo.task.args.length d2, .slice q3 mo.ents.length d3, .slice q4 mo.epochs.length d4, .slice q5 mo.names.length d5, .slice q6 mo.codes.length d6⟩)], ?_, (HSA.out w hI).mono fun e w' h => ⟨_, h.1, rfl, h.2⟩⟩
     clear hF hI
     simp only [Array.getD_eq_getD_getElem?] at f1 f2
     simp only [execOp]; go_simp) ?_
   refine Reg.rely_isb (.agg (mcells ma ⟨.slice p1 ma.input.length c1, .slice p2 ma.task.args.length c2, .slice p3 ma.ents.length c3, .slice p4 ma.epochs.length c4, .slice p5 ma.names.length c5, .slice p6 ma.codes.length c6⟩)) 15 true 41 rfl rfl (fun v w h => h) (fun a w hI hF => run_load_blk (HA.out w hI) rfl (show a.tmps.getD 2 undef = _ from hF 2 (Reg.looksB (by kernel_rfl))) Tryz.underlying34 rfl (by kernel_rfl)) ?_
   refine Reg.rely_isb (.agg (mcells mo ⟨.slice q1 mo.input.length d1, .slice q2 mo.task.args.length d2, .slice q3 mo.ents.length d3, .slice q4 mo.epochs.length d4, .slice q5 mo.names.length d5, .slice q6 mo.codes.length d6⟩)) 15 true 41 rfl rfl (fun v w h => h) (fun a w hI hF => run_load_blk (HX.out w hI) rfl (show a.tmps.getD 3 undef = _ from hF 3 (Reg.looksB (by kernel_rfl))) Tryz.underlying34 rfl (by kernel_rfl)) ?_
   refine Reg.rely_callb (Reg.Is (.bool r)) (Reg.stab_is _ _) (fun G hG => by cases hG) 15 true 41 rfl rfl (fun v w h => h) (fun a w hI hF => by
     have f1 : a.tmps.getD 45 undef = .agg (mcells ma ⟨.slice p1 ma.input.length c1, .slice p2 ma.task.args.length c2, .slice p3 ma.ents.length c3, .slice p4 ma.epochs.length c4, .slice p5 ma.names.length c5, .slice p6 ma.codes.length c6⟩) := hF 45 (Reg.looksB (by kernel_rfl))
     have f2 : a.tmps.getD 46 undef = .agg (mcells mo ⟨.slice q1 mo.input.length d1, .slice q2 mo.task.args.length d2, .slice q3 mo.ents.length d3, .slice q4 mo.epochs.length d4, .slice q5 mo.names.length d5, .slice q6 mo.codes.length d6⟩) := hF 46 (Reg.looksB (by kernel_rfl))
     refine ⟨13, #[.agg (mcells ma ⟨.slice p1 ma.input.length c1, .slice p2 ma.task.args.length c2, .slice p3 ma.ents.length c3, .slice p4 ma.epochs.length c4, .slice p5 ma.names.length c5, .slice p6 ma.codes.length c6⟩), .agg (mcells mo ⟨.slice q1 mo.input.length d1, .slice q2 mo.task.args.length d2, .slice q3 mo.ents.length d3, .slice q4 mo.epochs.length d4, .slice q5 mo.names.length d5, .slice q6 mo.codes.length d6⟩)], ?_, (HSR.out w hI).mono fun e w' h => ⟨_, h.1, rfl, h.2⟩⟩
     clear hF hI
     simp only [Array.getD_eq_getD_getElem?] at f1 f2
     simp only [execOp]; go_simp) ?_
   refine Reg.rely_isb (.bool true) 15 true 41 rfl rfl (fun v w h => h) (fun a w hI hF => by
     have f1 : a.tmps.getD 44 undef = .bool r := hF 44 (Reg.looksB (by kernel_rfl))
     have f2 : a.tmps.getD 47 undef = .bool r := hF 47 (Reg.looksB (by kernel_rfl))
     clear hF hI
     simp only [Array.getD_eq_getD_getElem?] at f1 f2
     simp only [execOp]; go_simp) ?_
   refine Reg.rely_plain (.bool true) rfl (fun a w hI hF => by
     have f1 : a.tmps.getD 41 undef = .bool true := hF 41 (Reg.looksB (by kernel_rfl))
     have f2 : a.tmps.getD 48 undef = .bool true := hF 48 (Reg.looksB (by kernel_rfl))
     clear hF hI
     simp only [Array.getD_eq_getD_getElem?] at f1 f2
     simp only [execOp]; go_simp) ?_
   refine Reg.rely_plain (.bool true) rfl (fun a w hI hF => by
     have f1 : a.tmps.getD 49 undef = .bool true := hF 49 (Reg.looksB (by kernel_rfl))
     clear hF hI
     simp only [Array.getD_eq_getD_getElem?] at f1
     simp only [execOp]; go_simp) ?_
   refine Reg.rely_isb (.agg (mcells ma ⟨.slice p1 ma.input.length c1, .slice p2 ma.task.args.length c2, .slice p3 ma.ents.length c3, .slice p4 ma.epochs.length c4, .slice p5 ma.names.length c5, .slice p6 ma.codes.length c6⟩)) 24 true 50 rfl rfl (fun v w h => h) (fun a w hI hF => run_load_blk (HA.out w hI) rfl (show a.tmps.getD 2 undef = _ from hF 2 (Reg.looksB (by kernel_rfl))) Tryz.underlying34 rfl (by kernel_rfl)) ?_
   refine Reg.rely_isb (.agg (mcells ma ⟨.slice p1 ma.input.length c1, .slice p2 ma.task.args.length c2, .slice p3 ma.ents.length c3, .slice p4 ma.epochs.length c4, .slice p5 ma.names.length c5, .slice p6 ma.codes.length c6⟩)) 24 true 50 rfl rfl (fun v w h => h) (fun a w hI hF => run_load_blk (HA.out w hI) rfl (show a.tmps.getD 2 undef = _ from hF 2 (Reg.looksB (by kernel_rfl))) Tryz.underlying34 rfl (by kernel_rfl)) ?_
   refine Reg.rely_callb (Reg.Is (.bool true)) (Reg.stab_is _ _) (fun G hG => by cases hG) 24 true 50 rfl rfl (fun v w h => h) (fun a w hI hF => by
     have f1 : a.tmps.getD 51 undef = .agg (mcells ma ⟨.slice p1 ma.input.length c1, .slice p2 ma.task.args.length c2, .slice p3 ma.ents.length c3, .slice p4 ma.epochs.length c4, .slice p5 ma.names.length c5, .slice p6 ma.codes.length c6⟩) := hF 51 (Reg.looksB (by kernel_rfl))
     have f2 : a.tmps.getD 52 undef = .agg (mcells ma ⟨.slice p1 ma.input.length c1, .slice p2 ma.task.args.length c2, .slice p3 ma.ents.length c3, .slice p4 ma.epochs.length c4, .slice p5 ma.names.length c5, .slice p6 ma.codes.length c6⟩) := hF 52 (Reg.looksB (by kernel_rfl))
     refine ⟨12, #[.agg (mcells ma ⟨.slice p1 ma.input.length c1, .slice p2 ma.task.args.length c2, .slice p3 ma.ents.length c3, .slice p4 ma.epochs.length c4, .slice p5 ma.names.length c5, .slice p6 ma.codes.length c6⟩), .agg (mcells ma ⟨.slice p1 ma.input.length c1, .slice p2 ma.task.args.length c2, .slice p3 ma.ents.length c3, .slice p4 ma.epochs.length c4, .slice p5 ma.names.length c5, .slice p6 ma.codes.length c6⟩)], ?_, (HSS.out w hI).mono fun e w' h => ⟨_, h.1, rfl, h.2⟩⟩
     clear hF hI
     simp only [Array.getD_eq_getD_getElem?] at f1 f2
     simp only [execOp]; go_simp) ?_
   refine Reg.rely_plain (.bool true) rfl (fun a w hI hF => by
     have f1 : a.tmps.getD 50 undef = .bool true := hF 50 (Reg.looksB (by kernel_rfl))
     have f2 : a.tmps.getD 53 undef = .bool true := hF 53 (Reg.looksB (by kernel_rfl))
     clear hF hI
     simp only [Array.getD_eq_getD_getElem?] at f1 f2
     simp only [execOp]; go_simp) ?_
   refine Reg.rely_plain (.bool true) rfl (fun a w hI hF => by
     have f1 : a.tmps.getD 54 undef = .bool true := hF 54 (Reg.looksB (by kernel_rfl))
     clear hF hI
     simp only [Array.getD_eq_getD_getElem?] at f1
     simp only [execOp]; go_simp) ?_
   refine Reg.rely_callb (Reg.Is (.bool true)) (Reg.stab_is _ _) (fun G hG => by cases hG) 29 true 55 rfl rfl (fun v w h => h) (fun a w hI hF => by
     refine ⟨7, #[], ?_, (alive26_any w).mono fun e w' h => ⟨_, h.1, rfl, h.2⟩⟩
     clear hF hI
     simp only [execOp]; go_simp) ?_
   refine Reg.rely_plain (.bool true) rfl (fun a w hI hF => by
     have f1 : a.tmps.getD 55 undef = .bool true := hF 55 (Reg.looksB (by kernel_rfl))
     have f2 : a.tmps.getD 56 undef = .bool true := hF 56 (Reg.looksB (by kernel_rfl))
     clear hF hI
     simp only [Array.getD_eq_getD_getElem?] at f1 f2
     simp only [execOp]; go_simp) ?_
   refine Reg.rely_nil ?_
   refine Reg.final_is ?_
   refine Reg.final_is ?_
   refine Reg.final_is ?_
   refine Reg.final_is ?_
   refine Reg.final_is ?_
   refine Reg.final_is ?_
   refine Reg.final_is ?_
   refine Reg.final_is ?_
   refine Reg.final_is ?_
   refine Reg.final_is ?_
   refine Reg.final_is ?_
   refine Reg.final_is ?_
   refine Reg.final_is ?_
   refine Reg.final_is ?_
   refine Reg.final_is ?_
   refine Reg.final_is ?_
   refine Reg.final_is ?_
   refine Reg.final_is ?_
   refine Reg.final_is ?_
   refine Reg.final_is ?_
   refine Reg.final_is ?_
   refine Reg.final_is ?_
   refine Reg.final_is ?_
   refine Reg.final_is ?_
   refine Reg.final_is ?_
   refine Reg.final_is ?_
   refine Reg.final_is ?_
   refine Reg.final_is ?_
   refine Reg.final_is ?_
   refine Reg.final_is ?_
   refine Reg.final_is ?_
   refine Reg.final_is ?_
   refine Reg.final_nil (fun w9 hF => ?_)
   have KZ : Hid (Below W1.heap.size W1 w9) := Lib.hid (by first | exact hF | exact hF.1 | exact hF.1.1)
   clear hF
   simp only [List.drop_succ_cons, List.drop_zero]
   go_simp
   go_wp2_with fail
   refine Reg.fin (by kernel_rfl) ?_
   go_wp2_with fail
   go_ret
   exact ⟨rfl, HW.out.trans (KZ.out.mono HW.out.size)⟩
set_option maxRecDepth 100000 in
theorem writes_open {H : Type} {enc : TypeId × Value → H} {W : World} {base : Nat} {held : Bool} {r : Reach} {b0 b1 : Nat} {d1 d2 : DataW H} {ps1 ps2 : List MemPlace} {x y : Value}
  (hval1 : Value.okWide Tryz.prog W r b0 34 x) (hd1 : DataW.Trod enc Tryz.prog W base (fun _ => true) held 34 x d1 ps1) (_ : ∀ x ∈ ps1, x.block < W.heap.size)
  (hval2 : Value.okWide Tryz.prog W r b1 34 y) (hd2 : DataW.Trod enc Tryz.prog W base (fun _ => true) held 34 y d2 ps2) (_ : ∀ x ∈ ps2, x.block < W.heap.size) :
  Calls Tryz.prog 3 #[x, y] W fun e w' => e = .returned (.bool true) ∧ Below W.heap.size W w' := by
 obtain ⟨ma, v, rfl, h1, t1⟩ := open_msg hval1 hd1
 obtain ⟨mo, u, rfl, h2, t2⟩ := open_msg hval2 hd2
 exact writes_run h1 h2 t1 t2
end Go.Proofs.YtghbjknpffiaiaaGreat
