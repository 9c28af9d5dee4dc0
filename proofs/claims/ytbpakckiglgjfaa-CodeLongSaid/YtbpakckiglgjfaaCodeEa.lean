
/- The walk of the document's writer of programs. No condition but that numbers fit their kinds and that rows are not too long. -/
import Derived.Test.YtbpakckiglgjfaaCodeW
import Derived.Test.YtbpakckiglgjfaaCodeR
import Derived.Test.YtbpakckiglgjfaaCodeU
import Derived.Test.YtbpakckiglgjfaaRely2
namespace Go.Proofs.Ytbpakckiglgjfaa
open Go.RowKit Cd Wire
set_option linter.unusedVariables false
theorem leb1 : Num.lebS 1 = ⟨#[1]⟩ := by kernel_rfl
theorem f_cells {w : World} {b : Nat} {T : TypeId} {x y : Int} {v : Value} (h : Blk w b T #[.int .i64 x, .int .i64 y, v]) : w.cell? ⟨b, 0, none⟩ = some (.int .i64 x) ∧ w.cell? ⟨b, 1, none⟩ = some (.int .i64 y) ∧ w.cell? ⟨b, 2, none⟩ = some v := ⟨h.cell 0, h.cell 1, h.cell 2⟩
def BCut (W : World) (b : Nat) (f : FunV) (v : Value) (s : ByteArray) (p : Value) (wc : World) : Prop := p = .string s ∧ Blk wc b 41 #[.int .i64 f.args, .int .i64 f.regs, v] ∧ Below W.heap.size W wc
set_option maxRecDepth 100000 in
set_option maxHeartbeats 8000000 in
theorem rbytes_go {fs : List FunV} {W : World} {v : Value} (hv : FunsAt W v fs) (hm : mayB fs = true) (ho : OkP fs) :
    Calls Try.prog 23 #[.agg #[v]] W fun e w' => ∃ s, e = .returned (.string s) ∧ s = progS fs ∧ Below W.heap.size W w' := by
  obtain ⟨hl16, hfun⟩ := mayB_of hm
  have HB := Lib.hid ((Below.refl _ W).alloc (Nat.le_refl _) (.cells #[v] 24))
  have HT := Lib.hid (Blk.new W 24 #[v])
  have HV := Lib.hid hv
  have HOK := Lib.hid ho
  have HF := Lib.hid hfun
  obtain ⟨p, cap, rfl⟩ := hv.slice
  have hst : (startS fs).size ≤ 20 := by
    have := lebS_size (x := (1 : Int)) (by omega)
    have := lebS_size (x := (fs.length : Int)) (by omega)
    unfold startS; rw [app_size]; omega
  have HST := Lib.hid hst
  have hsz := lebS_size (x := (fs.length : Int)) (by omega)
  have HN := Lib.hid (fun w => rnum_any (fs.length : Int) (by omega) (by omega) w)
  clear hv ho hm hfun hst
  go_enter Try.func23, Try.ntmps23
  go_wp2_with (go_at_call 51; ((with_reducible refine (HN.out _).mono ?_); rintro e w1 ⟨rfl, b1⟩; have HB1 := Lib.hid (HB.out.step b1); have HT1 := Lib.hid (HT.out.below b1); clear b1))
  have hr0 : ERel W fs (.string (⟨#[1]⟩ ++ Num.lebS (fs.length : Int))) (.int .i64 0) w1 := ⟨0, by omega, rfl, by show Value.string _ = Value.string (startS fs); unfold startS; rw [leb1], HB1.out⟩
  have ht0 : Blk w1 W.heap.size 24 #[.slice p fs.length cap] := HT1.out
  clear HB HT HB1 HN hsz HT1
  have HT1 := Lib.hid ht0
  clear ht0
  go_loopw [3, 4] (fun s u wr => ERel W fs s u wr ∧ Below w1.heap.size w1 wr) (fun s u _ => ((fs.length : Int) - intOf u).toNat)
  case atStart => exact ⟨hr0, Below.refl _ _⟩
  case round =>
    obtain ⟨⟨i, hi1, rfl, rfl, hb⟩, hb1⟩ := hrel
    clear hr0
    have z0 : wr.cell? ⟨W.heap.size, 0, none⟩ = some (.slice p fs.length cap) := (HT1.out.below hb1).cell 0
    have hzl := (HT1.out.below hb1).lt
    by_cases hi : i < fs.length
    · obtain ⟨p', cap', e, hx⟩ := HV.out
      injection e with e3 e4 e5
      subst e3 e5
      obtain ⟨g, off, rfl, hg, hx⟩ := hx (by omega)
      obtain ⟨x0, x1, vo, x2, hvo⟩ := hx i hi
      rw [← hb.cell (p := ⟨g, _, none⟩) hg] at x0 x1 x2
      obtain ⟨p2, cap2, rfl⟩ := hvo.slice
      have hmem := List.getElem_mem hi
      have hfu := HF.out _ hmem
      have hok := HOK.out _ hmem
      obtain ⟨ha, hr, hl64, hform⟩ := funB_of hfu
      have hsz := funs_size (l := fs.take i) (fun f h => HOK.out f (List.mem_of_mem_take h)) (fun f h => HF.out f (List.mem_of_mem_take h)) (startS fs)
      rw [List.length_take] at hsz
      have hst := HST.out
      have htk : (fs.take (i + 1)).foldl funS (startS fs) = opsS ((fs.take i).foldl funS (startS fs) ++ headS fs[i]) fs[i].ops := funS_take (s := startS fs) hi
      have hhd := head_size hfu
      have HVO := Lib.hid hvo
      have HBw := Lib.hid hb
      have HB1 := Lib.hid hb1
      have hki1 : (i : Int) < (fs.length : Int) := by omega
      have hki0 : (0 : Int) ≤ (i : Int) := by omega
      have hgl : g < wr.heap.size := by have := hb.size; omega
      have s1 := lebS_size (x := fs[i].args) (by omega)
      have s2 := lebS_size (x := fs[i].regs) (by omega)
      have s3 := lebS_size (x := (fs[i].ops.length : Int)) (by omega)
      have N1 := Lib.hid (fun w => rnum_any fs[i].args ha.1 (by omega) w)
      have N2 := Lib.hid (fun w => rnum_any fs[i].regs hr.1 (by omega) w)
      have N3 := Lib.hid (fun w => rnum_any (fs[i].ops.length : Int) (by omega) (by omega) w)
      have HFO := Lib.hid hform
      have HOO := Lib.hid hok.2.2
      have HTK := Lib.hid htk
      have hh : headS fs[i] = Num.lebS fs[i].args ++ Num.lebS fs[i].regs ++ Num.lebS (fs[i].ops.length : Int) := rfl
      clear hx hb hvo hform hok hfu hmem htk hb1
      generalize (fs.take i).foldl funS (startS fs) = si at *
      generalize headS fs[i] = hd at *
      generalize fs[i] = f at *
      have HF2 := Lib.hid (Blk.new wr 41 #[.int .i64 f.args, .int .i64 f.regs, .slice p2 f.ops.length cap2])
      have HBF := Lib.hid (HBw.out.alloc HBw.out.size (.cells #[.int .i64 f.args, .int .i64 f.regs, .slice p2 f.ops.length cap2] 41))
      have HB1F := Lib.hid (HB1.out.alloc HB1.out.size (.cells #[.int .i64 f.args, .int .i64 f.regs, .slice p2 f.ops.length cap2] 41))
      have hsi : si.size ≤ 60000 := by omega
      go_upto_region 6 with fail
      clear x0 x1 x2 z0 hzl hgl
      generalize hwf : wr.alloc (.cells #[.int .i64 f.args, .int .i64 f.regs, .slice p2 f.ops.length cap2] 41) = wf at *
      generalize wr.heap.size = fb at *
      clear hwf
      generalize f.args = a0 at *
      generalize f.regs = a1 at *
      generalize f.ops.length = a2 at *
      generalize Num.lebS a0 = t0 at *
      generalize Num.lebS a1 = t1 at *
      generalize Num.lebS (a2 : Int) = t2 at *
      have hsd : si ++ hd = si ++ t0 ++ t1 ++ t2 := by rw [hh, ByteArray.append_assoc, ByteArray.append_assoc, ByteArray.append_assoc]
      have HSD := Lib.hid hsd
      clear hsd hh
      obtain ⟨q0, q1, q2⟩ := f_cells HF2.out
      go_cut [3] (fun q wc => q = .string (si ++ hd) ∧ Below wf.heap.size wf wc)
      case first => as_aux_lemma =>
        clear HTK HBF HB1F HVO HBw HB1 HFO HOO HV HF HOK HT1
        refine Reg.wp_rely 14 (fun w => Blk w fb 41 #[.int .i64 a0, .int .i64 a1, .slice p2 a2 cap2] ∧ Below wf.heap.size wf w) (by kernel_rfl) (by kernel_rfl) ⟨HF2.out.drew, (Below.refl _ _).drew⟩ (fun w w' h hI => ⟨hI.1.below h, hI.2.trans (h.mono hI.2.size)⟩) ?_
        refine Reg.rely_move 3 (.string si) rfl rfl (fun v w h => h) ?_
        refine Reg.rely_one 5 (.pointer (some ⟨fb, 0, none⟩)) (.pointer (some ⟨fb, 0, none⟩)) rfl rfl (fun v w h => h) (fun ρ w h hI => by simp only [execOp, h]; go_simp) ?_
        refine Reg.rely_one 25 (.pointer (some ⟨fb, 0, none⟩)) (.int .i64 a0) rfl rfl (fun v w h => h) (fun ρ w h hI => by have hc := (f_cells hI.1).1; clear hI; simp only [execOp, h]; go_simp) ?_
        refine Reg.rely_mk (.string t0) 51 #[.int .i64 a0] rfl (fun a w hI hF => by
          have f1 : a.tmps.getD 26 undef = .int .i64 a0 := hF 26 (Reg.looksB (by kernel_rfl))
          clear hF hI
          simp only [Array.getD_eq_getD_getElem?] at f1
          simp only [execOp]; go_simp) (fun w hI => N1.out w) ?_
        refine Reg.rely_two 24 27 (.string si) (.string t0) (.string (si ++ t0)) rfl rfl (fun v w h => h) (fun v w h => h) (fun ρ w h1 h2 hI => by clear hI; simp only [execOp, h1, h2]; go_simp; omega) ?_
        refine Reg.rely_one 5 (.pointer (some ⟨fb, 0, none⟩)) (.pointer (some ⟨fb, 1, none⟩)) rfl rfl (fun v w h => h) (fun ρ w h hI => by simp only [execOp, h]; go_simp) ?_
        refine Reg.rely_one 29 (.pointer (some ⟨fb, 1, none⟩)) (.int .i64 a1) rfl rfl (fun v w h => h) (fun ρ w h hI => by have hc := (f_cells hI.1).2.1; clear hI; simp only [execOp, h]; go_simp) ?_
        refine Reg.rely_mk (.string t1) 51 #[.int .i64 a1] rfl (fun a w hI hF => by
          have f1 : a.tmps.getD 30 undef = .int .i64 a1 := hF 30 (Reg.looksB (by kernel_rfl))
          clear hF hI
          simp only [Array.getD_eq_getD_getElem?] at f1
          simp only [execOp]; go_simp) (fun w hI => N2.out w) ?_
        refine Reg.rely_two 28 31 (.string (si ++ t0)) (.string t1) (.string (si ++ t0 ++ t1)) rfl rfl (fun v w h => h) (fun v w h => h) (fun ρ w h1 h2 hI => by clear hI; simp only [execOp, h1, h2]; go_simp; omega) ?_
        refine Reg.rely_one 5 (.pointer (some ⟨fb, 0, none⟩)) (.pointer (some ⟨fb, 2, none⟩)) rfl rfl (fun v w h => h) (fun ρ w h hI => by simp only [execOp, h]; go_simp) ?_
        refine Reg.rely_one 33 (.pointer (some ⟨fb, 2, none⟩)) (.slice p2 a2 cap2) rfl rfl (fun v w h => h) (fun ρ w h hI => by have hc := (f_cells hI.1).2.2; clear hI; simp only [execOp, h]; go_simp) ?_
        refine Reg.rely_one 34 (.slice p2 a2 cap2) (.int .i64 a2) rfl rfl (fun v w h => h) (fun ρ w h hI => by simp only [execOp, h]; go_simp) ?_
        refine Reg.rely_mk (.string t2) 51 #[.int .i64 a2] rfl (fun a w hI hF => by
          have f1 : a.tmps.getD 35 undef = .int .i64 a2 := hF 35 (Reg.looksB (by kernel_rfl))
          clear hF hI
          simp only [Array.getD_eq_getD_getElem?] at f1
          simp only [execOp]; go_simp) (fun w hI => N3.out w) ?_
        refine Reg.rely_two 32 36 (.string (si ++ t0 ++ t1)) (.string t2) (.string (si ++ t0 ++ t1 ++ t2)) rfl rfl (fun v w h => h) (fun v w h => h) (fun ρ w h1 h2 hI => by clear hI; simp only [execOp, h1, h2]; go_simp; omega) ?_
        refine Reg.rely_nil ?_
        refine Reg.final_is ?_
        refine Reg.final_is ?_
        refine Reg.final_is ?_
        refine Reg.final_is ?_
        refine Reg.final_is ?_
        refine Reg.final_is ?_
        refine Reg.final_is ?_
        refine Reg.final_is ?_
        refine Reg.final_is ?_
        refine Reg.final_is ?_
        refine Reg.final_is ?_
        refine Reg.final_is ?_
        refine Reg.final_is ?_
        refine Reg.final_is ?_
        refine Reg.final_nil (fun w hw => ?_)
        have HZ := Lib.hid hw
        clear hw
        simp only [List.drop_succ_cons, List.drop_zero]
        go_simp
        go_wp2_with fail
        refine Reg.fin (by kernel_rfl) ?_
        go_wp2_with fail
        go_meet
        exact ⟨congrArg Value.string HSD.out.symm, HZ.out.2⟩
      case rest =>
        obtain ⟨rfl, hbz⟩ := hcut
        have HBZ := Lib.hid (HBF.out.step hbz)
        have HB1Z := Lib.hid (HB1F.out.step hbz)
        have HFZ := Lib.hid (HF2.out.below hbz)
        have hr1 : ORel W (si ++ hd) f.ops (.string (si ++ hd)) (.int .i64 0) wc ∧ Below wc.heap.size wc wc := ⟨⟨0, by omega, rfl, rfl, HBZ.out⟩, Below.refl _ _⟩
        have HOL := Lib.hid (show OpsAt W (.slice p2 a2 cap2) f.ops from HVO.out)
        have hol := HVO.out.slice
        clear HSD HBF HB1F HF2 HBw HB1 N1 N2 N3 hbz q0 q1 q2 HVO
        have ha2 : f.ops.length = a2 := by obtain ⟨_, _, e⟩ := hol; injection e with _ e _; exact e.symm
        clear hol
        have HA2 := Lib.hid ha2
        clear ha2
        go_wp2
        go_loopw [3, 6] (fun s u wq => ORel W (si ++ hd) f.ops s u wq ∧ Below wc.heap.size wc wq) (fun s u _ => ((a2 : Int) - intOf u).toNat)
        case atStart => exact hr1
        case round =>
          obtain ⟨⟨j, hj1, rfl, rfl, hb2⟩, hb3⟩ := hrel
          clear hr1
          have u2 : wr.cell? ⟨fb, 2, none⟩ = some (.slice p2 a2 cap2) := (HFZ.out.below hb3).cell 2
          by_cases hj : j < a2
          · have hjl : j < f.ops.length := by have := HA2.out; omega
            obtain ⟨p3, cap3, e3, hx⟩ := HOL.out
            injection e3 with e3 e4 e5
            subst e3 e5
            obtain ⟨g2, off2, rfl, hg2, hx⟩ := hx (by omega)
            have x0 := hx j hjl 0 (by omega)
            have x1 := hx j hjl 1 (by omega)
            have x2 := hx j hjl 2 (by omega)
            have x3 := hx j hjl 3 (by omega)
            have x4 := hx j hjl 4 (by omega)
            rw [← hb2.cell (p := ⟨g2, _, none⟩) hg2] at x0 x1 x2 x3 x4
            have hmem := List.getElem_mem hjl
            have HW := Lib.hid (fun w => ropbytes_any f.ops[j] (HOO.out _ hmem) (HFO.out _ hmem) w)
            have hzo := opS_size (HOO.out _ hmem) (HFO.out _ hmem)
            have hsz2 := opsS_size (l := f.ops.take j) (fun o h => HOO.out o (List.mem_of_mem_take h)) (fun o h => HFO.out o (List.mem_of_mem_take h)) (si ++ hd)
            rw [List.length_take, app_size] at hsz2
            have htj := Lib.hid (opsS_take (s := si ++ hd) hjl)
            have HB2 := Lib.hid hb2
            have HB3 := Lib.hid hb3
            have hki1 : (j : Int) < (a2 : Int) := by omega
            have hki0 : (0 : Int) ≤ (j : Int) := by omega
            clear hx hb2 hb3 hmem
            generalize opsS (si ++ hd) (f.ops.take j) = sj at *
            generalize f.ops[j] = o at *
            generalize opS o = os at *
            obtain ⟨ok, od, oa, ob, on⟩ := o
            simp only [opA] at x0 x1 x2 x3 x4 HW
            simp at x0 x1 x2 x3 x4
            go_wp2_with (go_at_call 52; ((with_reducible refine (HW.out _).mono ?_); rintro e w4 ⟨rfl, b4⟩; have HB4 := Lib.hid (HB2.out.step b4); have HB5 := Lib.hid (HB3.out.step b4); clear b4))
            go_roundw
            case rel => exact ⟨⟨j + 1, by have := HA2.out; omega, rfl, congrArg Value.string htj.out.symm, HB4.out⟩, HB5.out⟩
            case measure => simp [intOf]; omega
          · have : j = a2 := by have := HA2.out; omega
            have hjl : j = f.ops.length := by have := HA2.out; omega
            have HB2 := Lib.hid hb2
            have HB3 := Lib.hid (HB1Z.out.trans (hb3.mono HB1Z.out.size))
            have HTE : Hid (opsS (si ++ hd) (f.ops.take j) = (fs.take (i + 1)).foldl funS (startS fs)) := Lib.hid (by rw [HTK.out, hjl, List.take_length])
            clear hb2 hb3 hjl
            subst this
            go_wp2
            go_roundw
            case rel => exact ⟨⟨i + 1, by omega, rfl, congrArg Value.string HTE.out, HB2.out⟩, HB3.out⟩
            case measure => simp [intOf]; omega
    · have : i = fs.length := by omega
      subst this
      rw [List.take_length]
      have HBw := Lib.hid hb
      clear hb hb1 HV HOK HF HST
      go_wp2
      go_ret
      exact ⟨_, rfl, rfl, HBw.out⟩
set_option maxHeartbeats 4000000 in
theorem rencode_go {fs : List FunV} {W : World} {v : Value} (hv : FunsAt W v fs) (hn : Lim fs) (ho : OkP fs) :
    Calls Try.prog 12 #[.agg #[v]] W fun e w' => ∃ s c, e = .returned (.tuple #[.string s, .int .i64 c]) ∧ s = encV fs ∧ c = encC fs ∧ Below W.heap.size W w' := by
  have HM := Lib.hid (rmay_any (hv.alloc (.cells #[v] 24)) hn ho)
  have HB := Lib.hid ((Below.refl _ W).alloc (Nat.le_refl _) (.cells #[v] 24))
  have HT := Lib.hid (Blk.new W 24 #[v])
  have HV := Lib.hid (hv.alloc (.cells #[v] 24))
  have HO := Lib.hid ho
  obtain ⟨p, cap, rfl⟩ := hv.slice
  clear hv hn ho
  cases hm : mayB fs with
  | false =>
    rw [hm] at HM
    have HE := Lib.hid (And.intro (show encV fs = ⟨#[]⟩ by unfold encV; rw [hm]; rfl) (show encC fs = 2 by unfold encC; rw [hm]; rfl))
    clear hm
    go_enter Try.func12, Try.ntmps12
    go_wp2_with (go_at_call 14; ((with_reducible refine HM.out.mono ?_); rintro e w1 ⟨rfl, b1⟩))
    go_ret2
    exact ⟨_, _, rfl, HE.out.1.symm, HE.out.2.symm, HB.out.step b1⟩
  | true =>
    rw [hm] at HM
    have HE := Lib.hid (And.intro (show encV fs = if 16384 < (progS fs).size then ⟨#[]⟩ else progS fs by unfold encV; rw [hm]; rfl) (show encC fs = if 16384 < (progS fs).size then 4 else 0 by unfold encC; rw [hm]; rfl))
    have HR := Lib.hid (fun w (hb : Below (W.alloc (.cells #[.slice p fs.length cap] 24)).heap.size (W.alloc (.cells #[.slice p fs.length cap] 24)) w) => rbytes_go (HV.out.below hb) hm HO.out)
    clear hm
    by_cases hbig : 16384 < (progS fs).size
    · have h1 := HE.out
      rw [if_pos hbig, if_pos hbig] at h1
      have H1 := Lib.hid h1
      clear h1 HE
      generalize progS fs = ps at *
      have hb' : (16384 : Int) < (ps.size : Int) := by omega
      go_enter Try.func12, Try.ntmps12
      go_wp2_with (first | (go_at_call 14; ((with_reducible refine HM.out.mono ?_); rintro e w1 ⟨rfl, b1⟩; have HB1 := Lib.hid (HB.out.step b1); have x0 : w1.cell? ⟨W.heap.size, 0, none⟩ = some (.slice p fs.length cap) := (HT.out.below b1).cell 0; have HR1 := Lib.hid (HR.out _ b1); clear b1)) | (go_at_call 23; ((with_reducible refine HR1.out.mono ?_); rintro e w2 ⟨s2, rfl, rfl, b2⟩)))
      go_ret2
      exact ⟨_, _, rfl, H1.out.1.symm, H1.out.2.symm, HB1.out.step b2⟩
    · have h1 := HE.out
      rw [if_neg hbig, if_neg hbig] at h1
      have H1 := Lib.hid h1
      clear h1 HE
      generalize progS fs = ps at *
      have hb' : (ps.size : Int) ≤ (16384 : Int) := by omega
      go_enter Try.func12, Try.ntmps12
      go_wp2_with (first | (go_at_call 14; ((with_reducible refine HM.out.mono ?_); rintro e w1 ⟨rfl, b1⟩; have HB1 := Lib.hid (HB.out.step b1); have x0 : w1.cell? ⟨W.heap.size, 0, none⟩ = some (.slice p fs.length cap) := (HT.out.below b1).cell 0; have HR1 := Lib.hid (HR.out _ b1); clear b1)) | (go_at_call 23; ((with_reducible refine HR1.out.mono ?_); rintro e w2 ⟨s2, rfl, rfl, b2⟩)))
      go_ret2
      exact ⟨_, _, rfl, H1.out.1.symm, H1.out.2.symm, HB1.out.step b2⟩
end Go.Proofs.Ytbpakckiglgjfaa
