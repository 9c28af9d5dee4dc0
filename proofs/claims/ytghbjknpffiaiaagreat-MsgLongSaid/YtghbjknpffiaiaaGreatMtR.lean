import Derived.Test.YtghbjknpffiaiaaGreatMtQ
namespace Go.Proofs.YtghbjknpffiaiaaGreat
open Go.RowKit Wire Ms
set_option linter.unusedVariables false
set_option linter.unusedSimpArgs false
theorem raw_ifp (m : M) : stL (((((((((((wU m.kind ++ ifp m .J) ++ ifp m .T) ++ ifp m .P) ++ ifp m .I) ++ ifp m .F) ++ ifp m .K) ++ ifp m .E) ++ (ifp m .N ++ (ifp m .H ++ (ifp m .A ++ ifp m .C)))) ++ ifp m .S) ++ ifp m .R) ++ ifp m .X) = rawS m := by
 apply Ms.bl_inj
 rw [bl_st, bl_rawS]
 unfold raw
 have e : ∀ l : List Pt, (l.flatMap fun p => ifp m p) = wps (l.filter (hasK m.kind)) m := by
  intro l
  induction l with
  | nil => rfl
  | cons p l ih =>
   rw [List.flatMap_cons, ih, List.filter_cons]
   unfold ifp
   cases h : hasK m.kind p with
   | true => rfl
   | false => rfl
 have e2 := e all14
 rw [kp_filter] at e2
 rw [← e2]
 unfold all14
 simp only [List.flatMap_cons, List.flatMap_nil, List.append_assoc, List.append_nil]
set_option maxRecDepth 100000 in
set_option maxHeartbeats 8000000 in
theorem raw26_any {m : M} {W : World} {v : VS} (hv : MR W W.heap.size m v) (t : TyM m) (l : Lite m) (n : NN m) :
  Calls Tryz.prog 16 #[.agg (mcells m v)] W (SB (rawS m) W) := by
 have HD0 := Lib.hid (DXw.start hv)
 obtain ⟨p1, c1, p2, c2, p3, c3, p4, c4, p5, c5, p6, c6, rfl⟩ := hv.vs
 have HT := Lib.hid t
 have HL := Lib.hid l
 have HNN := Lib.hid n
 have HHJ := Lib.hid (fun w => (show Calls Tryz.prog 23 #[.int .u8 m.kind, .int .u8 74] w (HaPost (hasK m.kind .J) w) from has26_any t.kind .J w))
 have HHT := Lib.hid (fun w => (show Calls Tryz.prog 23 #[.int .u8 m.kind, .int .u8 84] w (HaPost (hasK m.kind .T) w) from has26_any t.kind .T w))
 have HHP := Lib.hid (fun w => (show Calls Tryz.prog 23 #[.int .u8 m.kind, .int .u8 80] w (HaPost (hasK m.kind .P) w) from has26_any t.kind .P w))
 have HHI := Lib.hid (fun w => (show Calls Tryz.prog 23 #[.int .u8 m.kind, .int .u8 73] w (HaPost (hasK m.kind .I) w) from has26_any t.kind .I w))
 have HHF := Lib.hid (fun w => (show Calls Tryz.prog 23 #[.int .u8 m.kind, .int .u8 70] w (HaPost (hasK m.kind .F) w) from has26_any t.kind .F w))
 have HHK := Lib.hid (fun w => (show Calls Tryz.prog 23 #[.int .u8 m.kind, .int .u8 75] w (HaPost (hasK m.kind .K) w) from has26_any t.kind .K w))
 have HHE := Lib.hid (fun w => (show Calls Tryz.prog 23 #[.int .u8 m.kind, .int .u8 69] w (HaPost (hasK m.kind .E) w) from has26_any t.kind .E w))
 have HHS := Lib.hid (fun w => (show Calls Tryz.prog 23 #[.int .u8 m.kind, .int .u8 83] w (HaPost (hasK m.kind .S) w) from has26_any t.kind .S w))
 have HHR := Lib.hid (fun w => (show Calls Tryz.prog 23 #[.int .u8 m.kind, .int .u8 82] w (HaPost (hasK m.kind .R) w) from has26_any t.kind .R w))
 have HHX := Lib.hid (fun w => (show Calls Tryz.prog 23 #[.int .u8 m.kind, .int .u8 88] w (HaPost (hasK m.kind .X) w) from has26_any t.kind .X w))
 have HKW : Hid (wrap64 m.kind = m.kind) := Lib.hid (by have := t.kind; unfold wrap64; omega)
 have HSW : Hid (wrap64 m.state = m.state) := Lib.hid (by have := t.state; unfold wrap64; omega)
 have HUK := Lib.hid (fun w => u26_any m.kind (by have := t.kind; omega) w)
 have HJ := Lib.hid (fun w => ruint3_any m.job t.job w)
 have HTX := Lib.hid (fun w => rtext3_any m.tok (by have := l.tok; omega) w)
 have HPX := Lib.hid (fun w => rtext3_any m.prog (by have := l.prog; omega) w)
 have HI := Lib.hid (fun w (x : DXw W m ⟨.slice p1 m.input.length c1, .slice p2 m.task.args.length c2, .slice p3 m.ents.length c3, .slice p4 m.epochs.length c4, .slice p5 m.names.length c5, .slice p6 m.codes.length c6⟩ w) => ints26_any x.row.ri x.le t.input l.input)
 have HF := Lib.hid (fun w => u26_any m.fuel ⟨n.fuel, t.fuel.2⟩ w)
 have HE := Lib.hid (fun w => ruint3_any m.epoch t.epoch w)
 have HLI := Lib.hid (fun w (x : DXw W m ⟨.slice p1 m.input.length c1, .slice p2 m.task.args.length c2, .slice p3 m.ents.length c3, .slice p4 m.epochs.length c4, .slice p5 m.names.length c5, .slice p6 m.codes.length c6⟩ w) => lists26_any (x.row.mono x.le) t l n)
 have HS9 := Lib.hid (fun w => u26_any m.state (by have := t.state; omega) w)
 have HR := Lib.hid (fun w => res26_any m.res.val m.res.err t.res.1 ⟨n.res, t.res.2.2⟩ w)
 have HX := Lib.hid (fun w => u26_any m.err ⟨n.err, t.err.2⟩ w)
 clear hv t l n
 go_enter Tryz.func16, Tryz.ntmps16
 go_upto_region 1 with fail
 generalize W.alloc (.cells (mcells m ⟨.slice p1 m.input.length c1, .slice p2 m.task.args.length c2, .slice p3 m.ents.length c3, .slice p4 m.epochs.length c4, .slice p5 m.names.length c5, .slice p6 m.codes.length c6⟩) 34) = w0 at *
 have y0 : w0.cell? ⟨W.heap.size, 0, none⟩ = some (.int .u8 m.kind) := HD0.out.blk.cell 0
 have hkw : wrap64 m.kind = m.kind := HKW.out
 go_cut [3] (fun s3 wd => LsR W m ⟨.slice p1 m.input.length c1, .slice p2 m.task.args.length c2, .slice p3 m.ents.length c3, .slice p4 m.epochs.length c4, .slice p5 m.names.length c5, .slice p6 m.codes.length c6⟩ (wU m.kind) s3 wd)
 case first =>
  go_wp2_with (go_at_call 44; go_loud ((with_reducible refine (HUK.out _).mono ?_); rintro e wu ⟨rfl, hbq⟩; have HDU := Lib.hid (HD0.out.step hbq); clear hbq))
  go_meet
  exact ⟨congrArg Value.string (st_leb _), HDU.out⟩
 case rest =>
  clear HD0
  obtain ⟨hs3, hx⟩ := hcut
  obtain ⟨A0, hA⟩ : ∃ A0 : Ls, A0 = wU m.kind := ⟨_, rfl⟩
  rw [← hA] at hs3
  subst hs3
  have HA0 := Lib.hid hA
  have HL0 : Hid (A0.length ≤ 10) := Lib.hid (by rw [hA]; have := wU_len (x := m.kind) (by have := HT.out.kind; unfold U64; omega); omega)
  clear hA
  obtain ⟨w10, hwk⟩ : ∃ w10, w10 = wc := ⟨_, rfl⟩
  subst hwk
  have HD0 := Lib.hid hx
  have y0 : w10.cell? ⟨W.heap.size, 0, none⟩ = some (.int .u8 m.kind) := hx.blk.cell 0
  clear hx
  go_upto_if 10 with (go_at_call 23; go_loud ((with_reducible refine (HHJ.out _).mono ?_); rintro e wh ⟨rfl, hbq⟩; have HDX := Lib.hid (HD0.out.step hbq); clear hbq))
  go_cut [3] (fun s3 wd => LsR W m ⟨.slice p1 m.input.length c1, .slice p2 m.task.args.length c2, .slice p3 m.ents.length c3, .slice p4 m.epochs.length c4, .slice p5 m.names.length c5, .slice p6 m.codes.length c6⟩ (A0 ++ ifp m .J) s3 wd)
  case first =>
   cases hk : hasK m.kind .J with
   | false =>
    have HS : Hid (stL A0 = stL (A0 ++ ifp m .J)) := Lib.hid (by unfold ifp; rw [hk]; simp)
    clear hk
    generalize stL A0 = s0 at *
    go_wp2_with fail
    go_meet
    exact ⟨congrArg Value.string HS.out, HDX.out⟩
   | true =>
    have HIFP : Hid (ifp m .J = wp .J m) := Lib.hid (by unfold ifp; rw [hk]; rfl)
    have hlen := wp_len HT.out HL.out HNN.out .J
    clear hk
    have z1 : wh.cell? ⟨W.heap.size, 1, none⟩ = some (.int .u64 m.job) := HDX.out.blk.cell 1
    have hst : Num.lebS m.job = stL (wp .J m) := st_leb _
    have hz : (stL A0).size + (Num.lebS m.job).size ≤ 9223372036854775807 := by rw [hst, st_size, st_size]; have := HL0.out; omega
    have HS : Hid (stL A0 ++ Num.lebS m.job = stL (A0 ++ ifp m .J)) := Lib.hid (by rw [hst, st_app, HIFP.out])
    clear hst hlen
    generalize stL A0 = s0 at *
    generalize Num.lebS m.job = s1 at *
    go_wp2_with (go_at_call 45; go_loud ((with_reducible refine (HJ.out _).mono ?_); rintro e wu ⟨rfl, hbq⟩; have HDU := Lib.hid (HDX.out.step hbq); clear hbq))
    go_meet
    exact ⟨congrArg Value.string HS.out, HDU.out⟩
  case rest =>
   clear HD0
   obtain ⟨hs3, hx⟩ := hcut
   obtain ⟨A1, hA⟩ : ∃ A1 : Ls, A1 = A0 ++ ifp m .J := ⟨_, rfl⟩
   rw [← hA] at hs3
   subst hs3
   have HA1 := Lib.hid hA
   have HL1 : Hid (A1.length ≤ 16000010) := Lib.hid (by rw [hA, List.length_append]; have := HL0.out; have := ifp_len HT.out HL.out HNN.out .J; omega)
   clear hA
   obtain ⟨w11, hwk⟩ : ∃ w11, w11 = wc := ⟨_, rfl⟩
   subst hwk
   have HD0 := Lib.hid hx
   have y0 : w11.cell? ⟨W.heap.size, 0, none⟩ = some (.int .u8 m.kind) := hx.blk.cell 0
   clear hx
   go_upto_if 18 with (go_at_call 23; go_loud ((with_reducible refine (HHT.out _).mono ?_); rintro e wh ⟨rfl, hbq⟩; have HDX := Lib.hid (HD0.out.step hbq); clear hbq))
   go_cut [3] (fun s3 wd => LsR W m ⟨.slice p1 m.input.length c1, .slice p2 m.task.args.length c2, .slice p3 m.ents.length c3, .slice p4 m.epochs.length c4, .slice p5 m.names.length c5, .slice p6 m.codes.length c6⟩ (A1 ++ ifp m .T) s3 wd)
   case first =>
    cases hk : hasK m.kind .T with
    | false =>
     have HS : Hid (stL A1 = stL (A1 ++ ifp m .T)) := Lib.hid (by unfold ifp; rw [hk]; simp)
     clear hk
     generalize stL A1 = s0 at *
     go_wp2_with fail
     go_meet
     exact ⟨congrArg Value.string HS.out, HDX.out⟩
    | true =>
     have HIFP : Hid (ifp m .T = wp .T m) := Lib.hid (by unfold ifp; rw [hk]; rfl)
     have hlen := wp_len HT.out HL.out HNN.out .T
     clear hk
     have z2 : wh.cell? ⟨W.heap.size, 2, none⟩ = some (.string m.tok) := HDX.out.blk.cell 2
     have hst : textS m.tok = stL (wp .T m) := st_text _
     have hz : (stL A1).size + (textS m.tok).size ≤ 9223372036854775807 := by rw [hst, st_size, st_size]; have := HL1.out; omega
     have HS : Hid (stL A1 ++ textS m.tok = stL (A1 ++ ifp m .T)) := Lib.hid (by rw [hst, st_app, HIFP.out])
     clear hst hlen
     generalize stL A1 = s0 at *
     generalize textS m.tok = s1 at *
     go_wp2_with (go_at_call 46; go_loud ((with_reducible refine (HTX.out _).mono ?_); rintro e wu ⟨rfl, hbq⟩; have HDU := Lib.hid (HDX.out.step hbq); clear hbq))
     go_meet
     exact ⟨congrArg Value.string HS.out, HDU.out⟩
   case rest =>
    clear HD0
    obtain ⟨hs3, hx⟩ := hcut
    obtain ⟨A2, hA⟩ : ∃ A2 : Ls, A2 = A1 ++ ifp m .T := ⟨_, rfl⟩
    rw [← hA] at hs3
    subst hs3
    have HA2 := Lib.hid hA
    have HL2 : Hid (A2.length ≤ 32000010) := Lib.hid (by rw [hA, List.length_append]; have := HL1.out; have := ifp_len HT.out HL.out HNN.out .T; omega)
    clear hA
    obtain ⟨w12, hwk⟩ : ∃ w12, w12 = wc := ⟨_, rfl⟩
    subst hwk
    have HD0 := Lib.hid hx
    have y0 : w12.cell? ⟨W.heap.size, 0, none⟩ = some (.int .u8 m.kind) := hx.blk.cell 0
    clear hx
    go_upto_if 26 with (go_at_call 23; go_loud ((with_reducible refine (HHP.out _).mono ?_); rintro e wh ⟨rfl, hbq⟩; have HDX := Lib.hid (HD0.out.step hbq); clear hbq))
    go_cut [3] (fun s3 wd => LsR W m ⟨.slice p1 m.input.length c1, .slice p2 m.task.args.length c2, .slice p3 m.ents.length c3, .slice p4 m.epochs.length c4, .slice p5 m.names.length c5, .slice p6 m.codes.length c6⟩ (A2 ++ ifp m .P) s3 wd)
    case first =>
     cases hk : hasK m.kind .P with
     | false =>
      have HS : Hid (stL A2 = stL (A2 ++ ifp m .P)) := Lib.hid (by unfold ifp; rw [hk]; simp)
      clear hk
      generalize stL A2 = s0 at *
      go_wp2_with fail
      go_meet
      exact ⟨congrArg Value.string HS.out, HDX.out⟩
     | true =>
      have HIFP : Hid (ifp m .P = wp .P m) := Lib.hid (by unfold ifp; rw [hk]; rfl)
      have hlen := wp_len HT.out HL.out HNN.out .P
      clear hk
      have z3 : wh.cell? ⟨W.heap.size, 3, none⟩ = some (.string m.prog) := HDX.out.blk.cell 3
      have hst : textS m.prog = stL (wp .P m) := st_text _
      have hz : (stL A2).size + (textS m.prog).size ≤ 9223372036854775807 := by rw [hst, st_size, st_size]; have := HL2.out; omega
      have HS : Hid (stL A2 ++ textS m.prog = stL (A2 ++ ifp m .P)) := Lib.hid (by rw [hst, st_app, HIFP.out])
      clear hst hlen
      generalize stL A2 = s0 at *
      generalize textS m.prog = s1 at *
      go_wp2_with (go_at_call 46; go_loud ((with_reducible refine (HPX.out _).mono ?_); rintro e wu ⟨rfl, hbq⟩; have HDU := Lib.hid (HDX.out.step hbq); clear hbq))
      go_meet
      exact ⟨congrArg Value.string HS.out, HDU.out⟩
    case rest =>
     clear HD0
     obtain ⟨hs3, hx⟩ := hcut
     obtain ⟨A3, hA⟩ : ∃ A3 : Ls, A3 = A2 ++ ifp m .P := ⟨_, rfl⟩
     rw [← hA] at hs3
     subst hs3
     have HA3 := Lib.hid hA
     have HL3 : Hid (A3.length ≤ 48000010) := Lib.hid (by rw [hA, List.length_append]; have := HL2.out; have := ifp_len HT.out HL.out HNN.out .P; omega)
     clear hA
     obtain ⟨w13, hwk⟩ : ∃ w13, w13 = wc := ⟨_, rfl⟩
     subst hwk
     have HD0 := Lib.hid hx
     have y0 : w13.cell? ⟨W.heap.size, 0, none⟩ = some (.int .u8 m.kind) := hx.blk.cell 0
     clear hx
     go_upto_if 34 with (go_at_call 23; go_loud ((with_reducible refine (HHI.out _).mono ?_); rintro e wh ⟨rfl, hbq⟩; have HDX := Lib.hid (HD0.out.step hbq); clear hbq))
     go_cut [3] (fun s3 wd => LsR W m ⟨.slice p1 m.input.length c1, .slice p2 m.task.args.length c2, .slice p3 m.ents.length c3, .slice p4 m.epochs.length c4, .slice p5 m.names.length c5, .slice p6 m.codes.length c6⟩ (A3 ++ ifp m .I) s3 wd)
     case first =>
      cases hk : hasK m.kind .I with
      | false =>
       have HS : Hid (stL A3 = stL (A3 ++ ifp m .I)) := Lib.hid (by unfold ifp; rw [hk]; simp)
       clear hk
       generalize stL A3 = s0 at *
       go_wp2_with fail
       go_meet
       exact ⟨congrArg Value.string HS.out, HDX.out⟩
      | true =>
       have HIFP : Hid (ifp m .I = wp .I m) := Lib.hid (by unfold ifp; rw [hk]; rfl)
       have hlen := wp_len HT.out HL.out HNN.out .I
       clear hk
       have z4 : wh.cell? ⟨W.heap.size, 4, none⟩ = some (.slice p1 m.input.length c1) := HDX.out.blk.cell 4
       have hst : stL (wLs wI m.input) = stL (wp .I m) := rfl
       have hz : (stL A3).size + (stL (wLs wI m.input)).size ≤ 9223372036854775807 := by rw [hst, st_size, st_size]; have := HL3.out; omega
       have HS : Hid (stL A3 ++ stL (wLs wI m.input) = stL (A3 ++ ifp m .I)) := Lib.hid (by rw [hst, st_app, HIFP.out])
       clear hst hlen
       generalize stL A3 = s0 at *
       generalize stL (wLs wI m.input) = s1 at *
       go_wp2_with (go_at_call 47; go_loud ((with_reducible refine (HI.out _ HDX.out).mono ?_); rintro e wu ⟨rfl, hbq⟩; have HDU := Lib.hid (HDX.out.step hbq); clear hbq))
       go_meet
       exact ⟨congrArg Value.string HS.out, HDU.out⟩
     case rest =>
      clear HD0
      obtain ⟨hs3, hx⟩ := hcut
      obtain ⟨A4, hA⟩ : ∃ A4 : Ls, A4 = A3 ++ ifp m .I := ⟨_, rfl⟩
      rw [← hA] at hs3
      subst hs3
      have HA4 := Lib.hid hA
      have HL4 : Hid (A4.length ≤ 64000010) := Lib.hid (by rw [hA, List.length_append]; have := HL3.out; have := ifp_len HT.out HL.out HNN.out .I; omega)
      clear hA
      obtain ⟨w14, hwk⟩ : ∃ w14, w14 = wc := ⟨_, rfl⟩
      subst hwk
      have HD0 := Lib.hid hx
      have y0 : w14.cell? ⟨W.heap.size, 0, none⟩ = some (.int .u8 m.kind) := hx.blk.cell 0
      clear hx
      go_upto_if 42 with (go_at_call 23; go_loud ((with_reducible refine (HHF.out _).mono ?_); rintro e wh ⟨rfl, hbq⟩; have HDX := Lib.hid (HD0.out.step hbq); clear hbq))
      go_cut [3] (fun s3 wd => LsR W m ⟨.slice p1 m.input.length c1, .slice p2 m.task.args.length c2, .slice p3 m.ents.length c3, .slice p4 m.epochs.length c4, .slice p5 m.names.length c5, .slice p6 m.codes.length c6⟩ (A4 ++ ifp m .F) s3 wd)
      case first =>
       cases hk : hasK m.kind .F with
       | false =>
        have HS : Hid (stL A4 = stL (A4 ++ ifp m .F)) := Lib.hid (by unfold ifp; rw [hk]; simp)
        clear hk
        generalize stL A4 = s0 at *
        go_wp2_with fail
        go_meet
        exact ⟨congrArg Value.string HS.out, HDX.out⟩
       | true =>
        have HIFP : Hid (ifp m .F = wp .F m) := Lib.hid (by unfold ifp; rw [hk]; rfl)
        have hlen := wp_len HT.out HL.out HNN.out .F
        clear hk
        have z5 : wh.cell? ⟨W.heap.size, 5, none⟩ = some (.int .i64 m.fuel) := HDX.out.blk.cell 5
        have hst : Num.lebS m.fuel = stL (wp .F m) := st_leb _
        have hz : (stL A4).size + (Num.lebS m.fuel).size ≤ 9223372036854775807 := by rw [hst, st_size, st_size]; have := HL4.out; omega
        have HS : Hid (stL A4 ++ Num.lebS m.fuel = stL (A4 ++ ifp m .F)) := Lib.hid (by rw [hst, st_app, HIFP.out])
        clear hst hlen
        generalize stL A4 = s0 at *
        generalize Num.lebS m.fuel = s1 at *
        go_wp2_with (go_at_call 44; go_loud ((with_reducible refine (HF.out _).mono ?_); rintro e wu ⟨rfl, hbq⟩; have HDU := Lib.hid (HDX.out.step hbq); clear hbq))
        go_meet
        exact ⟨congrArg Value.string HS.out, HDU.out⟩
      case rest =>
       clear HD0
       obtain ⟨hs3, hx⟩ := hcut
       obtain ⟨A5, hA⟩ : ∃ A5 : Ls, A5 = A4 ++ ifp m .F := ⟨_, rfl⟩
       rw [← hA] at hs3
       subst hs3
       have HA5 := Lib.hid hA
       have HL5 : Hid (A5.length ≤ 80000010) := Lib.hid (by rw [hA, List.length_append]; have := HL4.out; have := ifp_len HT.out HL.out HNN.out .F; omega)
       clear hA
       obtain ⟨w15, hwk⟩ : ∃ w15, w15 = wc := ⟨_, rfl⟩
       subst hwk
       have HD0 := Lib.hid hx
       have y0 : w15.cell? ⟨W.heap.size, 0, none⟩ = some (.int .u8 m.kind) := hx.blk.cell 0
       clear hx
       go_upto_if 50 with (go_at_call 23; go_loud ((with_reducible refine (HHK.out _).mono ?_); rintro e wh ⟨rfl, hbq⟩; have HDX := Lib.hid (HD0.out.step hbq); clear hbq))
       go_cut [3] (fun s3 wd => LsR W m ⟨.slice p1 m.input.length c1, .slice p2 m.task.args.length c2, .slice p3 m.ents.length c3, .slice p4 m.epochs.length c4, .slice p5 m.names.length c5, .slice p6 m.codes.length c6⟩ (A5 ++ ifp m .K) s3 wd)
       case first =>
        cases hk : hasK m.kind .K with
        | false =>
         have HS : Hid (stL A5 = stL (A5 ++ ifp m .K)) := Lib.hid (by unfold ifp; rw [hk]; simp)
         clear hk
         generalize stL A5 = s0 at *
         go_wp2_with fail
         go_meet
         exact ⟨congrArg Value.string HS.out, HDX.out⟩
        | true =>
         have HIFP : Hid (ifp m .K = wp .K m) := Lib.hid (by unfold ifp; rw [hk]; rfl)
         have hlen := wp_len HT.out HL.out HNN.out .K
         clear hk
         have hcat : ((((stL A5 ++ textS m.task.path) ++ Num.lebS m.task.fn) ++ stL (wLs wI m.task.args)) ++ Num.lebS m.task.fuel) = stL (A5 ++ ifp m .K) := by rw [HIFP.out, show wp .K m = wT m.task.path ++ (wU m.task.fn ++ (wLs wI m.task.args ++ wU m.task.fuel)) from rfl, st_text, st_leb, st_leb, st_app, st_app, st_app, st_app]; simp only [List.append_assoc]
         have hsz : (stL A5).size + (textS m.task.path).size + (Num.lebS m.task.fn).size + (stL (wLs wI m.task.args)).size + (Num.lebS m.task.fuel).size ≤ 1000000000 := by have hl2 : (wT m.task.path ++ (wU m.task.fn ++ (wLs wI m.task.args ++ wU m.task.fuel))).length ≤ 4000000 := hlen; simp only [List.length_append] at hl2; rw [st_text, st_leb, st_leb, st_size, st_size, st_size, st_size, st_size]; have := HL5.out; omega
         have HS := Lib.hid hcat
         clear hcat hlen
         generalize stL A5 = s0 at *
         have HK1 := Lib.hid (fun w => rtext3_any m.task.path (by have := HL.out.path; omega) w)
         have HK2 := Lib.hid (fun w => u26_any m.task.fn ⟨HNN.out.fn, HT.out.fn.2⟩ w)
         have HK3 := Lib.hid (fun w (x : DXw W m ⟨.slice p1 m.input.length c1, .slice p2 m.task.args.length c2, .slice p3 m.ents.length c3, .slice p4 m.epochs.length c4, .slice p5 m.names.length c5, .slice p6 m.codes.length c6⟩ w) => ints26_any x.row.ra x.le HT.out.args HL.out.args)
         have HK4 := Lib.hid (fun w => u26_any m.task.fuel ⟨HNN.out.tfuel, HT.out.tfuel.2⟩ w)
         obtain ⟨tp, htp⟩ : ∃ tp, tp = m.task.path := ⟨_, rfl⟩
         obtain ⟨tf, htf⟩ : ∃ tf, tf = m.task.fn := ⟨_, rfl⟩
         obtain ⟨tu, htu⟩ : ∃ tu, tu = m.task.fuel := ⟨_, rfl⟩
         rw [← htp] at HK1 HS hsz
         rw [← htf] at HK2 HS hsz
         rw [← htu] at HK4 HS hsz
         have HTP := Lib.hid htp
         have HTF := Lib.hid htf
         have HTU := Lib.hid htu
         clear htp htf htu
         generalize textS tp = s1 at *
         generalize Num.lebS tf = s2 at *
         generalize stL (wLs wI m.task.args) = s3 at *
         generalize Num.lebS tu = s4 at *
         have HZ1 : Hid (s0.size + s1.size ≤ 9223372036854775807) := Lib.hid (by omega)
         have HZ2 : Hid (s0.size + s1.size + s2.size ≤ 9223372036854775807) := Lib.hid (by omega)
         have HZ3 : Hid (s0.size + s1.size + s2.size + s3.size ≤ 9223372036854775807) := Lib.hid (by omega)
         have HZ4 : Hid (s0.size + s1.size + s2.size + s3.size + s4.size ≤ 9223372036854775807) := Lib.hid (by omega)
         clear hsz y0
         go_upto_region 13 with fail
         refine Reg.wp_rely 21 (fun w => DXw W m ⟨.slice p1 m.input.length c1, .slice p2 m.task.args.length c2, .slice p3 m.ents.length c3, .slice p4 m.epochs.length c4, .slice p5 m.names.length c5, .slice p6 m.codes.length c6⟩ w ∧ Below wh.heap.size wh w) (by kernel_rfl) (Reg.relyOk_of (by kernel_rfl)) ⟨HDX.out.step (Below.refl _ wh).drew, (Below.refl _ wh).drew⟩ (fun w w' h hI => ⟨hI.1.step h, hI.2.step h⟩) ?_
         refine Reg.rely_plain (.string s0) rfl (fun a w hI hF => by
           have f1 : a.tmps.getD 3 undef = .string s0 := hF 3 (Reg.looksB (by kernel_rfl))
           clear hF hI
           simp only [Array.getD_eq_getD_getElem?] at f1
           simp only [execOp]; go_simp) ?_
         refine Reg.rely_plain (.pointer (some ⟨W.heap.size, 6, none⟩)) rfl (fun a w hI hF => by
           have f1 : a.tmps.getD 1 undef = .pointer (some ⟨W.heap.size, 0, none⟩) := hF 1 (Reg.looksB (by kernel_rfl))
           clear hF hI
           simp only [Array.getD_eq_getD_getElem?] at f1
           simp only [execOp]; go_simp) ?_
         refine Reg.rely_plain (.pointer (some ⟨W.heap.size, 6, none⟩)) rfl (fun a w hI hF => by
           have f1 : a.tmps.getD 52 undef = .pointer (some ⟨W.heap.size, 6, none⟩) := hF 52 (Reg.looksB (by kernel_rfl))
           clear hF hI
           simp only [Array.getD_eq_getD_getElem?] at f1
           simp only [execOp]; go_simp) ?_
         refine Reg.rely_plain (.string tp) rfl (fun a w hI hF => by
           have f1 : a.tmps.getD 53 undef = .pointer (some ⟨W.heap.size, 6, none⟩) := hF 53 (Reg.looksB (by kernel_rfl))
           have hc : w.cell? ⟨W.heap.size, 6, none⟩ = some (.string m.task.path) := hI.1.blk.cell 6; rw [← HTP.out] at hc
           clear hF hI
           simp only [Array.getD_eq_getD_getElem?] at f1
           simp only [execOp]; go_simp) ?_
         refine Reg.rely_call0 (Reg.Is (.string s1)) (Reg.stab_is _ _) (fun G hG => by cases hG) rfl (fun a w hI hF => by
           have f1 : a.tmps.getD 54 undef = .string tp := hF 54 (Reg.looksB (by kernel_rfl))
           refine ⟨46, #[.string tp], ?_, (HK1.out w).mono fun e w' h => ⟨_, h.1, rfl, h.2⟩⟩
           clear hF hI
           simp only [Array.getD_eq_getD_getElem?] at f1
           simp only [execOp]; go_simp) ?_
         refine Reg.rely_plain (.string (s0 ++ s1)) rfl (fun a w hI hF => by
           have f1 : a.tmps.getD 51 undef = .string s0 := hF 51 (Reg.looksB (by kernel_rfl))
           have f2 : a.tmps.getD 55 undef = .string s1 := hF 55 (Reg.looksB (by kernel_rfl))
           have hz := HZ1.out
           clear hF hI
           simp only [Array.getD_eq_getD_getElem?] at f1 f2
           simp only [execOp]; go_simp) ?_
         refine Reg.rely_plain (.pointer (some ⟨W.heap.size, 6, none⟩)) rfl (fun a w hI hF => by
           have f1 : a.tmps.getD 1 undef = .pointer (some ⟨W.heap.size, 0, none⟩) := hF 1 (Reg.looksB (by kernel_rfl))
           clear hF hI
           simp only [Array.getD_eq_getD_getElem?] at f1
           simp only [execOp]; go_simp) ?_
         refine Reg.rely_plain (.pointer (some ⟨W.heap.size, 7, none⟩)) rfl (fun a w hI hF => by
           have f1 : a.tmps.getD 57 undef = .pointer (some ⟨W.heap.size, 6, none⟩) := hF 57 (Reg.looksB (by kernel_rfl))
           clear hF hI
           simp only [Array.getD_eq_getD_getElem?] at f1
           simp only [execOp]; go_simp) ?_
         refine Reg.rely_plain (.int .i64 tf) rfl (fun a w hI hF => by
           have f1 : a.tmps.getD 58 undef = .pointer (some ⟨W.heap.size, 7, none⟩) := hF 58 (Reg.looksB (by kernel_rfl))
           have hc : w.cell? ⟨W.heap.size, 7, none⟩ = some (.int .i64 m.task.fn) := hI.1.blk.cell 7; rw [← HTF.out] at hc
           clear hF hI
           simp only [Array.getD_eq_getD_getElem?] at f1
           simp only [execOp]; go_simp) ?_
         refine Reg.rely_call0 (Reg.Is (.string s2)) (Reg.stab_is _ _) (fun G hG => by cases hG) rfl (fun a w hI hF => by
           have f1 : a.tmps.getD 59 undef = .int .i64 tf := hF 59 (Reg.looksB (by kernel_rfl))
           refine ⟨44, #[.int .i64 tf], ?_, (HK2.out w).mono fun e w' h => ⟨_, h.1, rfl, h.2⟩⟩
           clear hF hI
           simp only [Array.getD_eq_getD_getElem?] at f1
           simp only [execOp]; go_simp) ?_
         refine Reg.rely_plain (.string ((s0 ++ s1) ++ s2)) rfl (fun a w hI hF => by
           have f1 : a.tmps.getD 56 undef = .string (s0 ++ s1) := hF 56 (Reg.looksB (by kernel_rfl))
           have f2 : a.tmps.getD 60 undef = .string s2 := hF 60 (Reg.looksB (by kernel_rfl))
           have hz := HZ2.out
           clear hF hI
           simp only [Array.getD_eq_getD_getElem?] at f1 f2
           simp only [execOp]; go_simp) ?_
         refine Reg.rely_plain (.pointer (some ⟨W.heap.size, 6, none⟩)) rfl (fun a w hI hF => by
           have f1 : a.tmps.getD 1 undef = .pointer (some ⟨W.heap.size, 0, none⟩) := hF 1 (Reg.looksB (by kernel_rfl))
           clear hF hI
           simp only [Array.getD_eq_getD_getElem?] at f1
           simp only [execOp]; go_simp) ?_
         refine Reg.rely_plain (.pointer (some ⟨W.heap.size, 8, none⟩)) rfl (fun a w hI hF => by
           have f1 : a.tmps.getD 62 undef = .pointer (some ⟨W.heap.size, 6, none⟩) := hF 62 (Reg.looksB (by kernel_rfl))
           clear hF hI
           simp only [Array.getD_eq_getD_getElem?] at f1
           simp only [execOp]; go_simp) ?_
         refine Reg.rely_plain (.slice p2 m.task.args.length c2) rfl (fun a w hI hF => by
           have f1 : a.tmps.getD 63 undef = .pointer (some ⟨W.heap.size, 8, none⟩) := hF 63 (Reg.looksB (by kernel_rfl))
           have hc : w.cell? ⟨W.heap.size, 8, none⟩ = some (.slice p2 m.task.args.length c2) := hI.1.blk.cell 8
           clear hF hI
           simp only [Array.getD_eq_getD_getElem?] at f1
           simp only [execOp]; go_simp) ?_
         refine Reg.rely_call0 (Reg.Is (.string s3)) (Reg.stab_is _ _) (fun G hG => by cases hG) rfl (fun a w hI hF => by
           have f1 : a.tmps.getD 64 undef = .slice p2 m.task.args.length c2 := hF 64 (Reg.looksB (by kernel_rfl))
           refine ⟨47, #[.slice p2 m.task.args.length c2], ?_, (HK3.out w hI.1).mono fun e w' h => ⟨_, h.1, rfl, h.2⟩⟩
           clear hF hI
           simp only [Array.getD_eq_getD_getElem?] at f1
           simp only [execOp]; go_simp) ?_
         refine Reg.rely_plain (.string (((s0 ++ s1) ++ s2) ++ s3)) rfl (fun a w hI hF => by
           have f1 : a.tmps.getD 61 undef = .string ((s0 ++ s1) ++ s2) := hF 61 (Reg.looksB (by kernel_rfl))
           have f2 : a.tmps.getD 65 undef = .string s3 := hF 65 (Reg.looksB (by kernel_rfl))
           have hz := HZ3.out
           clear hF hI
           simp only [Array.getD_eq_getD_getElem?] at f1 f2
           simp only [execOp]; go_simp) ?_
         refine Reg.rely_plain (.pointer (some ⟨W.heap.size, 6, none⟩)) rfl (fun a w hI hF => by
           have f1 : a.tmps.getD 1 undef = .pointer (some ⟨W.heap.size, 0, none⟩) := hF 1 (Reg.looksB (by kernel_rfl))
           clear hF hI
           simp only [Array.getD_eq_getD_getElem?] at f1
           simp only [execOp]; go_simp) ?_
         refine Reg.rely_plain (.pointer (some ⟨W.heap.size, 9, none⟩)) rfl (fun a w hI hF => by
           have f1 : a.tmps.getD 67 undef = .pointer (some ⟨W.heap.size, 6, none⟩) := hF 67 (Reg.looksB (by kernel_rfl))
           clear hF hI
           simp only [Array.getD_eq_getD_getElem?] at f1
           simp only [execOp]; go_simp) ?_
         refine Reg.rely_plain (.int .i64 tu) rfl (fun a w hI hF => by
           have f1 : a.tmps.getD 68 undef = .pointer (some ⟨W.heap.size, 9, none⟩) := hF 68 (Reg.looksB (by kernel_rfl))
           have hc : w.cell? ⟨W.heap.size, 9, none⟩ = some (.int .i64 m.task.fuel) := hI.1.blk.cell 9; rw [← HTU.out] at hc
           clear hF hI
           simp only [Array.getD_eq_getD_getElem?] at f1
           simp only [execOp]; go_simp) ?_
         refine Reg.rely_call0 (Reg.Is (.string s4)) (Reg.stab_is _ _) (fun G hG => by cases hG) rfl (fun a w hI hF => by
           have f1 : a.tmps.getD 69 undef = .int .i64 tu := hF 69 (Reg.looksB (by kernel_rfl))
           refine ⟨44, #[.int .i64 tu], ?_, (HK4.out w).mono fun e w' h => ⟨_, h.1, rfl, h.2⟩⟩
           clear hF hI
           simp only [Array.getD_eq_getD_getElem?] at f1
           simp only [execOp]; go_simp) ?_
         refine Reg.rely_plain (.string ((((s0 ++ s1) ++ s2) ++ s3) ++ s4)) rfl (fun a w hI hF => by
           have f1 : a.tmps.getD 66 undef = .string (((s0 ++ s1) ++ s2) ++ s3) := hF 66 (Reg.looksB (by kernel_rfl))
           have f2 : a.tmps.getD 70 undef = .string s4 := hF 70 (Reg.looksB (by kernel_rfl))
           have hz := HZ4.out
           clear hF hI
           simp only [Array.getD_eq_getD_getElem?] at f1 f2
           simp only [execOp]; go_simp) ?_
         refine Reg.rely_nil ?_
         refine Reg.final_is ?_
         refine Reg.final_is ?_
         refine Reg.final_is ?_
         refine Reg.final_is ?_
         refine Reg.final_is ?_
         refine Reg.final_is ?_
         refine Reg.final_is ?_
         refine Reg.final_is ?_
         refine Reg.final_is ?_
         refine Reg.final_is ?_
         refine Reg.final_is ?_
         refine Reg.final_is ?_
         refine Reg.final_is ?_
         refine Reg.final_is ?_
         refine Reg.final_is ?_
         refine Reg.final_is ?_
         refine Reg.final_is ?_
         refine Reg.final_is ?_
         refine Reg.final_is ?_
         refine Reg.final_is ?_
         refine Reg.final_is ?_
         refine Reg.final_nil (fun w9 hF => ?_)
         have HDU := Lib.hid hF.1
         clear hF
         simp only [List.drop_succ_cons, List.drop_zero]
         go_simp
         go_wp2_with fail
         refine Reg.fin (by kernel_rfl) ?_
         go_wp2_with fail
         go_meet
         exact ⟨congrArg Value.string HS.out, HDU.out⟩
       case rest =>
        clear HD0
        obtain ⟨hs3, hx⟩ := hcut
        obtain ⟨A6, hA⟩ : ∃ A6 : Ls, A6 = A5 ++ ifp m .K := ⟨_, rfl⟩
        rw [← hA] at hs3
        subst hs3
        have HA6 := Lib.hid hA
        have HL6 : Hid (A6.length ≤ 96000010) := Lib.hid (by rw [hA, List.length_append]; have := HL5.out; have := ifp_len HT.out HL.out HNN.out .K; omega)
        clear hA
        obtain ⟨w16, hwk⟩ : ∃ w16, w16 = wc := ⟨_, rfl⟩
        subst hwk
        have HD0 := Lib.hid hx
        have y0 : w16.cell? ⟨W.heap.size, 0, none⟩ = some (.int .u8 m.kind) := hx.blk.cell 0
        clear hx
        go_upto_if 74 with (go_at_call 23; go_loud ((with_reducible refine (HHE.out _).mono ?_); rintro e wh ⟨rfl, hbq⟩; have HDX := Lib.hid (HD0.out.step hbq); clear hbq))
        go_cut [3] (fun s3 wd => LsR W m ⟨.slice p1 m.input.length c1, .slice p2 m.task.args.length c2, .slice p3 m.ents.length c3, .slice p4 m.epochs.length c4, .slice p5 m.names.length c5, .slice p6 m.codes.length c6⟩ (A6 ++ ifp m .E) s3 wd)
        case first =>
         cases hk : hasK m.kind .E with
         | false =>
          have HS : Hid (stL A6 = stL (A6 ++ ifp m .E)) := Lib.hid (by unfold ifp; rw [hk]; simp)
          clear hk
          generalize stL A6 = s0 at *
          go_wp2_with fail
          go_meet
          exact ⟨congrArg Value.string HS.out, HDX.out⟩
         | true =>
          have HIFP : Hid (ifp m .E = wp .E m) := Lib.hid (by unfold ifp; rw [hk]; rfl)
          have hlen := wp_len HT.out HL.out HNN.out .E
          clear hk
          have z10 : wh.cell? ⟨W.heap.size, 10, none⟩ = some (.int .u64 m.epoch) := HDX.out.blk.cell 10
          have hst : Num.lebS m.epoch = stL (wp .E m) := st_leb _
          have hz : (stL A6).size + (Num.lebS m.epoch).size ≤ 9223372036854775807 := by rw [hst, st_size, st_size]; have := HL6.out; omega
          have HS : Hid (stL A6 ++ Num.lebS m.epoch = stL (A6 ++ ifp m .E)) := Lib.hid (by rw [hst, st_app, HIFP.out])
          clear hst hlen
          generalize stL A6 = s0 at *
          generalize Num.lebS m.epoch = s1 at *
          go_wp2_with (go_at_call 45; go_loud ((with_reducible refine (HE.out _).mono ?_); rintro e wu ⟨rfl, hbq⟩; have HDU := Lib.hid (HDX.out.step hbq); clear hbq))
          go_meet
          exact ⟨congrArg Value.string HS.out, HDU.out⟩
        case rest =>
         clear HD0
         obtain ⟨hs3, hx⟩ := hcut
         obtain ⟨A7, hA⟩ : ∃ A7 : Ls, A7 = A6 ++ ifp m .E := ⟨_, rfl⟩
         rw [← hA] at hs3
         subst hs3
         have HA7 := Lib.hid hA
         have HL7 : Hid (A7.length ≤ 112000010) := Lib.hid (by rw [hA, List.length_append]; have := HL6.out; have := ifp_len HT.out HL.out HNN.out .E; omega)
         clear hA
         obtain ⟨w17, hwk⟩ : ∃ w17, w17 = wc := ⟨_, rfl⟩
         subst hwk
         have HD0 := Lib.hid hx
         have y0 : w17.cell? ⟨W.heap.size, 0, none⟩ = some (.int .u8 m.kind) := hx.blk.cell 0
         clear hx
         have HDX := Lib.hid HD0.out
         go_upto_region 16 with fail
         go_cut [3] (fun s3 wd => LsR W m ⟨.slice p1 m.input.length c1, .slice p2 m.task.args.length c2, .slice p3 m.ents.length c3, .slice p4 m.epochs.length c4, .slice p5 m.names.length c5, .slice p6 m.codes.length c6⟩ (A7 ++ (ifp m .N ++ (ifp m .H ++ (ifp m .A ++ ifp m .C)))) s3 wd)
         case first =>
          have hz : (stL A7).size + (stL (ifp m .N ++ (ifp m .H ++ (ifp m .A ++ ifp m .C)))).size ≤ 9223372036854775807 := by rw [st_size, st_size]; simp only [List.length_append]; have := HL7.out; have := ifp_len HT.out HL.out HNN.out .N; have := ifp_len HT.out HL.out HNN.out .H; have := ifp_len HT.out HL.out HNN.out .A; have := ifp_len HT.out HL.out HNN.out .C; omega
          have HS := Lib.hid (st_app A7 (ifp m .N ++ (ifp m .H ++ (ifp m .A ++ ifp m .C))))
          generalize stL A7 = s0 at *
          generalize stL (ifp m .N ++ (ifp m .H ++ (ifp m .A ++ ifp m .C))) = s1 at *
          go_wp2_with (first | (refine wpl_load_blk HDX.out.blk rfl _ _ rfl rfl Tryz.underlying34 rfl (by kernel_rfl) ?_) | (go_at_call 48; go_loud ((with_reducible refine (HLI.out _ HDX.out).mono ?_); rintro e wu ⟨rfl, hbq⟩; have HDU := Lib.hid (HDX.out.step hbq); clear hbq)))
          go_meet
          exact ⟨congrArg Value.string HS.out, HDU.out⟩
         case rest =>
          clear HD0
          obtain ⟨hs3, hx⟩ := hcut
          obtain ⟨A8, hA⟩ : ∃ A8 : Ls, A8 = A7 ++ (ifp m .N ++ (ifp m .H ++ (ifp m .A ++ ifp m .C))) := ⟨_, rfl⟩
          rw [← hA] at hs3
          subst hs3
          have HA8 := Lib.hid hA
          have HL8 : Hid (A8.length ≤ 128000010) := Lib.hid (by rw [hA]; simp only [List.length_append]; have := HL7.out; have := ifp_len HT.out HL.out HNN.out .N; have := ifp_len HT.out HL.out HNN.out .H; have := ifp_len HT.out HL.out HNN.out .A; have := ifp_len HT.out HL.out HNN.out .C; omega)
          clear hA
          obtain ⟨w18, hwk⟩ : ∃ w18, w18 = wc := ⟨_, rfl⟩
          subst hwk
          have HD0 := Lib.hid hx
          have y0 : w18.cell? ⟨W.heap.size, 0, none⟩ = some (.int .u8 m.kind) := hx.blk.cell 0
          clear hx
          go_upto_if 86 with (go_at_call 23; go_loud ((with_reducible refine (HHS.out _).mono ?_); rintro e wh ⟨rfl, hbq⟩; have HDX := Lib.hid (HD0.out.step hbq); clear hbq))
          go_cut [3] (fun s3 wd => LsR W m ⟨.slice p1 m.input.length c1, .slice p2 m.task.args.length c2, .slice p3 m.ents.length c3, .slice p4 m.epochs.length c4, .slice p5 m.names.length c5, .slice p6 m.codes.length c6⟩ (A8 ++ ifp m .S) s3 wd)
          case first =>
           cases hk : hasK m.kind .S with
           | false =>
            have HS : Hid (stL A8 = stL (A8 ++ ifp m .S)) := Lib.hid (by unfold ifp; rw [hk]; simp)
            clear hk
            generalize stL A8 = s0 at *
            go_wp2_with fail
            go_meet
            exact ⟨congrArg Value.string HS.out, HDX.out⟩
           | true =>
            have HIFP : Hid (ifp m .S = wp .S m) := Lib.hid (by unfold ifp; rw [hk]; rfl)
            have hlen := wp_len HT.out HL.out HNN.out .S
            clear hk
            have z15 : wh.cell? ⟨W.heap.size, 15, none⟩ = some (.int .u8 m.state) := HDX.out.blk.cell 15
            have hst : Num.lebS m.state = stL (wp .S m) := st_leb _
            have hz : (stL A8).size + (Num.lebS m.state).size ≤ 9223372036854775807 := by rw [hst, st_size, st_size]; have := HL8.out; omega
            have HS : Hid (stL A8 ++ Num.lebS m.state = stL (A8 ++ ifp m .S)) := Lib.hid (by rw [hst, st_app, HIFP.out])
            clear hst hlen
            have hsw : wrap64 m.state = m.state := HSW.out
            generalize stL A8 = s0 at *
            generalize Num.lebS m.state = s1 at *
            go_wp2_with (go_at_call 44; go_loud ((with_reducible refine (HS9.out _).mono ?_); rintro e wu ⟨rfl, hbq⟩; have HDU := Lib.hid (HDX.out.step hbq); clear hbq))
            go_meet
            exact ⟨congrArg Value.string HS.out, HDU.out⟩
          case rest =>
           clear HD0
           obtain ⟨hs3, hx⟩ := hcut
           obtain ⟨A9, hA⟩ : ∃ A9 : Ls, A9 = A8 ++ ifp m .S := ⟨_, rfl⟩
           rw [← hA] at hs3
           subst hs3
           have HA9 := Lib.hid hA
           have HL9 : Hid (A9.length ≤ 144000010) := Lib.hid (by rw [hA, List.length_append]; have := HL8.out; have := ifp_len HT.out HL.out HNN.out .S; omega)
           clear hA
           obtain ⟨w19, hwk⟩ : ∃ w19, w19 = wc := ⟨_, rfl⟩
           subst hwk
           have HD0 := Lib.hid hx
           have y0 : w19.cell? ⟨W.heap.size, 0, none⟩ = some (.int .u8 m.kind) := hx.blk.cell 0
           clear hx
           go_upto_if 95 with (go_at_call 23; go_loud ((with_reducible refine (HHR.out _).mono ?_); rintro e wh ⟨rfl, hbq⟩; have HDX := Lib.hid (HD0.out.step hbq); clear hbq))
           go_cut [3] (fun s3 wd => LsR W m ⟨.slice p1 m.input.length c1, .slice p2 m.task.args.length c2, .slice p3 m.ents.length c3, .slice p4 m.epochs.length c4, .slice p5 m.names.length c5, .slice p6 m.codes.length c6⟩ (A9 ++ ifp m .R) s3 wd)
           case first =>
            cases hk : hasK m.kind .R with
            | false =>
             have HS : Hid (stL A9 = stL (A9 ++ ifp m .R)) := Lib.hid (by unfold ifp; rw [hk]; simp)
             clear hk
             generalize stL A9 = s0 at *
             go_wp2_with fail
             go_meet
             exact ⟨congrArg Value.string HS.out, HDX.out⟩
            | true =>
             have HIFP : Hid (ifp m .R = wp .R m) := Lib.hid (by unfold ifp; rw [hk]; rfl)
             have hlen := wp_len HT.out HL.out HNN.out .R
             clear hk
             have z16 : wh.cell? ⟨W.heap.size, 16, none⟩ = some (.int .i64 m.res.val) := HDX.out.blk.cell 16
             have z17 : wh.cell? ⟨W.heap.size, 17, none⟩ = some (.int .i64 m.res.err) := HDX.out.blk.cell 17
             have hst : rsS m.res.val m.res.err = stL (wp .R m) := st_rs _
             have hz : (stL A9).size + (rsS m.res.val m.res.err).size ≤ 9223372036854775807 := by rw [hst, st_size, st_size]; have := HL9.out; omega
             have HS : Hid (stL A9 ++ rsS m.res.val m.res.err = stL (A9 ++ ifp m .R)) := Lib.hid (by rw [hst, st_app, HIFP.out])
             clear hst hlen
             generalize stL A9 = s0 at *
             generalize rsS m.res.val m.res.err = s1 at *
             go_wp2_with (go_at_call 49; go_loud ((with_reducible refine (HR.out _).mono ?_); rintro e wu ⟨rfl, hbq⟩; have HDU := Lib.hid (HDX.out.step hbq); clear hbq))
             go_meet
             exact ⟨congrArg Value.string HS.out, HDU.out⟩
           case rest =>
            clear HD0
            obtain ⟨hs3, hx⟩ := hcut
            obtain ⟨A10, hA⟩ : ∃ A10 : Ls, A10 = A9 ++ ifp m .R := ⟨_, rfl⟩
            rw [← hA] at hs3
            subst hs3
            have HA10 := Lib.hid hA
            have HL10 : Hid (A10.length ≤ 160000010) := Lib.hid (by rw [hA, List.length_append]; have := HL9.out; have := ifp_len HT.out HL.out HNN.out .R; omega)
            clear hA
            obtain ⟨w20, hwk⟩ : ∃ w20, w20 = wc := ⟨_, rfl⟩
            subst hwk
            have HD0 := Lib.hid hx
            have y0 : w20.cell? ⟨W.heap.size, 0, none⟩ = some (.int .u8 m.kind) := hx.blk.cell 0
            clear hx
            go_upto_if 103 with (go_at_call 23; go_loud ((with_reducible refine (HHX.out _).mono ?_); rintro e wh ⟨rfl, hbq⟩; have HDX := Lib.hid (HD0.out.step hbq); clear hbq))
            go_cut [3] (fun s3 wd => LsR W m ⟨.slice p1 m.input.length c1, .slice p2 m.task.args.length c2, .slice p3 m.ents.length c3, .slice p4 m.epochs.length c4, .slice p5 m.names.length c5, .slice p6 m.codes.length c6⟩ (A10 ++ ifp m .X) s3 wd)
            case first =>
             cases hk : hasK m.kind .X with
             | false =>
              have HS : Hid (stL A10 = stL (A10 ++ ifp m .X)) := Lib.hid (by unfold ifp; rw [hk]; simp)
              clear hk
              generalize stL A10 = s0 at *
              go_wp2_with fail
              go_meet
              exact ⟨congrArg Value.string HS.out, HDX.out⟩
             | true =>
              have HIFP : Hid (ifp m .X = wp .X m) := Lib.hid (by unfold ifp; rw [hk]; rfl)
              have hlen := wp_len HT.out HL.out HNN.out .X
              clear hk
              have z18 : wh.cell? ⟨W.heap.size, 18, none⟩ = some (.int .i64 m.err) := HDX.out.blk.cell 18
              have hst : Num.lebS m.err = stL (wp .X m) := st_leb _
              have hz : (stL A10).size + (Num.lebS m.err).size ≤ 9223372036854775807 := by rw [hst, st_size, st_size]; have := HL10.out; omega
              have HS : Hid (stL A10 ++ Num.lebS m.err = stL (A10 ++ ifp m .X)) := Lib.hid (by rw [hst, st_app, HIFP.out])
              clear hst hlen
              generalize stL A10 = s0 at *
              generalize Num.lebS m.err = s1 at *
              go_wp2_with (go_at_call 44; go_loud ((with_reducible refine (HX.out _).mono ?_); rintro e wu ⟨rfl, hbq⟩; have HDU := Lib.hid (HDX.out.step hbq); clear hbq))
              go_meet
              exact ⟨congrArg Value.string HS.out, HDU.out⟩
            case rest =>
             clear HD0
             obtain ⟨hs3, hx⟩ := hcut
             obtain ⟨A11, hA⟩ : ∃ A11 : Ls, A11 = A10 ++ ifp m .X := ⟨_, rfl⟩
             rw [← hA] at hs3
             subst hs3
             have HA11 := Lib.hid hA
             have HL11 : Hid (A11.length ≤ 176000010) := Lib.hid (by rw [hA, List.length_append]; have := HL10.out; have := ifp_len HT.out HL.out HNN.out .X; omega)
             clear hA
             obtain ⟨w21, hwk⟩ : ∃ w21, w21 = wc := ⟨_, rfl⟩
             subst hwk
             have HD0 := Lib.hid hx
             have y0 : w21.cell? ⟨W.heap.size, 0, none⟩ = some (.int .u8 m.kind) := hx.blk.cell 0
             clear hx
             clear y0
             have HS : Hid (stL A11 = rawS m) := Lib.hid (by rw [HA11.out, HA10.out, HA9.out, HA8.out, HA7.out, HA6.out, HA5.out, HA4.out, HA3.out, HA2.out, HA1.out, HA0.out]; exact raw_ifp m)
             generalize stL A11 = s0 at *
             go_wp2_with fail
             go_ret
             exact ⟨congrArg (fun z => Ending.returned (Value.string z)) HS.out, HD0.out.bel⟩
end Go.Proofs.YtghbjknpffiaiaaGreat
