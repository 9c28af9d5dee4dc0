import Derived.Test.YtghbjknpffiaiaaGreatMgk
import Derived.Test.YtghbjknpffiaiaaGreatMtY
import Derived.Test.YtghbjknpffiaiaaGreatMtU
namespace Go.Proofs.YtghbjknpffiaiaaGreat
open Go.RowKit Wire Ms
set_option linter.unusedVariables false
set_option linter.unusedSimpArgs false
set_option maxRecDepth 100000 in
set_option maxHeartbeats 8000000 in
theorem rdec26_any (s : ByteArray) (hs : s.size ≤ maxLen) (W : World) : Calls Tryz.prog 15 #[.string s] W (DecP W (decS s).1 (decS s).2) := by
 rw [← dec_eq]
 have hrd := readD_rif ⟨s, 0⟩
 have hty := ty_readD ⟨s, 0⟩
 have hli := lite_read ⟨s, 0⟩
 have hd : decD s = if ((endE (readD ⟨s, 0⟩).2.s (readD ⟨s, 0⟩).2.e == 0) && mayM (readD ⟨s, 0⟩).1) then ((readD ⟨s, 0⟩).1, 0) else (m0, 8) := rfl
 rw [hd]
 clear hd
 generalize hrr : (if ((endE (readD ⟨s, 0⟩).2.s (readD ⟨s, 0⟩).2.e == 0) && mayM (readD ⟨s, 0⟩).1) = true then ((readD ⟨s, 0⟩).1, (0 : Int)) else (m0, 8)) = rr
 have hk17 := uV_rg (m := 17) (by decide) (⟨s, 0⟩ : RS)
 have hwk : IntKind.u8.wrap (uV 17 ⟨s, 0⟩) = uV 17 ⟨s, 0⟩ := by rw [IntKind.wrap_u8]; omega
 have HR0 : Hid (RQ ((W.alloc (.cells #[.int .u8 0, .int .u64 0, .string ⟨#[]⟩, .string ⟨#[]⟩, .slice none 0 0, .int .i64 0, .string ⟨#[]⟩, .int .i64 0, .slice none 0 0, .int .i64 0, .int .u64 0, .slice none 0 0, .slice none 0 0, .slice none 0 0, .slice none 0 0, .int .u8 0, .int .i64 0, .int .i64 0, .int .i64 0] 34)).alloc (.cells #[.string s, .int .i64 0] 76)) (W.heap.size + 1) ⟨s, 0⟩) := Lib.hid ⟨by have := Blk.new (W.alloc (.cells #[.int .u8 0, .int .u64 0, .string ⟨#[]⟩, .string ⟨#[]⟩, .slice none 0 0, .int .i64 0, .string ⟨#[]⟩, .int .i64 0, .slice none 0 0, .int .i64 0, .int .u64 0, .slice none 0 0, .slice none 0 0, .slice none 0 0, .slice none 0 0, .int .u8 0, .int .i64 0, .int .i64 0, .int .i64 0] 34)) 76 #[.string s, .int .i64 0]; rwa [show (W.alloc (.cells #[.int .u8 0, .int .u64 0, .string ⟨#[]⟩, .string ⟨#[]⟩, .slice none 0 0, .int .i64 0, .string ⟨#[]⟩, .int .i64 0, .slice none 0 0, .int .i64 0, .int .u64 0, .slice none 0 0, .slice none 0 0, .slice none 0 0, .slice none 0 0, .int .u8 0, .int .i64 0, .int .i64 0, .int .i64 0] 34)).heap.size = W.heap.size + 1 from by simp] at this, hs⟩
 have HC0 := Lib.hid (fun w (h : RQ w (W.heap.size + 1) ⟨s, 0⟩) => rU_any h 17)
 generalize uV 17 (⟨s, 0⟩ : RS) = k at *
 generalize uS 17 (⟨s, 0⟩ : RS) = q0 at *
 generalize readD ⟨s, 0⟩ = mq at *
 have HEQ := Lib.hid hrd
 have HKR : Hid (0 ≤ k ∧ k ≤ 255) := Lib.hid (by omega)
 have hkr : 0 ≤ k ∧ k ≤ 255 := HKR.out
 have HFIN : Hid ((∀ w v, MR w w.heap.size mq.1 v → Calls Tryz.prog 11 #[.agg (mcells mq.1 v)] w (MyP mq.1 w)) ∧ True) := Lib.hid ⟨fun w v h => rmay26_any h hty hli, trivial⟩
 have HRR := Lib.hid hrr.symm
 clear hrd hty hli hs hk17 hrr
 have HHJ := Lib.hid (fun w => (show Calls Tryz.prog 23 #[.int .u8 k, .int .u8 74] w (HaPost (hasK k .J) w) from has26_any hkr .J w))
 have HHT := Lib.hid (fun w => (show Calls Tryz.prog 23 #[.int .u8 k, .int .u8 84] w (HaPost (hasK k .T) w) from has26_any hkr .T w))
 have HHP := Lib.hid (fun w => (show Calls Tryz.prog 23 #[.int .u8 k, .int .u8 80] w (HaPost (hasK k .P) w) from has26_any hkr .P w))
 have HHI := Lib.hid (fun w => (show Calls Tryz.prog 23 #[.int .u8 k, .int .u8 73] w (HaPost (hasK k .I) w) from has26_any hkr .I w))
 have HHF := Lib.hid (fun w => (show Calls Tryz.prog 23 #[.int .u8 k, .int .u8 70] w (HaPost (hasK k .F) w) from has26_any hkr .F w))
 have HHK := Lib.hid (fun w => (show Calls Tryz.prog 23 #[.int .u8 k, .int .u8 75] w (HaPost (hasK k .K) w) from has26_any hkr .K w))
 have HHE := Lib.hid (fun w => (show Calls Tryz.prog 23 #[.int .u8 k, .int .u8 69] w (HaPost (hasK k .E) w) from has26_any hkr .E w))
 have HHS := Lib.hid (fun w => (show Calls Tryz.prog 23 #[.int .u8 k, .int .u8 83] w (HaPost (hasK k .S) w) from has26_any hkr .S w))
 have HHR := Lib.hid (fun w => (show Calls Tryz.prog 23 #[.int .u8 k, .int .u8 82] w (HaPost (hasK k .R) w) from has26_any hkr .R w))
 have HHX := Lib.hid (fun w => (show Calls Tryz.prog 23 #[.int .u8 k, .int .u8 88] w (HaPost (hasK k .X) w) from has26_any hkr .X w))
 clear hkr
 go_enter Tryz.func15, Tryz.ntmps15
 go_upto_region 3 with (first
  | (go_at_call 38; go_loud ((with_reducible refine (HC0.out _ HR0.out).mono ?_); rintro e w1 ⟨rfl, hp, ho⟩; have HB1 := Lib.hid (Blk.new w1 34 #[.int .u8 0, .int .u64 0, .string ⟨#[]⟩, .string ⟨#[]⟩, .slice none 0 0, .int .i64 0, .string ⟨#[]⟩, .int .i64 0, .slice none 0 0, .int .i64 0, .int .u64 0, .slice none 0 0, .slice none 0 0, .slice none 0 0, .slice none 0 0, .int .u8 0, .int .i64 0, .int .i64 0, .int .i64 0]); have HS1 := Lib.hid (fun w3 => dq_start (w3 := w3) (k := k) hp ho); clear hp ho))
  | (refine wpl_store_blk (c' := mcells { m0 with kind := k } nilVS) HB1.out rfl _ _ _ rfl rfl rfl (by kernel_rfl) rfl mc_one ?_; go_loud (intro w3 hb3 ho3; have HD0 := Lib.hid (HS1.out w3 hb3 ho3); clear hb3 ho3)))
 clear HB1 HS1 HC0 HR0 hwk
 have HNL0 : Hid (NL nilVS) := Lib.hid ⟨rfl, rfl, rfl, rfl⟩
 have HK0 : Hid (({ m0 with kind := k } : M).kind = k) := Lib.hid rfl
 generalize ({ m0 with kind := k } : M) = t0 at *
 generalize nilVS = u0 at *
 generalize W.heap.size + 1 = b at *
 generalize w1.heap.size = g at *
 obtain ⟨r0, hr0⟩ : ∃ r0, r0 = W.heap.size := ⟨_, rfl⟩
 skip
 have y0 : w3.cell? ⟨g, 0, none⟩ = some (.int .u8 k) := (HD0.out.gt.cell 0).trans (congrArg (fun z => some (Value.int .u8 z)) HK0.out)
 go_upto_if 15 with (go_at_call 23; go_loud ((with_reducible refine (HHJ.out _).mono ?_); rintro e wh ⟨rfl, hbq⟩; have HDX := Lib.hid (HD0.out.step hbq); clear hbq))
 clear y0 HD0
 go_cut [] (fun wd => DC NL W b g W.heap.size (rif k .J (t0, q0)) wd)
 case first =>
  clear HFIN
  cases hk : hasK k .J with
  | false =>
   have HF : Hid (∀ w, DQ W b g W.heap.size t0 u0 q0 w → DC NL W b g W.heap.size (rif k .J (t0, q0)) w) := Lib.hid fun w h => dc_no hk h HNL0.out
   clear hk
   generalize rif k .J (t0, q0) = xx at *
   go_wp2_with fail
   go_meet
   exact HF.out _ HDX.out
  | true =>
   have HC := Lib.hid (fun w (h : RQ w b q0) => rU_any h 18446744073709551615)
   have HNX : Hid (∀ w3, RQ w3 b (uS 18446744073709551615 q0) → Only (· = b) wh w3 → DC NL W b g W.heap.size (rif k .J (t0, q0)) (w3.setCell ⟨g, 1, none⟩ (.int .u64 (uV 18446744073709551615 q0)))) := Lib.hid fun w3 h1 h2 => dcJ hk HDX.out HNL0.out h1 h2
   clear hk
   generalize rif k .J (t0, q0) = xx at *
   generalize uV 18446744073709551615 q0 = x at *
   generalize uS 18446744073709551615 q0 = qn at *
   go_wp2_with (go_at_call 38; go_loud ((with_reducible refine (HC.out _ HDX.out.rq).mono ?_); rintro e w3 ⟨rfl, hp, ho⟩; have HNX2 := Lib.hid (HNX.out w3 hp ho); have d3 : w3.cell? ⟨g, 1, none⟩ = some (.int .u64 t0.job) := (HDX.out.keep ho).1.cell 1; have f3 := (HDX.out.keep ho).1.frozen 1; clear hp ho))
   go_meet
   exact HNX2.out
 case rest =>
  clear HDX HNL0
  obtain ⟨z, hz⟩ : ∃ z, z = rif k .J (t0, q0) := ⟨_, rfl⟩
  rw [← hz] at hcut
  have HK1 : Hid (z.1.kind = k) := Lib.hid (by rw [hz]; exact (rif_kind _ _ _).trans HK0.out)
  have HE0 := Lib.hid hz
  clear hz HK0
  obtain ⟨t1, q1⟩ := z
  obtain ⟨u1, hx, hn⟩ := hcut
  dsimp only at HK1 hx
  have HD1 := Lib.hid hx
  have HNL1 := Lib.hid hn
  clear hx hn
  obtain ⟨w30, hwk⟩ : ∃ w30, w30 = wc := ⟨_, rfl⟩
  subst hwk
  have y0 : w30.cell? ⟨g, 0, none⟩ = some (.int .u8 k) := (HD1.out.gt.cell 0).trans (congrArg (fun z => some (Value.int .u8 z)) HK1.out)
  go_upto_if 21 with (go_at_call 23; go_loud ((with_reducible refine (HHT.out _).mono ?_); rintro e wh ⟨rfl, hbq⟩; have HDX := Lib.hid (HD1.out.step hbq); clear hbq))
  clear y0 HD1
  go_cut [] (fun wd => DC NL W b g W.heap.size (rif k .T (t1, q1)) wd)
  case first =>
   clear HFIN
   cases hk : hasK k .T with
   | false =>
    have HF : Hid (∀ w, DQ W b g W.heap.size t1 u1 q1 w → DC NL W b g W.heap.size (rif k .T (t1, q1)) w) := Lib.hid fun w h => dc_no hk h HNL1.out
    clear hk
    generalize rif k .T (t1, q1) = xx at *
    go_wp2_with fail
    go_meet
    exact HF.out _ HDX.out
   | true =>
    have HC := Lib.hid (fun w (h : RQ w b q1) => rT_any h 32 (by unfold I64; decide))
    have HNX : Hid (∀ w3, RQ w3 b (tS 32 q1) → Only (· = b) wh w3 → DC NL W b g W.heap.size (rif k .T (t1, q1)) (w3.setCell ⟨g, 2, none⟩ (.string (tV 32 q1)))) := Lib.hid fun w3 h1 h2 => dcT hk HDX.out HNL1.out h1 h2
    clear hk
    generalize rif k .T (t1, q1) = xx at *
    generalize tV 32 q1 = x at *
    generalize tS 32 q1 = qn at *
    go_wp2_with (go_at_call 39; go_loud ((with_reducible refine (HC.out _ HDX.out.rq).mono ?_); rintro e w3 ⟨rfl, hp, ho⟩; have HNX2 := Lib.hid (HNX.out w3 hp ho); have d3 : w3.cell? ⟨g, 2, none⟩ = some (.string t1.tok) := (HDX.out.keep ho).1.cell 2; have f3 := (HDX.out.keep ho).1.frozen 2; clear hp ho))
    go_meet
    exact HNX2.out
  case rest =>
   clear HDX HNL1
   obtain ⟨z, hz⟩ : ∃ z, z = rif k .T (t1, q1) := ⟨_, rfl⟩
   rw [← hz] at hcut
   have HK2 : Hid (z.1.kind = k) := Lib.hid (by rw [hz]; exact (rif_kind _ _ _).trans HK1.out)
   have HE1 := Lib.hid hz
   clear hz HK1
   obtain ⟨t2, q2⟩ := z
   obtain ⟨u2, hx, hn⟩ := hcut
   dsimp only at HK2 hx
   have HD2 := Lib.hid hx
   have HNL2 := Lib.hid hn
   clear hx hn
   obtain ⟨w31, hwk⟩ : ∃ w31, w31 = wc := ⟨_, rfl⟩
   subst hwk
   have y0 : w31.cell? ⟨g, 0, none⟩ = some (.int .u8 k) := (HD2.out.gt.cell 0).trans (congrArg (fun z => some (Value.int .u8 z)) HK2.out)
   go_upto_if 27 with (go_at_call 23; go_loud ((with_reducible refine (HHP.out _).mono ?_); rintro e wh ⟨rfl, hbq⟩; have HDX := Lib.hid (HD2.out.step hbq); clear hbq))
   clear y0 HD2
   go_cut [] (fun wd => DC NL W b g W.heap.size (rif k .P (t2, q2)) wd)
   case first =>
    clear HFIN
    cases hk : hasK k .P with
    | false =>
     have HF : Hid (∀ w, DQ W b g W.heap.size t2 u2 q2 w → DC NL W b g W.heap.size (rif k .P (t2, q2)) w) := Lib.hid fun w h => dc_no hk h HNL2.out
     clear hk
     generalize rif k .P (t2, q2) = xx at *
     go_wp2_with fail
     go_meet
     exact HF.out _ HDX.out
    | true =>
     have HC := Lib.hid (fun w (h : RQ w b q2) => rT_any h 16384 (by unfold I64; decide))
     have HNX : Hid (∀ w3, RQ w3 b (tS 16384 q2) → Only (· = b) wh w3 → DC NL W b g W.heap.size (rif k .P (t2, q2)) (w3.setCell ⟨g, 3, none⟩ (.string (tV 16384 q2)))) := Lib.hid fun w3 h1 h2 => dcP hk HDX.out HNL2.out h1 h2
     clear hk
     generalize rif k .P (t2, q2) = xx at *
     generalize tV 16384 q2 = x at *
     generalize tS 16384 q2 = qn at *
     go_wp2_with (go_at_call 39; go_loud ((with_reducible refine (HC.out _ HDX.out.rq).mono ?_); rintro e w3 ⟨rfl, hp, ho⟩; have HNX2 := Lib.hid (HNX.out w3 hp ho); have d3 : w3.cell? ⟨g, 3, none⟩ = some (.string t2.prog) := (HDX.out.keep ho).1.cell 3; have f3 := (HDX.out.keep ho).1.frozen 3; clear hp ho))
     go_meet
     exact HNX2.out
   case rest =>
    clear HDX HNL2
    obtain ⟨z, hz⟩ : ∃ z, z = rif k .P (t2, q2) := ⟨_, rfl⟩
    rw [← hz] at hcut
    have HK3 : Hid (z.1.kind = k) := Lib.hid (by rw [hz]; exact (rif_kind _ _ _).trans HK2.out)
    have HE2 := Lib.hid hz
    clear hz HK2
    obtain ⟨t3, q3⟩ := z
    obtain ⟨u3, hx, hn⟩ := hcut
    dsimp only at HK3 hx
    have HD3 := Lib.hid hx
    have HNL3 := Lib.hid hn
    clear hx hn
    obtain ⟨w32, hwk⟩ : ∃ w32, w32 = wc := ⟨_, rfl⟩
    subst hwk
    have y0 : w32.cell? ⟨g, 0, none⟩ = some (.int .u8 k) := (HD3.out.gt.cell 0).trans (congrArg (fun z => some (Value.int .u8 z)) HK3.out)
    go_upto_if 33 with (go_at_call 23; go_loud ((with_reducible refine (HHI.out _).mono ?_); rintro e wh ⟨rfl, hbq⟩; have HDX := Lib.hid (HD3.out.step hbq); clear hbq))
    clear y0 HD3
    go_cut [] (fun wd => DC NL W b g W.heap.size (rif k .I (t3, q3)) wd)
    case first =>
     clear HFIN
     cases hk : hasK k .I with
     | false =>
      have HF : Hid (∀ w, DQ W b g W.heap.size t3 u3 q3 w → DC NL W b g W.heap.size (rif k .I (t3, q3)) w) := Lib.hid fun w h => dc_no hk h HNL3.out
      clear hk
      generalize rif k .I (t3, q3) = xx at *
      go_wp2_with fail
      go_meet
      exact HF.out _ HDX.out
     | true =>
      have HC := Lib.hid (fun w (h : RQ w b q3) => rdints_any h)
      unfold RiP at HC
      have HNX : Hid (∀ w3 v, RQ w3 b (rL 16 rI q3).2 → w3.ownsRow wh.heap.size 2 1 v (rL 16 rI q3).1.length ((rL 16 rI q3).1.map fun x => .int .i64 x) → Only (· = b) wh w3 → DC NL W b g W.heap.size (rif k .I (t3, q3)) (w3.setCell ⟨g, 4, none⟩ v)) := Lib.hid fun w3 v h1 h2 h3 => dcI hk HDX.out HNL3.out h1 h2 h3
      obtain ⟨p1, g1, p2, g2, p3, g3, p4, g4, p5, g5, p6, g6, hu⟩ := HDX.out.rows.vs
      have hui : u3.i = .slice p1 t3.input.length g1 := congrArg (fun z : VS => z.i) hu
      have HUI := Lib.hid hui
      clear hk hu hui
      generalize rif k .I (t3, q3) = xx at *
      generalize rL 16 rI q3 = ll at *
      obtain ⟨l, qn⟩ := ll
      dsimp only at HC HNX
      generalize t3.input.length = il at *
      go_wp2_with (go_at_call 40; go_loud ((with_reducible refine (HC.out _ HDX.out.rq).mono ?_); rintro e w3 ⟨v, rfl, hp, hv, ho⟩; have HNX2 := Lib.hid (HNX.out w3 v hp hv ho); have d3 : w3.cell? ⟨g, 4, none⟩ = some (.slice p1 il g1) := ((HDX.out.keep ho).1.cell 4).trans (congrArg some HUI.out); have f3 := (HDX.out.keep ho).1.frozen 4; obtain ⟨pv, cv, rfl⟩ := owns_slice hv; clear hp hv ho))
      go_meet
      exact HNX2.out
    case rest =>
     clear HDX HNL3
     obtain ⟨z, hz⟩ : ∃ z, z = rif k .I (t3, q3) := ⟨_, rfl⟩
     rw [← hz] at hcut
     have HK4 : Hid (z.1.kind = k) := Lib.hid (by rw [hz]; exact (rif_kind _ _ _).trans HK3.out)
     have HE3 := Lib.hid hz
     clear hz HK3
     obtain ⟨t4, q4⟩ := z
     obtain ⟨u4, hx, hn⟩ := hcut
     dsimp only at HK4 hx
     have HD4 := Lib.hid hx
     have HNL4 := Lib.hid hn
     clear hx hn
     obtain ⟨w33, hwk⟩ : ∃ w33, w33 = wc := ⟨_, rfl⟩
     subst hwk
     have y0 : w33.cell? ⟨g, 0, none⟩ = some (.int .u8 k) := (HD4.out.gt.cell 0).trans (congrArg (fun z => some (Value.int .u8 z)) HK4.out)
     go_upto_if 39 with (go_at_call 23; go_loud ((with_reducible refine (HHF.out _).mono ?_); rintro e wh ⟨rfl, hbq⟩; have HDX := Lib.hid (HD4.out.step hbq); clear hbq))
     clear y0 HD4
     go_cut [] (fun wd => DC NL W b g W.heap.size (rif k .F (t4, q4)) wd)
     case first =>
      clear HFIN
      cases hk : hasK k .F with
      | false =>
       have HF : Hid (∀ w, DQ W b g W.heap.size t4 u4 q4 w → DC NL W b g W.heap.size (rif k .F (t4, q4)) w) := Lib.hid fun w h => dc_no hk h HNL4.out
       clear hk
       generalize rif k .F (t4, q4) = xx at *
       go_wp2_with fail
       go_meet
       exact HF.out _ HDX.out
      | true =>
       have hw : IntKind.i64.wrap (uV 65536 q4) = uV 65536 q4 := by have := uV_rg (m := 65536) (by decide) q4; rw [IntKind.wrap_i64]; omega
       have HC := Lib.hid (fun w (h : RQ w b q4) => rU_any h 65536)
       have HNX : Hid (∀ w3, RQ w3 b (uS 65536 q4) → Only (· = b) wh w3 → DC NL W b g W.heap.size (rif k .F (t4, q4)) (w3.setCell ⟨g, 5, none⟩ (.int .i64 (uV 65536 q4)))) := Lib.hid fun w3 h1 h2 => dcF hk HDX.out HNL4.out h1 h2
       clear hk
       generalize rif k .F (t4, q4) = xx at *
       generalize uV 65536 q4 = x at *
       generalize uS 65536 q4 = qn at *
       go_wp2_with (go_at_call 38; go_loud ((with_reducible refine (HC.out _ HDX.out.rq).mono ?_); rintro e w3 ⟨rfl, hp, ho⟩; have HNX2 := Lib.hid (HNX.out w3 hp ho); have d3 : w3.cell? ⟨g, 5, none⟩ = some (.int .i64 t4.fuel) := (HDX.out.keep ho).1.cell 5; have f3 := (HDX.out.keep ho).1.frozen 5; clear hp ho))
       go_meet
       exact HNX2.out
     case rest =>
      clear HDX HNL4
      obtain ⟨z, hz⟩ : ∃ z, z = rif k .F (t4, q4) := ⟨_, rfl⟩
      rw [← hz] at hcut
      have HK5 : Hid (z.1.kind = k) := Lib.hid (by rw [hz]; exact (rif_kind _ _ _).trans HK4.out)
      have HE4 := Lib.hid hz
      clear hz HK4
      obtain ⟨t5, q5⟩ := z
      obtain ⟨u5, hx, hn⟩ := hcut
      dsimp only at HK5 hx
      have HD5 := Lib.hid hx
      have HNL5 := Lib.hid hn
      clear hx hn
      obtain ⟨w34, hwk⟩ : ∃ w34, w34 = wc := ⟨_, rfl⟩
      subst hwk
      have y0 : w34.cell? ⟨g, 0, none⟩ = some (.int .u8 k) := (HD5.out.gt.cell 0).trans (congrArg (fun z => some (Value.int .u8 z)) HK5.out)
      go_upto_if 46 with (go_at_call 23; go_loud ((with_reducible refine (HHK.out _).mono ?_); rintro e wh ⟨rfl, hbq⟩; have HDX := Lib.hid (HD5.out.step hbq); clear hbq))
      clear y0 HD5
      go_cut [] (fun wd => DC NL W b g W.heap.size (rif k .K (t5, q5)) wd)
      case first =>
       clear HFIN
       cases hk : hasK k .K with
       | false =>
        have HF : Hid (∀ w, DQ W b g W.heap.size t5 u5 q5 w → DC NL W b g W.heap.size (rif k .K (t5, q5)) w) := Lib.hid fun w h => dc_no hk h HNL5.out
        clear hk
        generalize rif k .K (t5, q5) = xx at *
        go_wp2_with fail
        go_meet
        exact HF.out _ HDX.out
       | true =>
        have hw1 : IntKind.i64.wrap (uV 15 (tS 12 q5)) = uV 15 (tS 12 q5) := by have := uV_rg (m := 15) (by decide) (tS 12 q5); rw [IntKind.wrap_i64]; omega
        have hw2 : IntKind.i64.wrap (uV 65536 (rL 16 rI (uS 15 (tS 12 q5))).2) = uV 65536 (rL 16 rI (uS 15 (tS 12 q5))).2 := by have := uV_rg (m := 65536) (by decide) (rL 16 rI (uS 15 (tS 12 q5))).2; rw [IntKind.wrap_i64]; omega
        have HNX : Hid (∀ w u, DQ W b g W.heap.size { t5 with task := ⟨tV 12 q5, uV 15 (tS 12 q5), (rL 16 rI (uS 15 (tS 12 q5))).1, uV 65536 (rL 16 rI (uS 15 (tS 12 q5))).2⟩ } u (uS 65536 (rL 16 rI (uS 15 (tS 12 q5))).2) w → NL u → DC NL W b g W.heap.size (rif k .K (t5, q5)) w) := Lib.hid fun w u h1 h2 => dcK hk h1 h2
        clear hk
        generalize rif k .K (t5, q5) = xx at *
        have HC1 := Lib.hid (fun w (h : RQ w b q5) => rT_any h 12 (by unfold I64; decide))
        generalize tV 12 q5 = x1 at *
        generalize tS 12 q5 = qa at *
        have HC2 := Lib.hid (fun w (h : RQ w b qa) => rU_any h 15)
        generalize uV 15 qa = x2 at *
        generalize uS 15 qa = qb at *
        have HC3 := Lib.hid (fun w (h : RQ w b qb) => rdints_any h)
        unfold RiP at HC3
        generalize rL 16 rI qb = ll at *
        obtain ⟨l, qc⟩ := ll
        dsimp only at HC3 HNX hw2
        have HC4 := Lib.hid (fun w (h : RQ w b qc) => rU_any h 65536)
        generalize uV 65536 qc = x4 at *
        generalize uS 65536 qc = qd at *
        go_upto_region 15 with (go_at_call 39; go_loud ((with_reducible refine (HC1.out _ HDX.out.rq).mono ?_); rintro e w3 ⟨rfl, hp, ho⟩; have HS1 : Hid (DQ W b g W.heap.size { t5 with task := ⟨x1, t5.task.fn, t5.task.args, t5.task.fuel⟩ } u5 qa (w3.setCell ⟨g, 6, none⟩ (.string x1))) := Lib.hid (HDX.out.put hp ho (u' := u5) rfl (fun r => ⟨r.ri, r.ra, r.rn, r.rh, r.rm, r.rc⟩)); have d3 : w3.cell? ⟨g, 6, none⟩ = some (.string t5.task.path) := (HDX.out.keep ho).1.cell 6; have f3 := (HDX.out.keep ho).1.frozen 6; clear hp ho))
        clear d3 f3
        generalize (w3.setCell ⟨g, 6, none⟩ (.string x1)) = v0 at *
        go_upto_region 16 with (go_at_call 38; go_loud ((with_reducible refine (HC2.out _ HS1.out.rq).mono ?_); rintro e w3 ⟨rfl, hp, ho⟩; have HS2 : Hid (DQ W b g W.heap.size { t5 with task := ⟨x1, x2, t5.task.args, t5.task.fuel⟩ } u5 qb (w3.setCell ⟨g, 7, none⟩ (.int .i64 x2))) := Lib.hid (HS1.out.put hp ho (u' := u5) rfl (fun r => ⟨r.ri, r.ra, r.rn, r.rh, r.rm, r.rc⟩)); have d3 : w3.cell? ⟨g, 7, none⟩ = some (.int .i64 t5.task.fn) := (HS1.out.keep ho).1.cell 7; have f3 := (HS1.out.keep ho).1.frozen 7; clear hp ho))
        clear d3 f3 HS1
        generalize (w3.setCell ⟨g, 7, none⟩ (.int .i64 x2)) = v1 at *
        obtain ⟨p1, g1, p2, g2, p3, g3, p4, g4, p5, g5, p6, g6, hu⟩ := HS2.out.rows.vs
        have hui : u5.a = .slice p2 t5.task.args.length g2 := congrArg (fun z : VS => z.a) hu
        have HUI := Lib.hid hui
        clear hu hui
        obtain ⟨il, hil⟩ : ∃ il, il = t5.task.args.length := ⟨_, rfl⟩
        rw [← hil] at HUI
        clear hil
        go_upto_region 17 with (go_at_call 40; go_loud ((with_reducible refine (HC3.out _ HS2.out.rq).mono ?_); rintro e w3 ⟨v, rfl, hp, hv, ho⟩; have HS3 : Hid (DQ W b g W.heap.size { t5 with task := ⟨x1, x2, l, t5.task.fuel⟩ } ⟨u5.i, v, u5.n, u5.h, u5.m, u5.c⟩ qc (w3.setCell ⟨g, 8, none⟩ v)) := Lib.hid (HS2.out.put hp ho rfl (fun r => ⟨r.ri, HS2.out.own hv, r.rn, r.rh, r.rm, r.rc⟩)); have d3 : w3.cell? ⟨g, 8, none⟩ = some (.slice p2 il g2) := ((HS2.out.keep ho).1.cell 8).trans (congrArg some HUI.out); have f3 := (HS2.out.keep ho).1.frozen 8; obtain ⟨pv, cv, rfl⟩ := owns_slice hv; clear hp hv ho))
        clear d3 f3 HUI HS2
        generalize (w3.setCell ⟨g, 8, none⟩ (.slice pv l.length cv)) = v2 at *
        go_wp2_with (go_at_call 38; go_loud ((with_reducible refine (HC4.out _ HS3.out.rq).mono ?_); rintro e w3 ⟨rfl, hp, ho⟩; have HS4 : Hid (DQ W b g W.heap.size { t5 with task := ⟨x1, x2, l, x4⟩ } ⟨u5.i, .slice pv l.length cv, u5.n, u5.h, u5.m, u5.c⟩ qd (w3.setCell ⟨g, 9, none⟩ (.int .i64 x4))) := Lib.hid (HS3.out.put hp ho (u' := ⟨u5.i, .slice pv l.length cv, u5.n, u5.h, u5.m, u5.c⟩) rfl (fun r => ⟨r.ri, r.ra, r.rn, r.rh, r.rm, r.rc⟩)); have d3 : w3.cell? ⟨g, 9, none⟩ = some (.int .i64 t5.task.fuel) := (HS3.out.keep ho).1.cell 9; have f3 := (HS3.out.keep ho).1.frozen 9; clear hp ho))
        go_meet
        exact HNX.out _ _ HS4.out HNL5.out
      case rest =>
       clear HDX HNL5
       obtain ⟨z, hz⟩ : ∃ z, z = rif k .K (t5, q5) := ⟨_, rfl⟩
       rw [← hz] at hcut
       have HK6 : Hid (z.1.kind = k) := Lib.hid (by rw [hz]; exact (rif_kind _ _ _).trans HK5.out)
       have HE5 := Lib.hid hz
       clear hz HK5
       obtain ⟨t6, q6⟩ := z
       obtain ⟨u6, hx, hn⟩ := hcut
       dsimp only at HK6 hx
       have HD6 := Lib.hid hx
       have HNL6 := Lib.hid hn
       clear hx hn
       obtain ⟨w35, hwk⟩ : ∃ w35, w35 = wc := ⟨_, rfl⟩
       subst hwk
       have y0 : w35.cell? ⟨g, 0, none⟩ = some (.int .u8 k) := (HD6.out.gt.cell 0).trans (congrArg (fun z => some (Value.int .u8 z)) HK6.out)
       go_upto_if 67 with (go_at_call 23; go_loud ((with_reducible refine (HHE.out _).mono ?_); rintro e wh ⟨rfl, hbq⟩; have HDX := Lib.hid (HD6.out.step hbq); clear hbq))
       clear y0 HD6
       go_cut [] (fun wd => DC NL W b g W.heap.size (rif k .E (t6, q6)) wd)
       case first =>
        clear HFIN
        cases hk : hasK k .E with
        | false =>
         have HF : Hid (∀ w, DQ W b g W.heap.size t6 u6 q6 w → DC NL W b g W.heap.size (rif k .E (t6, q6)) w) := Lib.hid fun w h => dc_no hk h HNL6.out
         clear hk
         generalize rif k .E (t6, q6) = xx at *
         go_wp2_with fail
         go_meet
         exact HF.out _ HDX.out
        | true =>
         have HC := Lib.hid (fun w (h : RQ w b q6) => rU_any h 281474976710656)
         have HNX : Hid (∀ w3, RQ w3 b (uS 281474976710656 q6) → Only (· = b) wh w3 → DC NL W b g W.heap.size (rif k .E (t6, q6)) (w3.setCell ⟨g, 10, none⟩ (.int .u64 (uV 281474976710656 q6)))) := Lib.hid fun w3 h1 h2 => dcE hk HDX.out HNL6.out h1 h2
         clear hk
         generalize rif k .E (t6, q6) = xx at *
         generalize uV 281474976710656 q6 = x at *
         generalize uS 281474976710656 q6 = qn at *
         go_wp2_with (go_at_call 38; go_loud ((with_reducible refine (HC.out _ HDX.out.rq).mono ?_); rintro e w3 ⟨rfl, hp, ho⟩; have HNX2 := Lib.hid (HNX.out w3 hp ho); have d3 : w3.cell? ⟨g, 10, none⟩ = some (.int .u64 t6.epoch) := (HDX.out.keep ho).1.cell 10; have f3 := (HDX.out.keep ho).1.frozen 10; clear hp ho))
         go_meet
         exact HNX2.out
       case rest =>
        clear HDX HNL6
        obtain ⟨z, hz⟩ : ∃ z, z = rif k .E (t6, q6) := ⟨_, rfl⟩
        rw [← hz] at hcut
        have HK7 : Hid (z.1.kind = k) := Lib.hid (by rw [hz]; exact (rif_kind _ _ _).trans HK6.out)
        have HE6 := Lib.hid hz
        clear hz HK6
        obtain ⟨t7, q7⟩ := z
        obtain ⟨u7, hx, hn⟩ := hcut
        dsimp only at HK7 hx
        have HD7 := Lib.hid hx
        have HNL7 := Lib.hid hn
        clear hx hn
        obtain ⟨w36, hwk⟩ : ∃ w36, w36 = wc := ⟨_, rfl⟩
        subst hwk
        have y0 : w36.cell? ⟨g, 0, none⟩ = some (.int .u8 k) := (HD7.out.gt.cell 0).trans (congrArg (fun z => some (Value.int .u8 z)) HK7.out)
        have HC := Lib.hid (rdlists_any HD7.out.rq HD7.out.rows (fun _ h => h.1) HD7.out.up HNL7.out.vp HK7.out HKR.out)
        obtain ⟨z, hz⟩ : ∃ z, z = rls k (t7, q7) := ⟨_, rfl⟩
        rw [← hz] at HC
        unfold RlP at HC
        have HK8 : Hid (z.1.kind = k) := Lib.hid (by rw [hz]; exact (rls_kind _ _).trans HK7.out)
        have HE7 := Lib.hid hz
        clear hz
        obtain ⟨t8, q8⟩ := z
        dsimp only at HC HK8
        go_upto_region 21 with (first
         | (refine wpl_load_blk HD7.out.gt rfl _ _ rfl rfl Tryz.underlying34 rfl (by kernel_rfl) ?_)
         | (go_at_call 41; go_loud ((with_reducible refine HC.out.mono ?_); rintro e w5 ⟨u8, rfl, hp, hr, ho⟩; have HB5 := Lib.hid (HD7.out.keep ho).1; have HNX := Lib.hid (fun w6 => HD7.out.go (w6 := w6) hp hr ho); obtain ⟨p1, g1, p2, g2, p3, g3, p4, g4, p5, g5, p6, g6, hu⟩ := hr.vs; subst hu; clear hp hr ho))
         | (refine wpl_store_blk HB5.out rfl _ _ _ rfl rfl rfl (by kernel_rfl) rfl mc_one ?_; go_loud (intro w6 hb6 ho6; have HD8 := Lib.hid (HNX.out w6 hb6 ho6); clear hb6 ho6)))
        clear y0 HD7 HNL7 HC HK7 HB5 HNX
        generalize (⟨.slice p1 t8.input.length g1, .slice p2 t8.task.args.length g2, .slice p3 t8.ents.length g3, .slice p4 t8.epochs.length g4, .slice p5 t8.names.length g5, .slice p6 t8.codes.length g6⟩ : VS) = u8 at *
        have HNL8 : Hid True := Lib.hid trivial
        have y0 : w6.cell? ⟨g, 0, none⟩ = some (.int .u8 k) := (HD8.out.gt.cell 0).trans (congrArg (fun z => some (Value.int .u8 z)) HK8.out)
        go_upto_if 76 with (go_at_call 23; go_loud ((with_reducible refine (HHS.out _).mono ?_); rintro e wh ⟨rfl, hbq⟩; have HDX := Lib.hid (HD8.out.step hbq); clear hbq))
        clear y0 HD8
        go_cut [] (fun wd => DC (fun _ => True) W b g W.heap.size (rif k .S (t8, q8)) wd)
        case first =>
         clear HFIN
         cases hk : hasK k .S with
         | false =>
          have HF : Hid (∀ w, DQ W b g W.heap.size t8 u8 q8 w → DC (fun _ => True) W b g W.heap.size (rif k .S (t8, q8)) w) := Lib.hid fun w h => dc_no hk h HNL8.out
          clear hk
          generalize rif k .S (t8, q8) = xx at *
          go_wp2_with fail
          go_meet
          exact HF.out _ HDX.out
         | true =>
          have hw : IntKind.u8.wrap (uV 3 q8) = uV 3 q8 := by have := uV_rg (m := 3) (by decide) q8; rw [IntKind.wrap_u8]; omega
          have HC := Lib.hid (fun w (h : RQ w b q8) => rU_any h 3)
          have HNX : Hid (∀ w3, RQ w3 b (uS 3 q8) → Only (· = b) wh w3 → DC (fun _ => True) W b g W.heap.size (rif k .S (t8, q8)) (w3.setCell ⟨g, 15, none⟩ (.int .u8 (uV 3 q8)))) := Lib.hid fun w3 h1 h2 => dcS hk HDX.out HNL8.out h1 h2
          clear hk
          generalize rif k .S (t8, q8) = xx at *
          generalize uV 3 q8 = x at *
          generalize uS 3 q8 = qn at *
          go_wp2_with (go_at_call 38; go_loud ((with_reducible refine (HC.out _ HDX.out.rq).mono ?_); rintro e w3 ⟨rfl, hp, ho⟩; have HNX2 := Lib.hid (HNX.out w3 hp ho); have d3 : w3.cell? ⟨g, 15, none⟩ = some (.int .u8 t8.state) := (HDX.out.keep ho).1.cell 15; have f3 := (HDX.out.keep ho).1.frozen 15; clear hp ho))
          go_meet
          exact HNX2.out
        case rest =>
         clear HDX HNL8
         obtain ⟨z, hz⟩ : ∃ z, z = rif k .S (t8, q8) := ⟨_, rfl⟩
         rw [← hz] at hcut
         have HK9 : Hid (z.1.kind = k) := Lib.hid (by rw [hz]; exact (rif_kind _ _ _).trans HK8.out)
         have HE8 := Lib.hid hz
         clear hz HK8
         obtain ⟨t9, q9⟩ := z
         obtain ⟨u9, hx, hn⟩ := hcut
         dsimp only at HK9 hx
         have HD9 := Lib.hid hx
         have HNL9 := Lib.hid hn
         clear hx hn
         obtain ⟨w38, hwk⟩ : ∃ w38, w38 = wc := ⟨_, rfl⟩
         subst hwk
         have y0 : w38.cell? ⟨g, 0, none⟩ = some (.int .u8 k) := (HD9.out.gt.cell 0).trans (congrArg (fun z => some (Value.int .u8 z)) HK9.out)
         go_upto_if 83 with (go_at_call 23; go_loud ((with_reducible refine (HHR.out _).mono ?_); rintro e wh ⟨rfl, hbq⟩; have HDX := Lib.hid (HD9.out.step hbq); clear hbq))
         clear y0 HD9
         go_cut [] (fun wd => DC (fun _ => True) W b g W.heap.size (rif k .R (t9, q9)) wd)
         case first =>
          clear HFIN
          cases hk : hasK k .R with
          | false =>
           have HF : Hid (∀ w, DQ W b g W.heap.size t9 u9 q9 w → DC (fun _ => True) W b g W.heap.size (rif k .R (t9, q9)) w) := Lib.hid fun w h => dc_no hk h HNL9.out
           clear hk
           generalize rif k .R (t9, q9) = xx at *
           go_wp2_with fail
           go_meet
           exact HF.out _ HDX.out
          | true =>
           have HC := Lib.hid (fun w (h : RQ w b q9) => rdres_any h)
           unfold RdV at HC
           have HNX : Hid (∀ w5 w6, RQ w5 b (rRs q9).2 → Only (· = b) wh w5 → Blk w6 g 34 (((mcells t9 u9).setIfInBounds 16 (.int .i64 (rRs q9).1.val)).setIfInBounds 17 (.int .i64 (rRs q9).1.err)) → Only (· = g) w5 w6 → DC (fun _ => True) W b g W.heap.size (rif k .R (t9, q9)) w6) := Lib.hid fun w5 w6 h1 h2 h3 h4 => dcR hk HDX.out HNL9.out h1 h2 h3 h4
           clear hk
           generalize rif k .R (t9, q9) = xx at *
           generalize rRs q9 = rr at *
           obtain ⟨⟨rv, re⟩, qn⟩ := rr
           dsimp only at HC HNX
           go_wp2_with (first
            | (go_at_call 42; go_loud ((with_reducible refine (HC.out _ HDX.out.rq).mono ?_); rintro e w5 ⟨rfl, hp, ho⟩; have HB5 := Lib.hid (HDX.out.keep ho).1; have HNX2 := Lib.hid (fun w6 => HNX.out w5 w6 hp ho); clear hp ho))
            | (refine wpl_store_two HB5.out (Nat.le_of_ble_eq_true rfl) rfl _ _ _ rfl rfl rfl (by kernel_rfl) rfl rfl ?_; go_loud (intro w6 hb6 ho6; have HNX3 := Lib.hid (HNX2.out w6 hb6 ho6); clear hb6 ho6)))
           go_meet
           exact HNX3.out
         case rest =>
          clear HDX HNL9
          obtain ⟨z, hz⟩ : ∃ z, z = rif k .R (t9, q9) := ⟨_, rfl⟩
          rw [← hz] at hcut
          have HK10 : Hid (z.1.kind = k) := Lib.hid (by rw [hz]; exact (rif_kind _ _ _).trans HK9.out)
          have HE9 := Lib.hid hz
          clear hz HK9
          obtain ⟨t10, q10⟩ := z
          obtain ⟨u10, hx, hn⟩ := hcut
          dsimp only at HK10 hx
          have HD10 := Lib.hid hx
          have HNL10 := Lib.hid hn
          clear hx hn
          obtain ⟨w39, hwk⟩ : ∃ w39, w39 = wc := ⟨_, rfl⟩
          subst hwk
          have y0 : w39.cell? ⟨g, 0, none⟩ = some (.int .u8 k) := (HD10.out.gt.cell 0).trans (congrArg (fun z => some (Value.int .u8 z)) HK10.out)
          go_upto_if 89 with (go_at_call 23; go_loud ((with_reducible refine (HHX.out _).mono ?_); rintro e wh ⟨rfl, hbq⟩; have HDX := Lib.hid (HD10.out.step hbq); clear hbq))
          clear y0 HD10
          go_cut [] (fun wd => DC (fun _ => True) W b g W.heap.size (rif k .X (t10, q10)) wd)
          case first =>
           clear HFIN
           cases hk : hasK k .X with
           | false =>
            have HF : Hid (∀ w, DQ W b g W.heap.size t10 u10 q10 w → DC (fun _ => True) W b g W.heap.size (rif k .X (t10, q10)) w) := Lib.hid fun w h => dc_no hk h HNL10.out
            clear hk
            generalize rif k .X (t10, q10) = xx at *
            go_wp2_with fail
            go_meet
            exact HF.out _ HDX.out
           | true =>
            have hw : IntKind.i64.wrap (uV 9999 q10) = uV 9999 q10 := by have := uV_rg (m := 9999) (by decide) q10; rw [IntKind.wrap_i64]; omega
            have HC := Lib.hid (fun w (h : RQ w b q10) => rU_any h 9999)
            have HNX : Hid (∀ w3, RQ w3 b (uS 9999 q10) → Only (· = b) wh w3 → DC (fun _ => True) W b g W.heap.size (rif k .X (t10, q10)) (w3.setCell ⟨g, 18, none⟩ (.int .i64 (uV 9999 q10)))) := Lib.hid fun w3 h1 h2 => dcX hk HDX.out HNL10.out h1 h2
            clear hk
            generalize rif k .X (t10, q10) = xx at *
            generalize uV 9999 q10 = x at *
            generalize uS 9999 q10 = qn at *
            go_wp2_with (go_at_call 38; go_loud ((with_reducible refine (HC.out _ HDX.out.rq).mono ?_); rintro e w3 ⟨rfl, hp, ho⟩; have HNX2 := Lib.hid (HNX.out w3 hp ho); have d3 : w3.cell? ⟨g, 18, none⟩ = some (.int .i64 t10.err) := (HDX.out.keep ho).1.cell 18; have f3 := (HDX.out.keep ho).1.frozen 18; clear hp ho))
            go_meet
            exact HNX2.out
          case rest =>
           clear HDX HNL10
           obtain ⟨z, hz⟩ : ∃ z, z = rif k .X (t10, q10) := ⟨_, rfl⟩
           rw [← hz] at hcut
           have HK11 : Hid (z.1.kind = k) := Lib.hid (by rw [hz]; exact (rif_kind _ _ _).trans HK10.out)
           have HE10 := Lib.hid hz
           clear hz HK10
           obtain ⟨t11, q11⟩ := z
           obtain ⟨u11, hx, hn⟩ := hcut
           dsimp only at HK11 hx
           have HD11 := Lib.hid hx
           have HNL11 := Lib.hid hn
           clear hx hn
           obtain ⟨w40, hwk⟩ : ∃ w40, w40 = wc := ⟨_, rfl⟩
           subst hwk
           have y0 : w40.cell? ⟨g, 0, none⟩ = some (.int .u8 k) := (HD11.out.gt.cell 0).trans (congrArg (fun z => some (Value.int .u8 z)) HK11.out)
           clear y0
           have hz : (t11, q11) = mq := by rw [HEQ.out, HE10.out, HE9.out, HE8.out, HE7.out, HE6.out, HE5.out, HE4.out, HE3.out, HE2.out, HE1.out, HE0.out]; rfl
           clear HEQ HE0 HE1 HE2 HE3 HE4 HE5 HE6 HE7 HE8 HE9 HE10
           subst hz
           dsimp only at HFIN HRR
           have HMY := Lib.hid HFIN.out.1
           have HFI := Lib.hid HFIN.out.2
           clear HFIN
           have HEN := Lib.hid (rend_any HD11.out.rq)
           generalize endE q11.s q11.e = E at *
           obtain ⟨p1, g1, p2, g2, p3, g3, p4, g4, p5, g5, p6, g6, hu⟩ := HD11.out.rows.vs
           subst hu
           obtain ⟨q9, hq9⟩ : ∃ q9, q9 = q11 := ⟨_, rfl⟩
           clear hq9
           cases hm : mayM t11 with
           | true =>
            unfold MyP at HMY
            rw [hm] at HMY
            by_cases hE : E = 0
            ·have h1 : (E == 0) = true := by simpa using hE
             have HR2 : Hid (rr = (t11, 0)) := Lib.hid (by have h := HRR.out; rw [if_pos (by rw [h1, hm]; rfl)] at h; exact h)
             have h1' : (E != 0) = false := by simpa using hE
             clear hE h1 hm
             go_upto_region 29 with (first
              | (go_at_call 43; go_loud ((with_reducible refine HEN.out.mono ?_); rintro e w4 ⟨rfl, hp, ho⟩; have HDE := Lib.hid (HD11.out.read (q' := ⟨q11.s, E⟩) hp ho); clear hp ho))
              | (refine wpl_load_blkg HDE.out.gt rfl _ _ rfl rfl Tryz.underlying34 rfl (by kernel_rfl) ?_)
              | (refine wpl_load_blk HDE.out.gt rfl _ _ rfl rfl Tryz.underlying34 rfl (by kernel_rfl) ?_)
              | (go_at_call 11; go_loud ((with_reducible refine (HMY.out _ _ HDE.out.rows.mr).mono ?_); rintro e w5 ⟨rfl, hb⟩; have HDF := Lib.hid (HDE.out.step hb); obtain ⟨A, hA, hA2⟩ := HDF.out.gr; have HBR := Lib.hid hA; have HA2 := Lib.hid hA2; clear hb hA hA2)))
             clear HEN HDE
             go_wp2_with (first
              | (refine wpl_load_blk HDF.out.gt rfl _ _ rfl rfl Tryz.underlying34 rfl (by kernel_rfl) ?_)
              | (refine wpl_store_blk HBR.out rfl _ _ _ rfl rfl rfl (by kernel_rfl) HA2.out mc_one ?_; intro w9 hb9 ho9; have HBF := Lib.hid hb9; have HOF := Lib.hid ho9; clear hb9 ho9))
             exact ret_pair (T := 34) rfl rfl rfl HBF.out Tryz.underlying34 rfl (by kernel_rfl) rfl (by rw [HR2.out]; exact HDF.out.fin (Below.refl _ _) HOF.out)
            ·have h1 : (E == 0) = false := by simpa using hE
             have HR2 : Hid (rr = (m0, 8)) := Lib.hid (by have h := HRR.out; rw [if_neg (by rw [h1, hm]; decide)] at h; exact h)
             have h1' : (E != 0) = true := by simpa using hE
             clear hE h1 hm HMY
             go_wp2_with (first
              | (go_at_call 43; go_loud ((with_reducible refine HEN.out.mono ?_); rintro e w4 ⟨rfl, hp, ho⟩; have HDE := Lib.hid (HD11.out.read (q' := ⟨q11.s, E⟩) hp ho); obtain ⟨A, hA, hA2⟩ := HDE.out.gr; have HBR := Lib.hid hA; have HA2 := Lib.hid hA2; clear hA hA2; clear hp ho))
              | (refine wpl_store_blk (c' := mcells m0 nilVS) HBR.out rfl _ _ _ rfl rfl rfl (by kernel_rfl) HA2.out mc_one ?_; go_loud (intro w9 hb9 ho9; have HBF := Lib.hid hb9; have HOF := Lib.hid ho9; clear hb9 ho9)))
             try simp only [Exit.inBlock, Exit.then]
             exact ret_pair (cs := mcells m0 nilVS) (T := 34) rfl rfl rfl HBF.out Tryz.underlying34 rfl (by kernel_rfl) rfl (by rw [HR2.out]; exact HDE.out.non (Below.refl _ _) HOF.out)
           | false =>
            unfold MyP at HMY
            rw [hm] at HMY
            have HR2 : Hid (rr = (m0, 8)) := Lib.hid (by have h := HRR.out; rw [if_neg (by rw [hm, Bool.and_false]; decide)] at h; exact h)
            by_cases hE : E = 0
            ·have h1' : (E != 0) = false := by simpa using hE
             clear hE hm
             go_wp2_with (first
              | (go_at_call 43; go_loud ((with_reducible refine HEN.out.mono ?_); rintro e w4 ⟨rfl, hp, ho⟩; have HDE := Lib.hid (HD11.out.read (q' := ⟨q11.s, E⟩) hp ho); clear hp ho))
              | (refine wpl_load_blkg HDE.out.gt rfl _ _ rfl rfl Tryz.underlying34 rfl (by kernel_rfl) ?_)
              | (refine wpl_load_blk HDE.out.gt rfl _ _ rfl rfl Tryz.underlying34 rfl (by kernel_rfl) ?_)
              | (go_at_call 11; go_loud ((with_reducible refine (HMY.out _ _ HDE.out.rows.mr).mono ?_); rintro e w5 ⟨rfl, hb⟩; have HDF := Lib.hid (HDE.out.step hb); obtain ⟨A, hA, hA2⟩ := HDF.out.gr; have HBR := Lib.hid hA; have HA2 := Lib.hid hA2; clear hb hA hA2))
              | (refine wpl_store_blk (c' := mcells m0 nilVS) HBR.out rfl _ _ _ rfl rfl rfl (by kernel_rfl) HA2.out mc_one ?_; go_loud (intro w9 hb9 ho9; have HBF := Lib.hid hb9; have HOF := Lib.hid ho9; clear hb9 ho9)))
             try simp only [Exit.inBlock, Exit.then]
             exact ret_pair (cs := mcells m0 nilVS) (T := 34) rfl rfl rfl HBF.out Tryz.underlying34 rfl (by kernel_rfl) rfl (by rw [HR2.out]; exact HDF.out.non (Below.refl _ _) HOF.out)
            ·have h1' : (E != 0) = true := by simpa using hE
             clear hE hm HMY
             go_wp2_with (first
              | (go_at_call 43; go_loud ((with_reducible refine HEN.out.mono ?_); rintro e w4 ⟨rfl, hp, ho⟩; have HDE := Lib.hid (HD11.out.read (q' := ⟨q11.s, E⟩) hp ho); obtain ⟨A, hA, hA2⟩ := HDE.out.gr; have HBR := Lib.hid hA; have HA2 := Lib.hid hA2; clear hA hA2; clear hp ho))
              | (refine wpl_store_blk (c' := mcells m0 nilVS) HBR.out rfl _ _ _ rfl rfl rfl (by kernel_rfl) HA2.out mc_one ?_; go_loud (intro w9 hb9 ho9; have HBF := Lib.hid hb9; have HOF := Lib.hid ho9; clear hb9 ho9)))
             try simp only [Exit.inBlock, Exit.then]
             exact ret_pair (cs := mcells m0 nilVS) (T := 34) rfl rfl rfl HBF.out Tryz.underlying34 rfl (by kernel_rfl) rfl (by rw [HR2.out]; exact HDE.out.non (Below.refl _ _) HOF.out)
end Go.Proofs.YtghbjknpffiaiaaGreat
