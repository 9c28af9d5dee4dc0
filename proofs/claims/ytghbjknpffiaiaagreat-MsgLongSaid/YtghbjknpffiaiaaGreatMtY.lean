import Derived.Test.YtghbjknpffiaiaaGreatMgk
namespace Go.Proofs.YtghbjknpffiaiaaGreat
open Go.RowKit Wire Ms
set_option linter.unusedVariables false
set_option linter.unusedSimpArgs false
set_option maxRecDepth 100000 in
set_option maxHeartbeats 8000000 in
theorem rdlists_any {S0 : Nat → Prop} {b : Nat} {q : RS} {W : World} {m : M} {u : VS} {k : Int} (hq : RQ W b q) (hr : MRP S0 W m u) (hS1 : ∀ k, S0 k → k ≠ b) (hS2 : ∀ k, W.heap.size ≤ k → S0 k) (hnil : ∀ p ∈ [Pt.N, .H, .A, .C], vp p u = nilV) (hk : m.kind = k) (hkr : 0 ≤ k ∧ k ≤ 255) :
  Calls Tryz.prog 41 #[.pointer (some ⟨b, 0, none⟩), .agg (mcells m u)] W (RlP S0 W b (rls k (m, q))) := by
 have HD0 := Lib.hid (LQ.init hq hr hS1 hS2)
 have HFN : Hid (∀ (x : M × RS) u w w', LQ (SW S0 W) W b x.1 u x.2 w → Only (· = W.heap.size + 1) w w' → RlP S0 W b x (.returned (.agg (mcells x.1 u))) w') := Lib.hid fun x u w w' h ho => LQ.fin h ho
 obtain ⟨z, hz⟩ : ∃ z, z = rls k (m, q) := ⟨_, rfl⟩
 rw [← hz]
 have HEQ : Hid (z = rif k .C (rif k .A (rif k .H (rif k .N (m, q))))) := Lib.hid hz
 clear hz
 generalize SW S0 W = S at *
 generalize RlP S0 W b = POST at *
 have HNIL := Lib.hid hnil
 have HK := Lib.hid hk
 have HHN := Lib.hid (fun w => (show Calls Tryz.prog 23 #[.int .u8 k, .int .u8 78] w (HaPost (hasK k .N) w) from has26_any hkr .N w))
 have HHH := Lib.hid (fun w => (show Calls Tryz.prog 23 #[.int .u8 k, .int .u8 72] w (HaPost (hasK k .H) w) from has26_any hkr .H w))
 have HHA := Lib.hid (fun w => (show Calls Tryz.prog 23 #[.int .u8 k, .int .u8 65] w (HaPost (hasK k .A) w) from has26_any hkr .A w))
 have HHC := Lib.hid (fun w => (show Calls Tryz.prog 23 #[.int .u8 k, .int .u8 67] w (HaPost (hasK k .C) w) from has26_any hkr .C w))
 clear hq hr hS1 hS2 hnil hk hkr
 go_enter Tryz.func41, Tryz.ntmps41
 go_upto_region 1 with fail
 generalize (W.alloc (.cells (mcells m u) 34)).alloc (.cells #[.int .u8 0, .int .u64 0, .string ⟨#[]⟩, .string ⟨#[]⟩, .slice none 0 0, .int .i64 0, .string ⟨#[]⟩, .int .i64 0, .slice none 0 0, .int .i64 0, .int .u64 0, .slice none 0 0, .slice none 0 0, .slice none 0 0, .slice none 0 0, .int .u8 0, .int .i64 0, .int .i64 0, .int .i64 0] 34) = w0 at *
 obtain ⟨t, ht⟩ : ∃ t, t = m := ⟨_, rfl⟩
 rw [← ht] at HD0 HK HEQ
 have y0 : w0.cell? ⟨W.heap.size, 0, none⟩ = some (.int .u8 k) := (HD0.out.gt.cell 0).trans (congrArg (fun z => some (Value.int .u8 z)) HK.out)
 clear ht
 go_upto_if 16 with (go_at_call 23; go_loud ((with_reducible refine (HHN.out _).mono ?_); rintro e wh ⟨rfl, hbq⟩; have HDX := Lib.hid (HD0.out.step hbq); clear hbq))
 clear y0 HD0 HHN
 go_cut [] (fun wd => LS S W b (rif k .N (t, q)) [.H, .A, .C] wd)
 case first =>
  cases hk : hasK k .N with
  | false =>
   have HF := Lib.hid (ls_not (ps' := [.H, .A, .C]) hk HDX.out HNIL.out (by decide))
   clear hk
   go_wp2_with fail
   go_meet
   exact HF.out
  | true =>
   obtain ⟨n, hn, hn2⟩ := cV_nat 128 (by unfold I64; decide) (by decide) q
   have HC := Lib.hid (rC_any HDX.out.rq 128 (by unfold I64; decide))
   rw [hn] at HC
   have HEND : Hid (∀ (wl w : World) (ys : List En) (qi : RS) (v : Value), LR S rEn 54 5 lE W wl b n 11 t u (cS 128 q) ys qi v w → (¬ ys.length < n ∨ qi.e ≠ 0) → LS S W b (rif k .N (t, q)) [.H, .A, .C] w) := Lib.hid (fun wl w ys qi v h he => lsN hk hn (fun p hp => ⟨by rcases p <;> first | (intro e; cases e; done) | (exact absurd hp (by decide)), HNIL.out p (by revert p; decide)⟩) h he)
   have H0 : Hid ((mcells t u)[11]? = some (.slice none 0 0)) := Lib.hid ((show (mcells t u)[11]? = some u.n from rfl).trans (congrArg some (HNIL.out .N (by decide))))
   have HN2 := Lib.hid hn2
   clear hk hn hn2
   generalize rif k .N (t, q) = xx at *
   generalize cS 128 q = q1 at *
   go_wp2_with (go_at_call 57; go_loud ((with_reducible refine HC.out.mono ?_); rintro e wl ⟨rfl, hp, ho⟩; have HQ1 := Lib.hid (HDX.out.read hp ho); clear hp ho))
   clear HC HDX
   go_loopw [6] (fun s wr => ∃ ys qi v, s = .int .i64 (ys.length : Nat) ∧ LR S rEn 54 5 lE W wl b n 11 t u q1 ys qi v wr) (fun s _ => ((n : Int) - intOf s).toNat)
   case atStart => exact ⟨[], q1, _, rfl, LR.start HQ1.out H0.out⟩
   case round =>
    obtain ⟨ys, qi, v, rfl, hR⟩ := hrel
    have HRI := Lib.hid hR
    have c1 : wr.cell? ⟨b, 1, none⟩ = some (.int .i64 qi.e) := hR.rq.c1
    obtain ⟨pv, cv, hv⟩ := owns_slice hR.row
    subst hv
    clear hR
    by_cases hi : ys.length < n
    ·have hi' : (ys.length : Int) < (n : Int) := by omega
     by_cases he : qi.e = 0
     ·have he' : (qi.e == 0) = true := by simpa using he
      have HIN := Lib.hid hi
      have HE0 := Lib.hid he
      have HE : Hid (wrap64 ((ys.length : Int) + 1) = ((ys.length + 1 : Nat) : Int)) := Lib.hid (wr64 rfl (by have := HN2.out; omega))
      clear he hi
      generalize hqe : qi.e = qe at *
      have HQE := Lib.hid hqe
      clear hqe
      go_upto_region 6 with fail
      clear c1 he' hi'
      have hls := HRI.out.l0.lt
      have hlz := HRI.out.l0.sz
      have hle := HRI.out.le2
      have HLT : Hid (b < wr.heap.size ∧ W.heap.size ≠ b) := Lib.hid ⟨by omega, by omega⟩
      clear hls hlz hle
      have HQ0 : Hid (RQ (wr.alloc (.cells #[.int .u64 0, .string ⟨#[]⟩, .int .i64 0, .int .i64 0, .int .i64 0] 54)) b qi) := Lib.hid (HRI.out.rq.alloc (.cells #[.int .u64 0, .string ⟨#[]⟩, .int .i64 0, .int .i64 0, .int .i64 0] 54))
      have HT0 := Lib.hid (Blk.new wr 54 #[.int .u64 0, .string ⟨#[]⟩, .int .i64 0, .int .i64 0, .int .i64 0])
      have HO0 := Lib.hid ((Only.refl (· = b) wr).alloc (.cells #[.int .u64 0, .string ⟨#[]⟩, .int .i64 0, .int .i64 0, .int .i64 0] 54))
      have HNX : Hid (∀ w3 v3, RQ w3 b (rEn qi).2 → Ch b wl.heap.size wr w3 → w3.ownsRow wl.heap.size 54 5 v3 (ys.length + 1) (ys.flatMap lE ++ lE (rEn qi).1) → LR S rEn 54 5 lE W wl b n 11 t u q1 (ys ++ [(rEn qi).1]) (rEn qi).2 v3 (w3.setCell ⟨W.heap.size, 11, none⟩ v3)) := Lib.hid fun w3 v3 h1 h2 h3 => HRI.out.next HIN.out (HQE.out.trans HE0.out) h1 h2 h3
      have hwr : ∀ q, IntKind.i64.wrap (uV 16 q) = uV 16 q := fun q => by have := uV_rg (m := 16) (by decide) q; rw [IntKind.wrap_i64]; omega
      have hen : rEn qi = (⟨(rNm qi).1, uV 16 (rNm qi).2, (rRs (uS 16 (rNm qi).2)).1⟩, (rRs (uS 16 (rNm qi).2)).2) := rfl
      rw [hen] at HNX
      dsimp only at HNX
      clear hen
      have HC1 := Lib.hid (fun w (h : RQ w b qi) => rdname_any h)
      unfold RdV at HC1
      generalize rNm qi = rn at *
      obtain ⟨⟨xj, xp⟩, q2⟩ := rn
      dsimp only at HC1 HNX
      have HC2 := Lib.hid (fun w (h : RQ w b q2) => rU_any h 16)
      have hw2 := hwr q2
      generalize uV 16 q2 = x at *
      generalize uS 16 q2 = q3 at *
      have HC3 := Lib.hid (fun w (h : RQ w b q3) => rdres_any h)
      unfold RdV at HC3
      generalize rRs q3 = rr at *
      obtain ⟨⟨rv, re⟩, q4⟩ := rr
      dsimp only at HC3 HNX
      clear hwr
      generalize hyl : ys.length = yl at *
      have HYL := Lib.hid hyl
      clear hyl
      go_upto_region 8 with (first | (go_at_call 59; go_loud ((with_reducible refine (HC1.out _ HQ0.out).mono ?_); rintro e w1 ⟨rfl, hp, ho⟩; have HQ1 := Lib.hid hp; have HT1 := Lib.hid (HT0.out.only ho (by have := HLT.out.1; omega)); have HO1 := Lib.hid (HO0.out.trans ho); clear hp ho)) | (refine wpl_store_two HT1.out (Nat.le_of_ble_eq_true rfl) rfl _ _ _ rfl rfl rfl (by kernel_rfl) rfl rfl ?_; go_loud (intro w2 hb2 ho2; have HQ2 : Hid (RQ w2 b q2) := Lib.hid (RR.only HQ1.out ho2 (by have := HLT.out.1; omega)); have HO2 := Lib.hid (rd_fin HO1.out ho2); have HT2 : Hid (Blk w2 wr.heap.size 54 #[.int .u64 xj, .string xp, .int .i64 0, .int .i64 0, .int .i64 0]) := Lib.hid hb2; clear hb2 ho2)))
      try clear HT0 HO0 HQ0 HT1 HO1 HQ1
      go_upto_region 9 with (go_at_call 38; go_loud ((with_reducible refine (HC2.out _ HQ2.out).mono ?_); rintro e w3 ⟨rfl, hp, ho⟩; have HQ3 := Lib.hid hp; have HT3 := Lib.hid (HT2.out.only ho (by have := HLT.out.1; omega)); have HO3 := Lib.hid (HO2.out.trans ho); have d3 := HT3.out.cell 2; have f3 := HT3.out.frozen 2; clear hp ho))
      have ho4 := (Blk.keep1 (f := 2) (v := .int .i64 x) HT3.out).2
      have HQ4 : Hid (RQ (w3.setCell ⟨wr.heap.size, 2, none⟩ (.int .i64 x)) b q3) := Lib.hid (RR.only HQ3.out ho4 (by have := HLT.out.1; omega))
      have HO4 := Lib.hid (rd_fin HO3.out ho4)
      have HT4 : Hid (Blk (w3.setCell ⟨wr.heap.size, 2, none⟩ (.int .i64 x)) wr.heap.size 54 #[.int .u64 xj, .string xp, .int .i64 x, .int .i64 0, .int .i64 0]) := Lib.hid (Blk.keep1 (f := 2) (v := .int .i64 x) HT3.out).1
      clear ho4 d3 f3 HQ2 HO2 HT2 HQ3 HO3 HT3 hw2
      generalize (w3.setCell ⟨wr.heap.size, 2, none⟩ (.int .i64 x)) = w4 at *
      go_upto_region 10 with (first | (go_at_call 42; go_loud ((with_reducible refine (HC3.out _ HQ4.out).mono ?_); rintro e w5 ⟨rfl, hp, ho⟩; have HQ5 := Lib.hid hp; have HT5 := Lib.hid (HT4.out.only ho (by have := HLT.out.1; omega)); have HO5 := Lib.hid (HO4.out.trans ho); clear hp ho)) | (refine wpl_store_two HT5.out (Nat.le_of_ble_eq_true rfl) rfl _ _ _ rfl rfl rfl (by kernel_rfl) rfl rfl ?_; go_loud (intro w6 hb6 ho6; have HQ6 : Hid (RQ w6 b q4) := Lib.hid (RR.only HQ5.out ho6 (by have := HLT.out.1; omega)); have HO6 := Lib.hid (rd_fin HO5.out ho6); have HT6 : Hid (Blk w6 wr.heap.size 54 #[.int .u64 xj, .string xp, .int .i64 x, .int .i64 rv, .int .i64 re]) := Lib.hid hb6; clear hb6 ho6)))
      try clear HT4 HO4 HQ4 HT5 HO5 HQ5
      have HMID := Lib.hid (HRI.out.mid HO6.out)
      have d6 : w6.cell? ⟨W.heap.size, 11, none⟩ = some (.slice pv yl cv) := HMID.out.1.cell 11
      have HAPP := Lib.hid (fun w7 (h : Only (fun k => (Value.slice pv yl cv).ownBlock = some k) w6 w7) => HRI.out.app HO6.out h HQ6.out)
      go_wp2_with (first
       | (refine wpl_load_blk HT6.out rfl _ _ rfl rfl Tryz.underlying54 rfl (by kernel_rfl) ?_)
       | (at_builtin; go_loud (refine wpl_append_row2 (ys := [.int .u64 xj, .string xp, .int .i64 x, .int .i64 rv, .int .i64 re]) rfl rfl rfl rfl Tryz.underlying26 info_en rfl (by simp [Value.oneCell']) rfl (by decide) (by decide) (HYL.out ▸ HMID.out.2.1) (by have := HN2.out; have := HIN.out; omega) HMID.out.2.2 rfl ?_; intro v7 w7 hr7 ho7; have HA7 := Lib.hid (HAPP.out w7 ho7); have HR7 := Lib.hid hr7; have d7 : w7.cell? ⟨W.heap.size, 11, none⟩ = some (.slice pv yl cv) := HA7.out.2.2.cell 11; have f7 := HA7.out.2.2.frozen 11; obtain ⟨p7, c7, rfl⟩ := owns_slice hr7; have HNX2 := Lib.hid (HNX.out w7 _ HA7.out.1 HA7.out.2.1 HR7.out); clear hr7 ho7)))
      go_roundw
      case rel => (try rw [HE.out]); exact ⟨_, _, _, by rw [List.length_append, HYL.out]; rfl, HNX2.out⟩
      case measure => (try rw [HE.out]); simp [intOf]; have := HIN.out; have := HYL.out; omega
     ·have HF := Lib.hid (HEND.out _ _ _ _ _ HRI.out (.inr he))
      have he' : (qi.e == 0) = false := by simpa using he
      clear he hi
      generalize hqe : qi.e = qe at *
      clear hqe
      go_wp2_with fail
      go_meet
      exact HF.out
    ·have HF := Lib.hid (HEND.out _ _ _ _ _ HRI.out (.inl hi))
     have hi' : ¬ (ys.length : Int) < (n : Int) := by omega
     clear hi
     generalize hqe : qi.e = qe at *
     clear hqe
     go_wp2_with fail
     go_meet
     exact HF.out
 case rest =>
  try clear HDX
  have hkn : (rif k .N (t, q)).1.kind = k := (rif_kind _ _ _).trans HK.out
  generalize rif k .N (t, q) = xx at *
  obtain ⟨t, q⟩ := xx
  obtain ⟨u, hx, hnil⟩ := hcut
  obtain ⟨w11, hwk⟩ : ∃ w11, w11 = wc := ⟨_, rfl⟩
  subst hwk
  have HD0 := Lib.hid hx
  have HNIL := Lib.hid hnil
  have HK : Hid (t.kind = k) := Lib.hid hkn
  have y0 : w11.cell? ⟨W.heap.size, 0, none⟩ = some (.int .u8 k) := (HD0.out.gt.cell 0).trans (congrArg (fun z => some (Value.int .u8 z)) HK.out)
  clear hx hnil hkn
  go_upto_if 49 with (go_at_call 23; go_loud ((with_reducible refine (HHH.out _).mono ?_); rintro e wh ⟨rfl, hbq⟩; have HDX := Lib.hid (HD0.out.step hbq); clear hbq))
  clear y0 HD0 HHH
  go_cut [] (fun wd => LS S W b (rif k .H (t, q)) [.A, .C] wd)
  case first =>
   cases hk : hasK k .H with
   | false =>
    have HF := Lib.hid (ls_not (ps' := [.A, .C]) hk HDX.out HNIL.out (by decide))
    clear hk
    go_wp2_with fail
    go_meet
    exact HF.out
   | true =>
    obtain ⟨n, hn, hn2⟩ := cV_nat 128 (by unfold I64; decide) (by decide) q
    have HC := Lib.hid (rC_any HDX.out.rq 128 (by unfold I64; decide))
    rw [hn] at HC
    have HEND : Hid (∀ (wl w : World) (ys : List Int) (qi : RS) (v : Value), LR S (rU 281474976710656) 22 1 lU W wl b n 12 t u (cS 128 q) ys qi v w → (¬ ys.length < n ∨ qi.e ≠ 0) → LS S W b (rif k .H (t, q)) [.A, .C] w) := Lib.hid (fun wl w ys qi v h he => lsH hk hn (fun p hp => ⟨by rcases p <;> first | (intro e; cases e; done) | (exact absurd hp (by decide)), HNIL.out p (by revert p; decide)⟩) h he)
    have H0 : Hid ((mcells t u)[12]? = some (.slice none 0 0)) := Lib.hid ((show (mcells t u)[12]? = some u.h from rfl).trans (congrArg some (HNIL.out .H (by decide))))
    have HN2 := Lib.hid hn2
    clear hk hn hn2
    generalize rif k .H (t, q) = xx at *
    generalize cS 128 q = q1 at *
    go_wp2_with (go_at_call 57; go_loud ((with_reducible refine HC.out.mono ?_); rintro e wl ⟨rfl, hp, ho⟩; have HQ1 := Lib.hid (HDX.out.read hp ho); clear hp ho))
    clear HC HDX
    go_loopw [9] (fun s wr => ∃ ys qi v, s = .int .i64 (ys.length : Nat) ∧ LR S (rU 281474976710656) 22 1 lU W wl b n 12 t u q1 ys qi v wr) (fun s _ => ((n : Int) - intOf s).toNat)
    case atStart => exact ⟨[], q1, _, rfl, LR.start HQ1.out H0.out⟩
    case round =>
     obtain ⟨ys, qi, v, rfl, hR⟩ := hrel
     have HRI := Lib.hid hR
     have c1 : wr.cell? ⟨b, 1, none⟩ = some (.int .i64 qi.e) := hR.rq.c1
     obtain ⟨pv, cv, hv⟩ := owns_slice hR.row
     subst hv
     clear hR
     by_cases hi : ys.length < n
     ·have hi' : (ys.length : Int) < (n : Int) := by omega
      by_cases he : qi.e = 0
      ·have he' : (qi.e == 0) = true := by simpa using he
       have HIN := Lib.hid hi
       have HE0 := Lib.hid he
       have HE : Hid (wrap64 ((ys.length : Int) + 1) = ((ys.length + 1 : Nat) : Int)) := Lib.hid (wr64 rfl (by have := HN2.out; omega))
       clear he hi
       generalize hqe : qi.e = qe at *
       have HQE := Lib.hid hqe
       clear hqe
       go_upto_region 16 with fail
       clear c1 he' hi'
       obtain ⟨A, hA⟩ : ∃ A, A = (mcells t u).setIfInBounds 12 (.slice pv ys.length cv) := ⟨_, rfl⟩
       have HA : Hid (A[12]? = some (.slice pv ys.length cv)) := Lib.hid (by rw [hA]; rfl)
       have HI0 : Hid (LIv W wr b wl.heap.size A wr.drew) := Lib.hid ⟨(hA ▸ HRI.out.gt).drew, (Only.refl _ wr).drew⟩
       have HJ1 : Hid (RQ wr.drew b qi) := Lib.hid (RR.below HRI.out.rq (Below.refl _ wr).drew)
       have HJ2 : Hid (wr.drew.ownsRow wl.heap.size 22 1 (.slice pv ys.length cv) ys.length (ys.flatMap lU) ∧ wl.heap.size ≤ wr.drew.heap.size) := Lib.hid ⟨owns_below HRI.out.row (Below.refl _ wr).drew, HRI.out.le2⟩
       have HNE : Hid (W.heap.size ≠ b) := Lib.hid (by have := HRI.out.l0.lt; omega)
       have HLT : Hid (b < wr.heap.size ∧ W.heap.size < wl.heap.size ∧ (∀ k, (Value.slice pv ys.length cv).ownBlock = some k → wl.heap.size ≤ k ∧ k < wr.heap.size) ∧ b < wl.heap.size) := Lib.hid ⟨by have := HRI.out.l0.lt; have := HRI.out.l0.sz; have := HRI.out.le2; omega, by have := HRI.out.l0.sz; omega, fun k hk => (owns_type HRI.out.row hk).choose_spec.2, by have := HRI.out.l0.lt; have := HRI.out.l0.sz; omega⟩
       have HCL := Lib.hid (fun w (h : RQ w b qi) => rU_any h 281474976710656)
       have HNX : Hid (∀ w3 v3, RQ w3 b (uS 281474976710656 qi) → Ch b wl.heap.size wr w3 → w3.ownsRow wl.heap.size 22 1 v3 (ys.length + 1) (ys.flatMap lU ++ lU (uV 281474976710656 qi)) → LR S (rU 281474976710656) 22 1 lU W wl b n 12 t u q1 (ys ++ [uV 281474976710656 qi]) (uS 281474976710656 qi) v3 (w3.setCell ⟨W.heap.size, 12, none⟩ v3)) := Lib.hid fun w3 v3 h1 h2 h3 => HRI.out.next HIN.out (HQE.out.trans HE0.out) h1 h2 h3
       generalize uV 281474976710656 qi = x at *
       generalize uS 281474976710656 qi = q2 at *
       clear hA
       refine Reg.wp_rely 7 (LIv W wr b wl.heap.size A) (by kernel_rfl) (Reg.relyOk_of (by kernel_rfl)) HI0.out (fun w w' h hI => hI.below h) ?_
       refine Reg.rely_plain (.pointer (some ⟨W.heap.size, 12, none⟩)) rfl (fun a w hI hF => by
         have f1 : a.tmps.getD 3 undef = .pointer (some ⟨W.heap.size, 0, none⟩) := hF 3 (Reg.looksB (by kernel_rfl))
         clear hF hI
         simp only [Array.getD_eq_getD_getElem?] at f1
         simp only [execOp]; go_simp) ?_
       refine Reg.rely_plain (.slice pv ys.length cv) rfl (fun a w hI hF => by
         have f1 : a.tmps.getD 64 undef = .pointer (some ⟨W.heap.size, 12, none⟩) := hF 64 (Reg.looksB (by kernel_rfl))
         have hc : w.cell? ⟨W.heap.size, 12, none⟩ = some (.slice pv ys.length cv) := (hI.1.cell 12).trans HA.out
         clear hF hI
         simp only [Array.getD_eq_getD_getElem?] at f1
         simp only [execOp]; go_simp) ?_
       refine Reg.rely_plain (.pointer (some ⟨b, 0, none⟩)) rfl (fun a w hI hF => by
         have f1 : a.tmps.getD 0 undef = .pointer (some ⟨b, 0, none⟩) := hF 0 (Reg.looksB (by kernel_rfl))
         clear hF hI
         simp only [Array.getD_eq_getD_getElem?] at f1
         simp only [execOp]; go_simp) ?_
       refine Reg.rely_call (fun v w => v = .int .u64 x ∧ RQ w b q2) (fun w w' => Only (· = b) w w') (fun w => RQ w b qi) (fun v w w' h hS => ⟨hS.1, RR.below hS.2 h⟩) (fun G hG => by cases hG) (fun w w' h hI => hI.read h HNE.out) ?_ rfl (fun w w' h hJ => RR.below hJ h) HJ1.out (fun G hG => by cases hG) (fun G hG => by cases hG) 38 #[.pointer (some ⟨b, 0, none⟩), .int .u64 281474976710656] (fun a w hI hF => ?_) (fun w hI hJ => (HCL.out w hJ).mono fun e w' h => ⟨_, h.1, ⟨rfl, h.2.1⟩, h.2.2⟩) ?_
       ·intro p hp
        repeat (rcases List.mem_cons.1 hp with rfl | hp; exact Reg.stab_is _ _)
        cases hp
       ·have f1 : a.tmps.getD 66 undef = .pointer (some ⟨b, 0, none⟩) := hF 66 (Reg.looksB (by kernel_rfl))
        clear hF hI
        simp only [Array.getD_eq_getD_getElem?] at f1
        simp only [execOp]; go_simp
       refine Reg.rely_rel (fun v w => ∃ gl, v = .slice (some ⟨gl, 0, none⟩) 1 1 ∧ wr.heap.size ≤ gl ∧ Blk w gl 22 #[.int .u64 x]) (fun v w w' h hS => by obtain ⟨gl, h1, h2, h3⟩ := hS; exact ⟨gl, h1, h2, h3.below h⟩) (fun G hG v w w' h hS => ?_) rfl (fun a w hI hF => ?_) ?_
       ·rcases List.mem_cons.1 hG with rfl | hG
        ·obtain ⟨gl, h1, h2, h3⟩ := hS
         exact ⟨gl, h1, h2, h3.only h (fun e => by have := HLT.out.1; have e' : gl = b := e; omega)⟩
        ·cases hG
       ·have f1 : a.tmps.getD 67 undef = .int .u64 x := (hF 67 (Reg.looksB (by kernel_rfl))).1
        have hK := Lib.hid (Blk.new w 22 #[.int .u64 x])
        have hQ := Lib.hid hI.2.size
        have hW := Lib.hid (show Reg.Grow w (w.alloc (.cells #[.int .u64 x] 22)) from (Below.refl _ w).alloc (Nat.le_refl _) _)
        clear hF hI
        simp only [Array.getD_eq_getD_getElem?] at f1
        unfold Oper.wp
        simp only [execOp]
        go_simp
        exact ⟨_, rfl, ⟨_, rfl, hQ.out, hK.out⟩, hW.out⟩
       refine Reg.rely_turn (fun v w => w.ownsRow wl.heap.size 22 1 v (ys.length + 1) (ys.flatMap lU ++ #[.int .u64 x].toList)) (fun w w' => Only (fun k => (.slice pv ys.length cv : Value).ownBlock = some k) w w') (fun w => w.ownsRow wl.heap.size 22 1 (.slice pv ys.length cv) ys.length (ys.flatMap lU) ∧ wl.heap.size ≤ w.heap.size) (fun v w w' h hS => owns_below hS h) (fun G hG v w w' h hS => ?_) (fun w w' h hI => hI.turn h (fun k hk => (HLT.out.2.2.1 k hk).1) HLT.out.2.1) ?_ rfl (fun w w' h hJ => ⟨owns_below hJ.1 h, Nat.le_trans hJ.2 h.size⟩) HJ2.out (fun G hG w w' h hJ => ?_) (fun J hJ w w' h hJ2 => ?_) (fun a w hI hJ hF => ?_) ?_
       ·rcases List.mem_cons.1 hG with rfl | hG
        ·exact owns_only hS h (fun j hj e => by have := (owns_type hS hj).choose_spec.2.1; have := HLT.out.2.2.2; have e' : j = b := e; omega)
        ·cases hG
       ·intro p hp
        repeat (rcases List.mem_cons.1 hp with rfl | hp; first | exact Reg.stab_is _ _ | exact (fun v w w' h hS => by obtain ⟨gl, h1, h2, h3⟩ := hS; exact ⟨gl, h1, h2, h3.only h (fun e => by have := (HLT.out.2.2.1 gl e); omega)⟩) | exact (fun v w w' h hS => ⟨hS.1, RR.only hS.2 h (fun e => by have := (HLT.out.2.2.1 b e); have := HLT.out.2.2.2; omega)⟩))
        cases hp
       ·rcases List.mem_cons.1 hG with rfl | hG
        ·exact ⟨owns_only hJ.1 h (fun j hj e => by have := (owns_type hJ.1 hj).choose_spec.2.1; have := HLT.out.2.2.2; have e' : j = b := e; omega), Nat.le_trans hJ.2 h.size⟩
        ·cases hG
       ·rcases List.mem_cons.1 hJ with rfl | hJ
        ·exact RR.only hJ2 h (fun e => by have := (HLT.out.2.2.1 b e); have := HLT.out.2.2.2; omega)
        ·cases hJ
       ·have f1 : a.tmps.getD 65 undef = .slice pv ys.length cv := hF 65 (Reg.looksB (by kernel_rfl))
        obtain ⟨gl, f2, hg1, hgl⟩ : ∃ gl, a.tmps.getD 68 undef = .slice (some ⟨gl, 0, none⟩) 1 1 ∧ wr.heap.size ≤ gl ∧ Blk w gl 22 #[.int .u64 x] := hF 68 (Reg.looksB (by kernel_rfl))
        exact apRun (t := 27) (sl := .tmp 65) (x := .tmp 68) rfl Tryz.underlying27 info_u64 rfl (by decide) (by decide) f1 f2 hgl (by simp [Value.oneCell']) rfl hJ.1 (by have := HN2.out; have := HIN.out; omega) hJ.2
       refine Reg.rely_is (.pointer (some ⟨W.heap.size, 12, none⟩)) (fun a w hI hF => Reg.det_plain rfl ?_) ?_
       ·have f1 : a.tmps.getD 3 undef = .pointer (some ⟨W.heap.size, 0, none⟩) := hF 3 (Reg.looksB (by kernel_rfl))
        clear hF hI
        simp only [Array.getD_eq_getD_getElem?] at f1
        simp only [execOp]; go_simp
       refine Reg.rely_nil ?_
       refine Reg.final_is ?_
       refine Reg.final_rel (fun v5 => ?_)
       refine Reg.final_rel (fun v4 => ?_)
       refine Reg.final_rel (fun v3 => ?_)
       refine Reg.final_is ?_
       refine Reg.final_is ?_
       refine Reg.final_is ?_
       refine Reg.final_nil (fun w9 hF => ?_)
       obtain ⟨⟨⟨hI9, hT9⟩, hL9⟩, hC9⟩ := hF
       have HI9 := Lib.hid hI9
       have HC9 := Lib.hid hC9.2
       have HT9 := Lib.hid hT9
       clear hI9 hC9 hL9 hT9
       simp only [List.drop_succ_cons, List.drop_zero]
       go_simp
       have d1 : w9.cell? ⟨W.heap.size, 12, none⟩ = some (.slice pv ys.length cv) := (HI9.out.1.cell 12).trans HA.out
       have f1 := HI9.out.1.frozen 12
       obtain ⟨p9, c9, rfl⟩ := owns_slice HT9.out
       have HNX2 := Lib.hid (HNX.out w9 _ HC9.out HI9.out.2 HT9.out)
       clear HNX
       generalize hyl : ys.length = yl at *
       have HYL := Lib.hid hyl
       clear hyl
       go_wp2_with fail
       refine Reg.fin (by kernel_rfl) ?_
       go_wp2_with fail
       go_roundw
       case rel => (try rw [HE.out]); exact ⟨_, _, _, by rw [List.length_append, HYL.out]; rfl, HNX2.out⟩
       case measure => (try rw [HE.out]); simp [intOf]; have := HIN.out; have := HYL.out; omega
      ·have HF := Lib.hid (HEND.out _ _ _ _ _ HRI.out (.inr he))
       have he' : (qi.e == 0) = false := by simpa using he
       clear he hi
       generalize hqe : qi.e = qe at *
       clear hqe
       go_wp2_with fail
       go_meet
       exact HF.out
     ·have HF := Lib.hid (HEND.out _ _ _ _ _ HRI.out (.inl hi))
      have hi' : ¬ (ys.length : Int) < (n : Int) := by omega
      clear hi
      generalize hqe : qi.e = qe at *
      clear hqe
      go_wp2_with fail
      go_meet
      exact HF.out
  case rest =>
   try clear HDX
   have hkn : (rif k .H (t, q)).1.kind = k := (rif_kind _ _ _).trans HK.out
   generalize rif k .H (t, q) = xx at *
   obtain ⟨t, q⟩ := xx
   obtain ⟨u, hx, hnil⟩ := hcut
   obtain ⟨w12, hwk⟩ : ∃ w12, w12 = wc := ⟨_, rfl⟩
   subst hwk
   have HD0 := Lib.hid hx
   have HNIL := Lib.hid hnil
   have HK : Hid (t.kind = k) := Lib.hid hkn
   have y0 : w12.cell? ⟨W.heap.size, 0, none⟩ = some (.int .u8 k) := (HD0.out.gt.cell 0).trans (congrArg (fun z => some (Value.int .u8 z)) HK.out)
   clear hx hnil hkn
   go_upto_if 73 with (go_at_call 23; go_loud ((with_reducible refine (HHA.out _).mono ?_); rintro e wh ⟨rfl, hbq⟩; have HDX := Lib.hid (HD0.out.step hbq); clear hbq))
   clear y0 HD0 HHA
   go_cut [] (fun wd => LS S W b (rif k .A (t, q)) [.C] wd)
   case first =>
    cases hk : hasK k .A with
    | false =>
     have HF := Lib.hid (ls_not (ps' := [.C]) hk HDX.out HNIL.out (by decide))
     clear hk
     go_wp2_with fail
     go_meet
     exact HF.out
    | true =>
     obtain ⟨n, hn, hn2⟩ := cV_nat 128 (by unfold I64; decide) (by decide) q
     have HC := Lib.hid (rC_any HDX.out.rq 128 (by unfold I64; decide))
     rw [hn] at HC
     have HEND : Hid (∀ (wl w : World) (ys : List Nm) (qi : RS) (v : Value), LR S rNm 52 2 lN W wl b n 13 t u (cS 128 q) ys qi v w → (¬ ys.length < n ∨ qi.e ≠ 0) → LS S W b (rif k .A (t, q)) [.C] w) := Lib.hid (fun wl w ys qi v h he => lsA hk hn (fun p hp => ⟨by rcases p <;> first | (intro e; cases e; done) | (exact absurd hp (by decide)), HNIL.out p (by revert p; decide)⟩) h he)
     have H0 : Hid ((mcells t u)[13]? = some (.slice none 0 0)) := Lib.hid ((show (mcells t u)[13]? = some u.m from rfl).trans (congrArg some (HNIL.out .A (by decide))))
     have HN2 := Lib.hid hn2
     clear hk hn hn2
     generalize rif k .A (t, q) = xx at *
     generalize cS 128 q = q1 at *
     go_wp2_with (go_at_call 57; go_loud ((with_reducible refine HC.out.mono ?_); rintro e wl ⟨rfl, hp, ho⟩; have HQ1 := Lib.hid (HDX.out.read hp ho); clear hp ho))
     clear HC HDX
     go_loopw [11] (fun s wr => ∃ ys qi v, s = .int .i64 (ys.length : Nat) ∧ LR S rNm 52 2 lN W wl b n 13 t u q1 ys qi v wr) (fun s _ => ((n : Int) - intOf s).toNat)
     case atStart => exact ⟨[], q1, _, rfl, LR.start HQ1.out H0.out⟩
     case round =>
      obtain ⟨ys, qi, v, rfl, hR⟩ := hrel
      have HRI := Lib.hid hR
      have c1 : wr.cell? ⟨b, 1, none⟩ = some (.int .i64 qi.e) := hR.rq.c1
      obtain ⟨pv, cv, hv⟩ := owns_slice hR.row
      subst hv
      clear hR
      by_cases hi : ys.length < n
      ·have hi' : (ys.length : Int) < (n : Int) := by omega
       by_cases he : qi.e = 0
       ·have he' : (qi.e == 0) = true := by simpa using he
        have HIN := Lib.hid hi
        have HE0 := Lib.hid he
        have HE : Hid (wrap64 ((ys.length : Int) + 1) = ((ys.length + 1 : Nat) : Int)) := Lib.hid (wr64 rfl (by have := HN2.out; omega))
        clear he hi
        generalize hqe : qi.e = qe at *
        have HQE := Lib.hid hqe
        clear hqe
        go_upto_region 22 with fail
        clear c1 he' hi'
        obtain ⟨A, hA⟩ : ∃ A, A = (mcells t u).setIfInBounds 13 (.slice pv ys.length cv) := ⟨_, rfl⟩
        have HA : Hid (A[13]? = some (.slice pv ys.length cv)) := Lib.hid (by rw [hA]; rfl)
        have HI0 : Hid (LIv W wr b wl.heap.size A wr.drew) := Lib.hid ⟨(hA ▸ HRI.out.gt).drew, (Only.refl _ wr).drew⟩
        have HJ1 : Hid (RQ wr.drew b qi) := Lib.hid (RR.below HRI.out.rq (Below.refl _ wr).drew)
        have HJ2 : Hid (wr.drew.ownsRow wl.heap.size 52 2 (.slice pv ys.length cv) ys.length (ys.flatMap lN) ∧ wl.heap.size ≤ wr.drew.heap.size) := Lib.hid ⟨owns_below HRI.out.row (Below.refl _ wr).drew, HRI.out.le2⟩
        have HNE : Hid (W.heap.size ≠ b) := Lib.hid (by have := HRI.out.l0.lt; omega)
        have HLT : Hid (b < wr.heap.size ∧ W.heap.size < wl.heap.size ∧ (∀ k, (Value.slice pv ys.length cv).ownBlock = some k → wl.heap.size ≤ k ∧ k < wr.heap.size) ∧ b < wl.heap.size) := Lib.hid ⟨by have := HRI.out.l0.lt; have := HRI.out.l0.sz; have := HRI.out.le2; omega, by have := HRI.out.l0.sz; omega, fun k hk => (owns_type HRI.out.row hk).choose_spec.2, by have := HRI.out.l0.lt; have := HRI.out.l0.sz; omega⟩
        have HCL := Lib.hid (fun w (h : RQ w b qi) => rdname_any h)
        have HNX : Hid (∀ w3 v3, RQ w3 b (rNm qi).2 → Ch b wl.heap.size wr w3 → w3.ownsRow wl.heap.size 52 2 v3 (ys.length + 1) (ys.flatMap lN ++ lN (rNm qi).1) → LR S rNm 52 2 lN W wl b n 13 t u q1 (ys ++ [(rNm qi).1]) (rNm qi).2 v3 (w3.setCell ⟨W.heap.size, 13, none⟩ v3)) := Lib.hid fun w3 v3 h1 h2 h3 => HRI.out.next HIN.out (HQE.out.trans HE0.out) h1 h2 h3
        skip
        generalize rNm qi = rn at *
        obtain ⟨⟨xj, xp⟩, q2⟩ := rn
        dsimp only at HCL HNX
        unfold RdV at HCL
        clear hA
        refine Reg.wp_rely 7 (LIv W wr b wl.heap.size A) (by kernel_rfl) (Reg.relyOk_of (by kernel_rfl)) HI0.out (fun w w' h hI => hI.below h) ?_
        refine Reg.rely_plain (.pointer (some ⟨W.heap.size, 13, none⟩)) rfl (fun a w hI hF => by
          have f1 : a.tmps.getD 3 undef = .pointer (some ⟨W.heap.size, 0, none⟩) := hF 3 (Reg.looksB (by kernel_rfl))
          clear hF hI
          simp only [Array.getD_eq_getD_getElem?] at f1
          simp only [execOp]; go_simp) ?_
        refine Reg.rely_plain (.slice pv ys.length cv) rfl (fun a w hI hF => by
          have f1 : a.tmps.getD 88 undef = .pointer (some ⟨W.heap.size, 13, none⟩) := hF 88 (Reg.looksB (by kernel_rfl))
          have hc : w.cell? ⟨W.heap.size, 13, none⟩ = some (.slice pv ys.length cv) := (hI.1.cell 13).trans HA.out
          clear hF hI
          simp only [Array.getD_eq_getD_getElem?] at f1
          simp only [execOp]; go_simp) ?_
        refine Reg.rely_plain (.pointer (some ⟨b, 0, none⟩)) rfl (fun a w hI hF => by
          have f1 : a.tmps.getD 0 undef = .pointer (some ⟨b, 0, none⟩) := hF 0 (Reg.looksB (by kernel_rfl))
          clear hF hI
          simp only [Array.getD_eq_getD_getElem?] at f1
          simp only [execOp]; go_simp) ?_
        refine Reg.rely_call (fun v w => v = .agg #[.int .u64 xj, .string xp] ∧ RQ w b q2) (fun w w' => Only (· = b) w w') (fun w => RQ w b qi) (fun v w w' h hS => ⟨hS.1, RR.below hS.2 h⟩) (fun G hG => by cases hG) (fun w w' h hI => hI.read h HNE.out) ?_ rfl (fun w w' h hJ => RR.below hJ h) HJ1.out (fun G hG => by cases hG) (fun G hG => by cases hG) 59 #[.pointer (some ⟨b, 0, none⟩)] (fun a w hI hF => ?_) (fun w hI hJ => (HCL.out w hJ).mono fun e w' h => ⟨_, h.1, ⟨rfl, h.2.1⟩, h.2.2⟩) ?_
        ·intro p hp
         repeat (rcases List.mem_cons.1 hp with rfl | hp; exact Reg.stab_is _ _)
         cases hp
        ·have f1 : a.tmps.getD 90 undef = .pointer (some ⟨b, 0, none⟩) := hF 90 (Reg.looksB (by kernel_rfl))
         clear hF hI
         simp only [Array.getD_eq_getD_getElem?] at f1
         simp only [execOp]; go_simp
        refine Reg.rely_rel (fun v w => ∃ gl, v = .slice (some ⟨gl, 0, none⟩) 1 1 ∧ wr.heap.size ≤ gl ∧ Blk w gl 52 #[.int .u64 xj, .string xp]) (fun v w w' h hS => by obtain ⟨gl, h1, h2, h3⟩ := hS; exact ⟨gl, h1, h2, h3.below h⟩) (fun G hG v w w' h hS => ?_) rfl (fun a w hI hF => ?_) ?_
        ·rcases List.mem_cons.1 hG with rfl | hG
         ·obtain ⟨gl, h1, h2, h3⟩ := hS
          exact ⟨gl, h1, h2, h3.only h (fun e => by have := HLT.out.1; have e' : gl = b := e; omega)⟩
         ·cases hG
        ·have f1 : a.tmps.getD 91 undef = .agg #[.int .u64 xj, .string xp] := (hF 91 (Reg.looksB (by kernel_rfl))).1
         have hK := Lib.hid (Blk.new w 52 #[.int .u64 xj, .string xp])
         have hQ := Lib.hid hI.2.size
         have hW := Lib.hid (show Reg.Grow w (w.alloc (.cells #[.int .u64 xj, .string xp] 52)) from (Below.refl _ w).alloc (Nat.le_refl _) _)
         clear hF hI
         simp only [Array.getD_eq_getD_getElem?] at f1
         unfold Oper.wp
         simp only [execOp]
         go_simp
         exact ⟨_, rfl, ⟨_, rfl, hQ.out, hK.out⟩, hW.out⟩
        refine Reg.rely_turn (fun v w => w.ownsRow wl.heap.size 52 2 v (ys.length + 1) (ys.flatMap lN ++ #[.int .u64 xj, .string xp].toList)) (fun w w' => Only (fun k => (.slice pv ys.length cv : Value).ownBlock = some k) w w') (fun w => w.ownsRow wl.heap.size 52 2 (.slice pv ys.length cv) ys.length (ys.flatMap lN) ∧ wl.heap.size ≤ w.heap.size) (fun v w w' h hS => owns_below hS h) (fun G hG v w w' h hS => ?_) (fun w w' h hI => hI.turn h (fun k hk => (HLT.out.2.2.1 k hk).1) HLT.out.2.1) ?_ rfl (fun w w' h hJ => ⟨owns_below hJ.1 h, Nat.le_trans hJ.2 h.size⟩) HJ2.out (fun G hG w w' h hJ => ?_) (fun J hJ w w' h hJ2 => ?_) (fun a w hI hJ hF => ?_) ?_
        ·rcases List.mem_cons.1 hG with rfl | hG
         ·exact owns_only hS h (fun j hj e => by have := (owns_type hS hj).choose_spec.2.1; have := HLT.out.2.2.2; have e' : j = b := e; omega)
         ·cases hG
        ·intro p hp
         repeat (rcases List.mem_cons.1 hp with rfl | hp; first | exact Reg.stab_is _ _ | exact (fun v w w' h hS => by obtain ⟨gl, h1, h2, h3⟩ := hS; exact ⟨gl, h1, h2, h3.only h (fun e => by have := (HLT.out.2.2.1 gl e); omega)⟩) | exact (fun v w w' h hS => ⟨hS.1, RR.only hS.2 h (fun e => by have := (HLT.out.2.2.1 b e); have := HLT.out.2.2.2; omega)⟩))
         cases hp
        ·rcases List.mem_cons.1 hG with rfl | hG
         ·exact ⟨owns_only hJ.1 h (fun j hj e => by have := (owns_type hJ.1 hj).choose_spec.2.1; have := HLT.out.2.2.2; have e' : j = b := e; omega), Nat.le_trans hJ.2 h.size⟩
         ·cases hG
        ·rcases List.mem_cons.1 hJ with rfl | hJ
         ·exact RR.only hJ2 h (fun e => by have := (HLT.out.2.2.1 b e); have := HLT.out.2.2.2; omega)
         ·cases hJ
        ·have f1 : a.tmps.getD 89 undef = .slice pv ys.length cv := hF 89 (Reg.looksB (by kernel_rfl))
         obtain ⟨gl, f2, hg1, hgl⟩ : ∃ gl, a.tmps.getD 92 undef = .slice (some ⟨gl, 0, none⟩) 1 1 ∧ wr.heap.size ≤ gl ∧ Blk w gl 52 #[.int .u64 xj, .string xp] := hF 92 (Reg.looksB (by kernel_rfl))
         exact apRun (t := 28) (sl := .tmp 89) (x := .tmp 92) rfl Tryz.underlying28 info_nm rfl (by decide) (by decide) f1 f2 hgl (by simp [Value.oneCell']) rfl hJ.1 (by have := HN2.out; have := HIN.out; omega) hJ.2
        refine Reg.rely_is (.pointer (some ⟨W.heap.size, 13, none⟩)) (fun a w hI hF => Reg.det_plain rfl ?_) ?_
        ·have f1 : a.tmps.getD 3 undef = .pointer (some ⟨W.heap.size, 0, none⟩) := hF 3 (Reg.looksB (by kernel_rfl))
         clear hF hI
         simp only [Array.getD_eq_getD_getElem?] at f1
         simp only [execOp]; go_simp
        refine Reg.rely_nil ?_
        refine Reg.final_is ?_
        refine Reg.final_rel (fun v5 => ?_)
        refine Reg.final_rel (fun v4 => ?_)
        refine Reg.final_rel (fun v3 => ?_)
        refine Reg.final_is ?_
        refine Reg.final_is ?_
        refine Reg.final_is ?_
        refine Reg.final_nil (fun w9 hF => ?_)
        obtain ⟨⟨⟨hI9, hT9⟩, hL9⟩, hC9⟩ := hF
        have HI9 := Lib.hid hI9
        have HC9 := Lib.hid hC9.2
        have HT9 := Lib.hid hT9
        clear hI9 hC9 hL9 hT9
        simp only [List.drop_succ_cons, List.drop_zero]
        go_simp
        have d1 : w9.cell? ⟨W.heap.size, 13, none⟩ = some (.slice pv ys.length cv) := (HI9.out.1.cell 13).trans HA.out
        have f1 := HI9.out.1.frozen 13
        obtain ⟨p9, c9, rfl⟩ := owns_slice HT9.out
        have HNX2 := Lib.hid (HNX.out w9 _ HC9.out HI9.out.2 HT9.out)
        clear HNX
        generalize hyl : ys.length = yl at *
        have HYL := Lib.hid hyl
        clear hyl
        go_wp2_with fail
        refine Reg.fin (by kernel_rfl) ?_
        go_wp2_with fail
        go_roundw
        case rel => (try rw [HE.out]); exact ⟨_, _, _, by rw [List.length_append, HYL.out]; rfl, HNX2.out⟩
        case measure => (try rw [HE.out]); simp [intOf]; have := HIN.out; have := HYL.out; omega
       ·have HF := Lib.hid (HEND.out _ _ _ _ _ HRI.out (.inr he))
        have he' : (qi.e == 0) = false := by simpa using he
        clear he hi
        generalize hqe : qi.e = qe at *
        clear hqe
        go_wp2_with fail
        go_meet
        exact HF.out
      ·have HF := Lib.hid (HEND.out _ _ _ _ _ HRI.out (.inl hi))
       have hi' : ¬ (ys.length : Int) < (n : Int) := by omega
       clear hi
       generalize hqe : qi.e = qe at *
       clear hqe
       go_wp2_with fail
       go_meet
       exact HF.out
   case rest =>
    try clear HDX
    have hkn : (rif k .A (t, q)).1.kind = k := (rif_kind _ _ _).trans HK.out
    generalize rif k .A (t, q) = xx at *
    obtain ⟨t, q⟩ := xx
    obtain ⟨u, hx, hnil⟩ := hcut
    obtain ⟨w13, hwk⟩ : ∃ w13, w13 = wc := ⟨_, rfl⟩
    subst hwk
    have HD0 := Lib.hid hx
    have HNIL := Lib.hid hnil
    have HK : Hid (t.kind = k) := Lib.hid hkn
    have y0 : w13.cell? ⟨W.heap.size, 0, none⟩ = some (.int .u8 k) := (HD0.out.gt.cell 0).trans (congrArg (fun z => some (Value.int .u8 z)) HK.out)
    clear hx hnil hkn
    go_upto_if 97 with (go_at_call 23; go_loud ((with_reducible refine (HHC.out _).mono ?_); rintro e wh ⟨rfl, hbq⟩; have HDX := Lib.hid (HD0.out.step hbq); clear hbq))
    clear y0 HD0 HHC
    go_cut [] (fun wd => LS S W b (rif k .C (t, q)) [] wd)
    case first =>
     cases hk : hasK k .C with
     | false =>
      have HF := Lib.hid (ls_not (ps' := []) hk HDX.out HNIL.out (by decide))
      clear hk
      go_wp2_with fail
      go_meet
      exact HF.out
     | true =>
      obtain ⟨n, hn, hn2⟩ := cV_nat 128 (by unfold I64; decide) (by decide) q
      have HC := Lib.hid (rC_any HDX.out.rq 128 (by unfold I64; decide))
      rw [hn] at HC
      have HEND : Hid (∀ (wl w : World) (ys : List Int) (qi : RS) (v : Value), LR S (rU 9999) 30 1 lI W wl b n 14 t u (cS 128 q) ys qi v w → (¬ ys.length < n ∨ qi.e ≠ 0) → LS S W b (rif k .C (t, q)) [] w) := Lib.hid (fun wl w ys qi v h he => lsC hk hn (fun p hp => ⟨by rcases p <;> first | (intro e; cases e; done) | (exact absurd hp (by decide)), HNIL.out p (by revert p; decide)⟩) h he)
      have H0 : Hid ((mcells t u)[14]? = some (.slice none 0 0)) := Lib.hid ((show (mcells t u)[14]? = some u.c from rfl).trans (congrArg some (HNIL.out .C (by decide))))
      have HN2 := Lib.hid hn2
      clear hk hn hn2
      generalize rif k .C (t, q) = xx at *
      generalize cS 128 q = q1 at *
      go_wp2_with (go_at_call 57; go_loud ((with_reducible refine HC.out.mono ?_); rintro e wl ⟨rfl, hp, ho⟩; have HQ1 := Lib.hid (HDX.out.read hp ho); clear hp ho))
      clear HC HDX
      go_loopw [13] (fun s wr => ∃ ys qi v, s = .int .i64 (ys.length : Nat) ∧ LR S (rU 9999) 30 1 lI W wl b n 14 t u q1 ys qi v wr) (fun s _ => ((n : Int) - intOf s).toNat)
      case atStart => exact ⟨[], q1, _, rfl, LR.start HQ1.out H0.out⟩
      case round =>
       obtain ⟨ys, qi, v, rfl, hR⟩ := hrel
       have HRI := Lib.hid hR
       have c1 : wr.cell? ⟨b, 1, none⟩ = some (.int .i64 qi.e) := hR.rq.c1
       obtain ⟨pv, cv, hv⟩ := owns_slice hR.row
       subst hv
       clear hR
       by_cases hi : ys.length < n
       ·have hi' : (ys.length : Int) < (n : Int) := by omega
        by_cases he : qi.e = 0
        ·have he' : (qi.e == 0) = true := by simpa using he
         have HIN := Lib.hid hi
         have HE0 := Lib.hid he
         have HE : Hid (wrap64 ((ys.length : Int) + 1) = ((ys.length + 1 : Nat) : Int)) := Lib.hid (wr64 rfl (by have := HN2.out; omega))
         clear he hi
         generalize hqe : qi.e = qe at *
         have HQE := Lib.hid hqe
         clear hqe
         go_upto_region 28 with fail
         clear c1 he' hi'
         obtain ⟨A, hA⟩ : ∃ A, A = (mcells t u).setIfInBounds 14 (.slice pv ys.length cv) := ⟨_, rfl⟩
         have HA : Hid (A[14]? = some (.slice pv ys.length cv)) := Lib.hid (by rw [hA]; rfl)
         have HI0 : Hid (LIv W wr b wl.heap.size A wr.drew) := Lib.hid ⟨(hA ▸ HRI.out.gt).drew, (Only.refl _ wr).drew⟩
         have HJ1 : Hid (RQ wr.drew b qi) := Lib.hid (RR.below HRI.out.rq (Below.refl _ wr).drew)
         have HJ2 : Hid (wr.drew.ownsRow wl.heap.size 30 1 (.slice pv ys.length cv) ys.length (ys.flatMap lI) ∧ wl.heap.size ≤ wr.drew.heap.size) := Lib.hid ⟨owns_below HRI.out.row (Below.refl _ wr).drew, HRI.out.le2⟩
         have HNE : Hid (W.heap.size ≠ b) := Lib.hid (by have := HRI.out.l0.lt; omega)
         have HLT : Hid (b < wr.heap.size ∧ W.heap.size < wl.heap.size ∧ (∀ k, (Value.slice pv ys.length cv).ownBlock = some k → wl.heap.size ≤ k ∧ k < wr.heap.size) ∧ b < wl.heap.size) := Lib.hid ⟨by have := HRI.out.l0.lt; have := HRI.out.l0.sz; have := HRI.out.le2; omega, by have := HRI.out.l0.sz; omega, fun k hk => (owns_type HRI.out.row hk).choose_spec.2, by have := HRI.out.l0.lt; have := HRI.out.l0.sz; omega⟩
         have HCL := Lib.hid (fun w (h : RQ w b qi) => rU_any h 9999)
         have HNX : Hid (∀ w3 v3, RQ w3 b (uS 9999 qi) → Ch b wl.heap.size wr w3 → w3.ownsRow wl.heap.size 30 1 v3 (ys.length + 1) (ys.flatMap lI ++ lI (uV 9999 qi)) → LR S (rU 9999) 30 1 lI W wl b n 14 t u q1 (ys ++ [uV 9999 qi]) (uS 9999 qi) v3 (w3.setCell ⟨W.heap.size, 14, none⟩ v3)) := Lib.hid fun w3 v3 h1 h2 h3 => HRI.out.next HIN.out (HQE.out.trans HE0.out) h1 h2 h3
         have HX : Hid (IntKind.i64.wrap (uV 9999 qi) = uV 9999 qi) := Lib.hid (by have := uV_rg (m := 9999) (by decide) qi; rw [IntKind.wrap_i64]; omega)
         generalize uV 9999 qi = x at *
         generalize uS 9999 qi = q2 at *
         clear hA
         refine Reg.wp_rely 8 (LIv W wr b wl.heap.size A) (by kernel_rfl) (Reg.relyOk_of (by kernel_rfl)) HI0.out (fun w w' h hI => hI.below h) ?_
         refine Reg.rely_plain (.pointer (some ⟨W.heap.size, 14, none⟩)) rfl (fun a w hI hF => by
           have f1 : a.tmps.getD 3 undef = .pointer (some ⟨W.heap.size, 0, none⟩) := hF 3 (Reg.looksB (by kernel_rfl))
           clear hF hI
           simp only [Array.getD_eq_getD_getElem?] at f1
           simp only [execOp]; go_simp) ?_
         refine Reg.rely_plain (.slice pv ys.length cv) rfl (fun a w hI hF => by
           have f1 : a.tmps.getD 112 undef = .pointer (some ⟨W.heap.size, 14, none⟩) := hF 112 (Reg.looksB (by kernel_rfl))
           have hc : w.cell? ⟨W.heap.size, 14, none⟩ = some (.slice pv ys.length cv) := (hI.1.cell 14).trans HA.out
           clear hF hI
           simp only [Array.getD_eq_getD_getElem?] at f1
           simp only [execOp]; go_simp) ?_
         refine Reg.rely_plain (.pointer (some ⟨b, 0, none⟩)) rfl (fun a w hI hF => by
           have f1 : a.tmps.getD 0 undef = .pointer (some ⟨b, 0, none⟩) := hF 0 (Reg.looksB (by kernel_rfl))
           clear hF hI
           simp only [Array.getD_eq_getD_getElem?] at f1
           simp only [execOp]; go_simp) ?_
         refine Reg.rely_call (fun v w => v = .int .u64 x ∧ RQ w b q2) (fun w w' => Only (· = b) w w') (fun w => RQ w b qi) (fun v w w' h hS => ⟨hS.1, RR.below hS.2 h⟩) (fun G hG => by cases hG) (fun w w' h hI => hI.read h HNE.out) ?_ rfl (fun w w' h hJ => RR.below hJ h) HJ1.out (fun G hG => by cases hG) (fun G hG => by cases hG) 38 #[.pointer (some ⟨b, 0, none⟩), .int .u64 9999] (fun a w hI hF => ?_) (fun w hI hJ => (HCL.out w hJ).mono fun e w' h => ⟨_, h.1, ⟨rfl, h.2.1⟩, h.2.2⟩) ?_
         ·intro p hp
          repeat (rcases List.mem_cons.1 hp with rfl | hp; exact Reg.stab_is _ _)
          cases hp
         ·have f1 : a.tmps.getD 114 undef = .pointer (some ⟨b, 0, none⟩) := hF 114 (Reg.looksB (by kernel_rfl))
          clear hF hI
          simp only [Array.getD_eq_getD_getElem?] at f1
          simp only [execOp]; go_simp
         refine Reg.rely_is (.int .i64 x) (fun a w hI hF => Reg.det_plain rfl ?_) ?_
         ·have f1 : a.tmps.getD 115 undef = .int .u64 x := (hF 115 (Reg.looksB (by kernel_rfl))).1
          have hx := HX.out
          clear hF hI
          simp only [Array.getD_eq_getD_getElem?] at f1
          simp only [execOp]; go_simp
         refine Reg.rely_rel (fun v w => ∃ gl, v = .slice (some ⟨gl, 0, none⟩) 1 1 ∧ wr.heap.size ≤ gl ∧ Blk w gl 30 #[.int .i64 x]) (fun v w w' h hS => by obtain ⟨gl, h1, h2, h3⟩ := hS; exact ⟨gl, h1, h2, h3.below h⟩) (fun G hG v w w' h hS => ?_) rfl (fun a w hI hF => ?_) ?_
         ·rcases List.mem_cons.1 hG with rfl | hG
          ·obtain ⟨gl, h1, h2, h3⟩ := hS
           exact ⟨gl, h1, h2, h3.only h (fun e => by have := HLT.out.1; have e' : gl = b := e; omega)⟩
          ·cases hG
         ·have f1 : a.tmps.getD 116 undef = .int .i64 x := hF 116 (Reg.looksB (by kernel_rfl))
          have hK := Lib.hid (Blk.new w 30 #[.int .i64 x])
          have hQ := Lib.hid hI.2.size
          have hW := Lib.hid (show Reg.Grow w (w.alloc (.cells #[.int .i64 x] 30)) from (Below.refl _ w).alloc (Nat.le_refl _) _)
          clear hF hI
          simp only [Array.getD_eq_getD_getElem?] at f1
          unfold Oper.wp
          simp only [execOp]
          go_simp
          exact ⟨_, rfl, ⟨_, rfl, hQ.out, hK.out⟩, hW.out⟩
         refine Reg.rely_turn (fun v w => w.ownsRow wl.heap.size 30 1 v (ys.length + 1) (ys.flatMap lI ++ #[.int .i64 x].toList)) (fun w w' => Only (fun k => (.slice pv ys.length cv : Value).ownBlock = some k) w w') (fun w => w.ownsRow wl.heap.size 30 1 (.slice pv ys.length cv) ys.length (ys.flatMap lI) ∧ wl.heap.size ≤ w.heap.size) (fun v w w' h hS => owns_below hS h) (fun G hG v w w' h hS => ?_) (fun w w' h hI => hI.turn h (fun k hk => (HLT.out.2.2.1 k hk).1) HLT.out.2.1) ?_ rfl (fun w w' h hJ => ⟨owns_below hJ.1 h, Nat.le_trans hJ.2 h.size⟩) HJ2.out (fun G hG w w' h hJ => ?_) (fun J hJ w w' h hJ2 => ?_) (fun a w hI hJ hF => ?_) ?_
         ·rcases List.mem_cons.1 hG with rfl | hG
          ·exact owns_only hS h (fun j hj e => by have := (owns_type hS hj).choose_spec.2.1; have := HLT.out.2.2.2; have e' : j = b := e; omega)
          ·cases hG
         ·intro p hp
          repeat (rcases List.mem_cons.1 hp with rfl | hp; first | exact Reg.stab_is _ _ | exact (fun v w w' h hS => by obtain ⟨gl, h1, h2, h3⟩ := hS; exact ⟨gl, h1, h2, h3.only h (fun e => by have := (HLT.out.2.2.1 gl e); omega)⟩) | exact (fun v w w' h hS => ⟨hS.1, RR.only hS.2 h (fun e => by have := (HLT.out.2.2.1 b e); have := HLT.out.2.2.2; omega)⟩))
          cases hp
         ·rcases List.mem_cons.1 hG with rfl | hG
          ·exact ⟨owns_only hJ.1 h (fun j hj e => by have := (owns_type hJ.1 hj).choose_spec.2.1; have := HLT.out.2.2.2; have e' : j = b := e; omega), Nat.le_trans hJ.2 h.size⟩
          ·cases hG
         ·rcases List.mem_cons.1 hJ with rfl | hJ
          ·exact RR.only hJ2 h (fun e => by have := (HLT.out.2.2.1 b e); have := HLT.out.2.2.2; omega)
          ·cases hJ
         ·have f1 : a.tmps.getD 113 undef = .slice pv ys.length cv := hF 113 (Reg.looksB (by kernel_rfl))
          obtain ⟨gl, f2, hg1, hgl⟩ : ∃ gl, a.tmps.getD 117 undef = .slice (some ⟨gl, 0, none⟩) 1 1 ∧ wr.heap.size ≤ gl ∧ Blk w gl 30 #[.int .i64 x] := hF 117 (Reg.looksB (by kernel_rfl))
          exact apRun (t := 29) (sl := .tmp 113) (x := .tmp 117) rfl Tryz.underlying29 info_err rfl (by decide) (by decide) f1 f2 hgl (by simp [Value.oneCell']) rfl hJ.1 (by have := HN2.out; have := HIN.out; omega) hJ.2
         refine Reg.rely_is (.pointer (some ⟨W.heap.size, 14, none⟩)) (fun a w hI hF => Reg.det_plain rfl ?_) ?_
         ·have f1 : a.tmps.getD 3 undef = .pointer (some ⟨W.heap.size, 0, none⟩) := hF 3 (Reg.looksB (by kernel_rfl))
          clear hF hI
          simp only [Array.getD_eq_getD_getElem?] at f1
          simp only [execOp]; go_simp
         refine Reg.rely_nil ?_
         refine Reg.final_is ?_
         refine Reg.final_rel (fun v6 => ?_)
         refine Reg.final_rel (fun v5 => ?_)
         refine Reg.final_is ?_
         refine Reg.final_rel (fun v3 => ?_)
         refine Reg.final_is ?_
         refine Reg.final_is ?_
         refine Reg.final_is ?_
         refine Reg.final_nil (fun w9 hF => ?_)
         obtain ⟨⟨⟨hI9, hT9⟩, hL9⟩, hC9⟩ := hF
         have HI9 := Lib.hid hI9
         have HC9 := Lib.hid hC9.2
         have HT9 := Lib.hid hT9
         clear hI9 hC9 hL9 hT9
         simp only [List.drop_succ_cons, List.drop_zero]
         go_simp
         have d1 : w9.cell? ⟨W.heap.size, 14, none⟩ = some (.slice pv ys.length cv) := (HI9.out.1.cell 14).trans HA.out
         have f1 := HI9.out.1.frozen 14
         obtain ⟨p9, c9, rfl⟩ := owns_slice HT9.out
         have HNX2 := Lib.hid (HNX.out w9 _ HC9.out HI9.out.2 HT9.out)
         clear HNX
         generalize hyl : ys.length = yl at *
         have HYL := Lib.hid hyl
         clear hyl
         go_wp2_with fail
         refine Reg.fin (by kernel_rfl) ?_
         go_wp2_with fail
         go_roundw
         case rel => (try rw [HE.out]); exact ⟨_, _, _, by rw [List.length_append, HYL.out]; rfl, HNX2.out⟩
         case measure => (try rw [HE.out]); simp [intOf]; have := HIN.out; have := HYL.out; omega
        ·have HF := Lib.hid (HEND.out _ _ _ _ _ HRI.out (.inr he))
         have he' : (qi.e == 0) = false := by simpa using he
         clear he hi
         generalize hqe : qi.e = qe at *
         clear hqe
         go_wp2_with fail
         go_meet
         exact HF.out
       ·have HF := Lib.hid (HEND.out _ _ _ _ _ HRI.out (.inl hi))
        have hi' : ¬ (ys.length : Int) < (n : Int) := by omega
        clear hi
        generalize hqe : qi.e = qe at *
        clear hqe
        go_wp2_with fail
        go_meet
        exact HF.out
    case rest =>
     try clear HDX
     have hkn : (rif k .C (t, q)).1.kind = k := (rif_kind _ _ _).trans HK.out
     generalize rif k .C (t, q) = xx at *
     obtain ⟨t, q⟩ := xx
     obtain ⟨u, hx, hnil⟩ := hcut
     obtain ⟨w14, hwk⟩ : ∃ w14, w14 = wc := ⟨_, rfl⟩
     subst hwk
     have HD0 := Lib.hid hx
     have HNIL := Lib.hid hnil
     have HK : Hid (t.kind = k) := Lib.hid hkn
     have y0 : w14.cell? ⟨W.heap.size, 0, none⟩ = some (.int .u8 k) := (HD0.out.gt.cell 0).trans (congrArg (fun z => some (Value.int .u8 z)) HK.out)
     clear hx hnil hkn
     clear y0
     obtain ⟨A, hA, hA2⟩ := HD0.out.gr
     have HB0 := Lib.hid HD0.out.gt
     have HBR := Lib.hid hA
     have HA2 := Lib.hid hA2
     obtain ⟨p1, g1, p2, g2, p3, g3, p4, g4, p5, g5, p6, g6, rfl⟩ := HD0.out.rows.vs
     clear hA hA2
     go_wp2_with (first
      | (refine wpl_load_blk HB0.out rfl _ _ rfl rfl Tryz.underlying34 rfl (by kernel_rfl) ?_)
      | (refine wpl_store_blk HBR.out rfl _ _ _ rfl rfl rfl (by kernel_rfl) HA2.out mc_one ?_; intro w5 hb5 ho5; have HBF := Lib.hid hb5; have HOF := Lib.hid ho5; clear hb5 ho5))
     exact ret_cell (T := 34) rfl rfl HBF.out Tryz.underlying34 rfl (by kernel_rfl) rfl (by rw [HEQ.out]; exact HFN.out (_, _) _ _ _ HD0.out HOF.out)
end Go.Proofs.YtghbjknpffiaiaaGreat
