import Derived.Test.YtlahficmkfgooaaGreatMgn
import Derived.Test.YtlahficmkfgooaaGreatMgg
import Derived.Deep.RegionLaw

/- The walk of the document's reader of programs: 'Decode'. No condition. -/
namespace Go.Proofs.YtlahficmkfgooaaGreat
open Go.RowKit Cd Wire
set_option linter.unusedVariables false
structure OutX (W : World) (Q b n : Nat) (rs : RS) (i : Nat) (l : List FunV) (r : RS) (v : Value) (wr : World) : Prop where
  len : l.length = i
  eq : rfunL n [] rs = rfunL (n - i) l r
  p0 : Blk wr W.heap.size 133 #[.slice none 0 0]
  pq : Blk wr Q 133 #[v]
  p : RR wr b r.s r.e
  row : FunsRow wr W.heap.size v l
  bel : Below W.heap.size W wr
def OutXRel (W : World) (Q b n : Nat) (rs : RS) (u : Value) (wr : World) : Prop := ∃ i l r v, i ≤ n ∧ u = .int .i64 (i : Nat) ∧ OutX W Q b n rs i l r v wr
structure InX (w0 : World) (F b m : Nat) (a1 a2 : Int) (r3 : RS) (j : Nat) (lo : List OpV) (r : RS) (vo : Value) (wq : World) : Prop where
  len : lo.length = j
  eq : rops m [] r3 = rops (m - j) lo r
  f : Blk wq F 168 #[.int .i64 a1, .int .i64 a2, vo]
  p : RR wq b r.s r.e
  row : wq.ownsRow w0.heap.size 170 5 vo j (rowsO lo)
  only : Only (· = b) w0 wq
def InXRel (w0 : World) (F b m : Nat) (a1 a2 : Int) (r3 : RS) (u : Value) (wq : World) : Prop := ∃ j lo r vo, j ≤ m ∧ u = .int .i64 (j : Nat) ∧ InX w0 F b m a1 a2 r3 j lo r vo wq
theorem rops_at {m j : Nat} {lo : List OpV} {r : RS} (h : j < m) (he : r.e = 0) : rops (m - j) lo r = rops (m - (j + 1)) (lo ++ [qoV r]) (qoS r) := by
  rw [show m - j = (m - (j + 1)) + 1 from by omega]
  show (if r.e = 0 then _ else _) = _
  rw [if_pos he]
theorem rops_out {m j : Nat} {lo : List OpV} {r : RS} (h : ¬ (j < m ∧ r.e = 0)) (hj : j ≤ m) : rops (m - j) lo r = (lo, r) := by
  by_cases he : r.e = 0
  · rw [show m - j = 0 from by have : ¬ j < m := fun hh => h ⟨hh, he⟩; omega]; rfl
  · exact rops_err _ _ _ he
theorem rfunL_at {m j : Nat} {lo : List FunV} {r : RS} (h : j < m) (he : r.e = 0) : rfunL (m - j) lo r = rfunL (m - (j + 1)) (lo ++ [(rfun1 r).1]) (rfun1 r).2 := by
  rw [show m - j = (m - (j + 1)) + 1 from by omega]
  show (if r.e = 0 then _ else _) = _
  rw [if_pos he]
theorem rfunL_out {m j : Nat} {lo : List FunV} {r : RS} (h : ¬ (j < m ∧ r.e = 0)) (hj : j ≤ m) : rfunL (m - j) lo r = (lo, r) := by
  by_cases he : r.e = 0
  · rw [show m - j = 0 from by have : ¬ j < m := fun hh => h ⟨hh, he⟩; omega]; rfl
  · exact rfunL_err _ _ _ he
def RDecPost (W : World) (s : ByteArray) (e : Ending) (w' : World) : Prop := ∃ v l c, e = .returned (.tuple #[.agg #[v], .int .i64 c]) ∧ l = (rdec s).1 ∧ c = (rdec s).2 ∧ FunsAt w' v l ∧ Below W.heap.size W w'
set_option maxRecDepth 100000 in
set_option maxHeartbeats 8000000 in
theorem rdecode_any (s : ByteArray) (W : World) : Calls Tryz.prog 95 #[.string s] W (RDecPost W s) := by
  have HP0 := Lib.hid (Blk.new W 133 #[.slice none 0 0])
  have HB0 := Lib.hid ((Below.refl _ W).alloc (Nat.le_refl _) (.cells #[.slice none 0 0] 133))
  have hD : rdec s = rdec s := rfl
  conv at hD => rhs; unfold rdec
  have HD := Lib.hid hD
  clear hD
  by_cases hbig : 16384 < s.size
  · have h1 := HD.out
    rw [if_pos hbig] at h1
    have H1 := Lib.hid h1
    clear h1 HD
    have hb' : (16384 : Int) < (s.size : Int) := by omega
    as_aux_lemma =>
    go_enter Tryz.func95, Tryz.ntmps95
    go_wp2
    try simp only [Exit.inBlock, Exit.then]
    exact ret_pair (cs := #[.slice none 0 0]) (T := 133) rfl rfl rfl HP0.out Tryz.underlying133 rfl (by kernel_rfl) rfl ⟨_, [], 4, rfl, by rw [H1.out], by rw [H1.out], funsAt_nil _, HB0.out⟩
  · have h1 := HD.out
    rw [if_neg hbig] at h1
    have hb' : (s.size : Int) ≤ 16384 := by omega
    have HUI := Lib.hid (fun (w : World) (b : Nat) (h : RR w b s 0) => ruint_st (r := ⟨s, 0⟩) h 18446744073709551615)
    have HR1 : Hid (RR ((W.alloc (.cells #[.slice none 0 0] 133)).alloc (.cells #[.string s, .int .i64 0] 87)) (W.heap.size + 1) s 0) := Lib.hid ⟨Blk.new2 _ _ _ _, by unfold maxLen; omega⟩
    have HP1 := Lib.hid (HP0.out.alloc (.cells #[.string s, .int .i64 0] 87))
    have HB1 := Lib.hid (HB0.out.alloc (by simp) (.cells #[.string s, .int .i64 0] 87))
    generalize uS 18446744073709551615 ⟨s, 0⟩ = r0 at *
    generalize uV 18446744073709551615 ⟨s, 0⟩ = v0 at *
    have H1 := Lib.hid h1
    clear h1 HD HP0 HB0
    go_enter Tryz.func95, Tryz.ntmps95
    go_upto_region 5 with (go_at_call 82; ((with_reducible refine (HUI.out _ _ HR1.out).mono ?_); rintro e w2 ⟨rfl, hP, hO⟩; have HR2 := Lib.hid hP; have HO2 := Lib.hid hO; clear hP hO))
    have HP2 := Lib.hid (HP1.out.only HO2.out (by omega))
    have HB2 := Lib.hid (HB1.out.trans (HO2.out.below HB1.out.size (fun k hk => by omega)))
    have c0 : w2.cell? ⟨W.heap.size, 0, none⟩ = some (.slice none 0 0) := HP2.out.cell 0
    have f0 : ∀ o, w2.frozen? ⟨W.heap.size, o, none⟩ = false := HP2.out.frozen
    have r1 := HR2.out.c1
    clear HUI HB1 HP1 HR1 HO2 hbig hb'
    have h1 := H1.out
    by_cases he : r0.e = 0
    · rw [if_neg (by simp [he])] at h1
      have he' : (r0.e == 0) = true := by simpa using he
      by_cases hv : v0 = 1
      · rw [if_neg (by simp [hv])] at h1
        subst hv
        have hn := cV_range (most := 16) (r := r0) (by omega)
        have HC := Lib.hid (fun w h => rcount_st (b := W.heap.size + 1) (w := w) (r := r0) h 16 (by unfold I64; omega))
        have hQ : W.heap.size + 1 < w2.heap.size := HR2.out.blk.lt
        have HP3 := Lib.hid (HP2.out.alloc (.cells #[.slice none 0 0] 133))
        have HQ3 := Lib.hid (Blk.new w2 133 #[.slice none 0 0])
        have HR3 := Lib.hid (HR2.out.alloc (.cells #[.slice none 0 0] 133))
        have HB3 := Lib.hid (HB2.out.alloc HB2.out.size (.cells #[.slice none 0 0] 133))
        generalize cV 16 r0 = n at *
        generalize cS 16 r0 = rs at *
        obtain ⟨N, rfl⟩ : ∃ N : Nat, n = N := ⟨n.toNat, by omega⟩
        rw [Int.toNat_natCast] at h1
        have H2 := Lib.hid h1
        clear h1 H1 c0 f0 HP2 HR2 HB2
        obtain ⟨Q, hq⟩ : ∃ Q, w2.heap.size = Q := ⟨_, rfl⟩
        go_wp2_with (go_at_call 43; ((with_reducible refine (HC.out _ HR3.out).mono ?_); rintro e w3 ⟨rfl, hP, hO⟩; have HR4 := Lib.hid hP; have HO3 := Lib.hid hO; clear hP hO))
        have hz0 : OutXRel W w2.heap.size (W.heap.size + 1) N rs (.int .i64 0) w3 := ⟨0, [], rs, .slice none 0 0, by omega, rfl, ⟨rfl, rfl, HP3.out.only HO3.out (by omega), HQ3.out.only HO3.out (by omega), HR4.out, FunsRow.nil _ _, HB3.out.trans (HO3.out.below HB3.out.size (fun k hk => by omega))⟩⟩
        clear HC HP3 HQ3 HR3 HB3 HR4 HO3 he he' r1
        rw [hq] at hz0 hQ
        generalize w2.heap.size = Q' at *
        subst hq
        go_loopw [8] (fun u wr => OutXRel W Q' (W.heap.size + 1) N rs u wr) (fun u _ => ((N : Int) - intOf u).toNat)
        case atStart => exact hz0
        case round =>
          obtain ⟨i, l, r, v, hi1, rfl, hO⟩ := hrel
          obtain ⟨wz, rfl⟩ : ∃ wz, wz = wr := ⟨_, rfl⟩
          clear hz0
          have HO := Lib.hid hO
          obtain ⟨pv, cv, rfl⟩ := hO.row.slice
          have HLL := Lib.hid hO.len
          have hbl := hO.p.blk.lt
          have hpl := hO.p0.lt
          have hql := hO.pq.lt
          have r1 := hO.p.c1
          clear hO
          by_cases hi : i < N ∧ r.e = 0
          · obtain ⟨hi, hre⟩ := hi
            have hre' : (r.e == 0) = true := by simpa using hre
            have hfl := rfunL_at (lo := l) hi hre
            have hr1 := uV_range (most := 16) (r := r) (by omega)
            have hr2 := uV_range (most := 16) (r := uS 16 r) (by omega)
            have hr3 := cV_range (most := 64) (r := uS 16 (uS 16 r)) (by omega)
            have HU1 := Lib.hid (fun w h => ruint_st (b := W.heap.size + 1) (r := r) (w := w) h 16)
            have HU2 := Lib.hid (fun w h => ruint_st (b := W.heap.size + 1) (r := uS 16 r) (w := w) h 16)
            have HC := Lib.hid (fun w h => rcount_st (b := W.heap.size + 1) (r := uS 16 (uS 16 r)) (w := w) h 64 (by unfold I64; omega))
            have hf : rfun1 r = (⟨uV 16 r, uV 16 (uS 16 r), (rops (cV 64 (uS 16 (uS 16 r))).toNat [] (cS 64 (uS 16 (uS 16 r)))).1⟩, (rops (cV 64 (uS 16 (uS 16 r))).toNat [] (cS 64 (uS 16 (uS 16 r)))).2) := rfl
            rw [hf] at hfl
            clear hf
            generalize uV 16 r = a1 at *
            generalize uS 16 r = r1 at *
            generalize uV 16 r1 = a2 at *
            generalize uS 16 r1 = r2 at *
            generalize cV 64 r2 = m at *
            generalize cS 64 r2 = r3 at *
            obtain ⟨M, rfl⟩ : ∃ M : Nat, m = M := ⟨m.toNat, by omega⟩
            rw [Int.toNat_natCast] at hfl
            have HF := Lib.hid hfl
            clear hfl
            have ew1 : IntKind.i64.wrap a1 = a1 := by rw [IntKind.wrap_i64]; omega
            have ew2 : IntKind.i64.wrap a2 = a2 := by rw [IntKind.wrap_i64]; omega
            have hbF : W.heap.size + 1 < wz.heap.size := hbl
            go_wp2_with (first | (go_at_call 82; (first | ((with_reducible refine (HU1.out _ HO.out.p).mono ?_); rintro e w4 ⟨rfl, hP, hO⟩; have HR4 := Lib.hid hP; have HO4 := Lib.hid hO; clear hP hO) | ((with_reducible refine (HU2.out _ (HR4.out.alloc _)).mono ?_); rintro e w5 ⟨rfl, hP, hO⟩; have hsz4 := HO4.out.size; have HR5 := Lib.hid hP; have HO5 := Lib.hid ((HO4.out.alloc (.cells #[.int .i64 a1, .int .i64 0, .slice none 0 0] 168)).trans hO); have HF5 := Lib.hid ((Blk.new w4 168 #[.int .i64 a1, .int .i64 0, .slice none 0 0]).only hO (by omega)); have g1 : w5.cell? ⟨w4.heap.size, 1, none⟩ = some (.int .i64 0) := HF5.out.cell 1; have gf : ∀ o, w5.frozen? ⟨w4.heap.size, o, none⟩ = false := HF5.out.frozen; clear hP hO))) | (go_at_call 43; ((with_reducible refine (HC.out _ ⟨HR5.out.blk.set_ne _ (by show W.heap.size + 1 ≠ w4.heap.size; omega), HR5.out.sz⟩).mono ?_); rintro e w6 ⟨rfl, hP, hO⟩; have HR6 := Lib.hid hP; have HO6 := Lib.hid ((HO5.out.setCell (p := ⟨w4.heap.size, 1, none⟩) (Or.inr hsz4) (.int .i64 a2)).trans hO); have HF6 := Lib.hid ((HF5.out.set 1 (.int .i64 a2)).only hO (by omega)); clear hP hO)))
            have hFr : wz.heap.size ≤ w4.heap.size := hsz4
            have hz1 : InXRel wz w4.heap.size (W.heap.size + 1) M a1 a2 r3 (.int .i64 0) w6 := ⟨0, [], r3, .slice none 0 0, by omega, rfl, ⟨rfl, rfl, HF6.out, HR6.out, ⟨rfl, .inl ⟨rfl, rfl⟩⟩, HO6.out⟩⟩
            clear HU1 HU2 HC ew1 ew2 HR4 HO4 HR5 HO5 HF5 HR6 HO6 HF6 hr1 hr2 g1 gf hsz4
            generalize w4.heap.size = F at *
            go_loopw [11] (fun u wq => InXRel wz F (W.heap.size + 1) M a1 a2 r3 u wq) (fun u _ => ((M : Int) - intOf u).toNat)
            case atStart => exact hz1
            case round =>
              obtain ⟨j, lo, q, vo, hj1, rfl, hI⟩ := hrel
              clear hz1
              have HI := Lib.hid hI
              obtain ⟨pj, cj, rfl⟩ := owns_slice hI.row
              have hbq := hI.p.blk.lt
              have hfq := hI.f.lt
              have q1 := hI.p.c1
              have d2 : wr.cell? ⟨F, 2, none⟩ = some (.slice pj j cj) := hI.f.cell 2
              clear hI
              by_cases hj : j < M ∧ q.e = 0
              · obtain ⟨hj, hqe⟩ := hj
                have hqe' : (q.e == 0) = true := by simpa using hqe
                have hki : (j : Int) < (M : Int) := by omega
                have HOP := Lib.hid (rops_at (lo := lo) hj hqe)
                have HRD := Lib.hid (readop_any HI.out.p.drew)
                clear hqe
                go_upto_block 3 with fail
                go_cut [] (fun wc => ∃ p5 c5, InX wz F (W.heap.size + 1) M a1 a2 r3 (j + 1) (lo ++ [qoV q]) (qoS q) (.slice p5 (j + 1) c5) wc)
                case first =>
                  clear q1 hqe' hki
                  go_upto_region 20 with fail
                  go_region_law (first | (refine step_call (by rfl) 111 #[.pointer (some ⟨W.heap.size + 1, 0, none⟩)] (by simp only [execOp]; go_simp) HRD.out (fun e w' h => by obtain ⟨ok, od, oa, ob, on, rfl, _⟩ := h; exact ⟨_, rfl⟩) ?_; intro v7 w7 h7; obtain ⟨ok, od, oa, ob, on, hv7, hov, hP, hO⟩ := h7; injection hv7 with hv7; subst hv7; have o7 := only_undrew hO; have HOV := Lib.hid hov; clear hov; have HO7 := Lib.hid (HI.out.only.trans o7); have HR7 := Lib.hid hP; have HF7 := Lib.hid (HI.out.f.only o7 (by omega)); have ROW7 := Lib.hid (owns_only HI.out.row o7 (owns_ne HI.out.row HI.out.p.blk (by decide))); have c2 : w7.cell? ⟨F, 2, none⟩ = some (.slice pj j cj) := HF7.out.cell 2; have c2n : ∀ o, (w7.alloc o).cell? ⟨F, 2, none⟩ = some (.slice pj j cj) := (fun o => (HF7.out.alloc o).cell 2); have hlt7 := HF7.out.lt; clear hP hO o7) | (refine step_append_row2 (ys := [.int .u8 ok, .int .i64 od, .int .i64 oa, .int .i64 ob, .int .i64 on]) (by rfl) (by rfl) (by rfl) (by rfl) Tryz.underlying166 info_op rfl rfl rfl (by decide) (by decide) ROW7.out (by omega) HO7.out.size (by first | rfl | simp) ?_; intro v5 w8 h5 o5; have HR8 := Lib.hid (HR7.out.only o5 (fun h => owns_ne ROW7.out HR7.out.blk (by decide) _ h rfl)); have HF8 := Lib.hid (HF7.out.only o5 (fun h => owns_ne ROW7.out HF7.out (by decide) _ h rfl)); have HO8 := Lib.hid (HO7.out.stepB (o5.below (B := wz.heap.size) HO7.out.size (fun k hk => (owns_type ROW7.out hk).choose_spec.2.1)) (Nat.le_refl _)); obtain ⟨p5, c5, rfl⟩ := owns_slice h5; have H5 := Lib.hid h5; have c3 : w8.cell? ⟨F, 2, none⟩ = some (.slice pj j cj) := HF8.out.cell 2; have f3 : ∀ o, w8.frozen? ⟨F, o, none⟩ = false := HF8.out.frozen; clear h5 o5))
                  all_goals (go_wp2_with fail; go_meet)
                  all_goals exact ⟨p5, c5, by simp [HI.out.len], HI.out.eq.trans HOP.out, HF8.out.set 2 _, ⟨HR8.out.blk.set_ne _ (by show W.heap.size + 1 ≠ F; omega), HR8.out.sz⟩,
                    by rw [rowsO_snoc, ← HOV.out]; exact owns_only H5.out ((Only.refl (· = F) w8).set1) (owns_ne H5.out HF8.out (by decide)), HO8.out.setCell (Or.inr hFr) _⟩
                case rest =>
                  obtain ⟨p5, c5, hN⟩ := hcut
                  have HN := Lib.hid hN
                  clear hN
                  go_wp2_with fail
                  go_roundw
                  case rel => exact ⟨j + 1, _, _, _, by omega, rfl, HN.out⟩
                  case measure => simp [intOf]; omega
              · have hops := HI.out.eq
                rw [rops_out hj hj1] at hops
                have hfl := HF.out
                rw [hops] at hfl
                have HFL := Lib.hid hfl
                have hop0 : wr.ownsRow W.heap.size 170 5 (.slice pj j cj) (FunV.mk a1 a2 lo).ops.length (rowsO (FunV.mk a1 a2 lo).ops) := by
                  show wr.ownsRow W.heap.size 170 5 (.slice pj j cj) lo.length (rowsO lo)
                  rw [HI.out.len]; exact owns_ge HI.out.row HO.out.bel.size
                have HOP := Lib.hid hop0
                have HP0q := Lib.hid (HO.out.p0.only HI.out.only (by omega))
                have HPq := Lib.hid (HO.out.pq.only HI.out.only (by omega))
                have hrow := HO.out.row.other HI.out.only HO.out.p.blk (by decide) (by decide)
                obtain ⟨vs, hv1, hv2, hv3⟩ := hrow
                have HV1 := Lib.hid hv1
                have HV2 := Lib.hid hv2
                have HV3 := Lib.hid hv3
                have HBq := Lib.hid (HO.out.bel.trans (HI.out.only.below HO.out.bel.size (fun k hk => by omega)))
                have c0 : wr.cell? ⟨Q', 0, none⟩ = some (.slice pv l.length cv) := HPq.out.cell 0
                have d0 : wr.cell? ⟨F, 0, none⟩ = some (.int .i64 a1) := HI.out.f.cell 0
                have d1 : wr.cell? ⟨F, 1, none⟩ = some (.int .i64 a2) := HI.out.f.cell 1
                clear hops hfl hop0 hv1 hv2 hv3 HF
                by_cases hj2 : j < M
                · have hki : (j : Int) < (M : Int) := by omega
                  have hqe' : (q.e == 0) = false := by
                    have : q.e ≠ 0 := fun h => hj ⟨hj2, h⟩
                    simpa using this
                  clear hj
                  as_aux_lemma =>
                  go_wp2_with (at_builtin; refine wpl_append_row2 rfl rfl rfl rfl Tryz.underlying131 info_fun rfl rfl rfl (by decide) (by decide) HV2.out (by have := HLL.out; omega) HBq.out.size (by first | rfl | simp) ?_; intro v9 w9 h9 o9; have HR9 := Lib.hid (HI.out.p.only o9 (fun h => owns_ne HV2.out HI.out.p.blk (by decide) _ h rfl)); have HP9 := Lib.hid (HPq.out.only o9 (fun h => owns_ne HV2.out HPq.out (by decide) _ h rfl)); have HP8 := Lib.hid (HP0q.out.only o9 (fun h => owns_ne HV2.out HP0q.out (by decide) _ h rfl)); have HB9 := Lib.hid (HBq.out.trans (o9.below (B := W.heap.size) HBq.out.size (fun k hk => (owns_type HV2.out hk).choose_spec.2.1))); obtain ⟨p9, c9, rfl⟩ := owns_slice h9; have HROW := Lib.hid (FunsRow.snoc HV1.out HV2.out HV3.out HOP.out h9 o9); have c9' : w9.cell? ⟨Q', 0, none⟩ = some (.slice pv l.length cv) := HP9.out.cell 0; have f9 : ∀ o, w9.frozen? ⟨Q', o, none⟩ = false := HP9.out.frozen; clear h9 o9 c0 d0 d1 d2)
                  go_roundw
                  case rel => exact ⟨i + 1, l ++ [⟨a1, a2, lo⟩], q, .slice p9 (l.length + 1) c9, by omega, rfl, ⟨by simp [HLL.out], HO.out.eq.trans HFL.out, HP8.out.set_ne _ (by show W.heap.size ≠ Q'; omega), HP9.out.set 0 _, ⟨HR9.out.blk.set_ne _ (by show W.heap.size + 1 ≠ Q'; omega), HR9.out.sz⟩,
                    HROW.out.other ((Only.refl (· = Q') w9).set1) HP9.out (by decide) (by decide), HB9.out.setCell (by show W.heap.size ≤ Q'; omega) _⟩⟩
                  case measure => simp [intOf]; omega
                · have hki : (M : Int) ≤ (j : Int) := by omega
                  clear hj
                  as_aux_lemma =>
                  go_wp2_with (at_builtin; refine wpl_append_row2 rfl rfl rfl rfl Tryz.underlying131 info_fun rfl rfl rfl (by decide) (by decide) HV2.out (by have := HLL.out; omega) HBq.out.size (by first | rfl | simp) ?_; intro v9 w9 h9 o9; have HR9 := Lib.hid (HI.out.p.only o9 (fun h => owns_ne HV2.out HI.out.p.blk (by decide) _ h rfl)); have HP9 := Lib.hid (HPq.out.only o9 (fun h => owns_ne HV2.out HPq.out (by decide) _ h rfl)); have HP8 := Lib.hid (HP0q.out.only o9 (fun h => owns_ne HV2.out HP0q.out (by decide) _ h rfl)); have HB9 := Lib.hid (HBq.out.trans (o9.below (B := W.heap.size) HBq.out.size (fun k hk => (owns_type HV2.out hk).choose_spec.2.1))); obtain ⟨p9, c9, rfl⟩ := owns_slice h9; have HROW := Lib.hid (FunsRow.snoc HV1.out HV2.out HV3.out HOP.out h9 o9); have c9' : w9.cell? ⟨Q', 0, none⟩ = some (.slice pv l.length cv) := HP9.out.cell 0; have f9 : ∀ o, w9.frozen? ⟨Q', o, none⟩ = false := HP9.out.frozen; clear h9 o9 c0 d0 d1 d2)
                  go_roundw
                  case rel => exact ⟨i + 1, l ++ [⟨a1, a2, lo⟩], q, .slice p9 (l.length + 1) c9, by omega, rfl, ⟨by simp [HLL.out], HO.out.eq.trans HFL.out, HP8.out.set_ne _ (by show W.heap.size ≠ Q'; omega), HP9.out.set 0 _, ⟨HR9.out.blk.set_ne _ (by show W.heap.size + 1 ≠ Q'; omega), HR9.out.sz⟩,
                    HROW.out.other ((Only.refl (· = Q') w9).set1) HP9.out (by decide) (by decide), HB9.out.setCell (by show W.heap.size ≤ Q'; omega) _⟩⟩
                  case measure => simp [intOf]; omega
          · have heq := HO.out.eq
            rw [rfunL_out hi hi1] at heq
            have h2 := H2.out
            rw [heq] at h2
            have HDE := Lib.hid h2
            have HEN := Lib.hid (rend_any HO.out.p)
            clear h2 heq H2
            simp only at HDE
            generalize endE r.s r.e = ee at *
            by_cases hi2 : i < N
            · have hki : (i : Int) < (N : Int) := by omega
              have hre' : (r.e == 0) = false := by
                have : r.e ≠ 0 := fun h => hi ⟨hi2, h⟩
                simpa using this
              clear hi
              by_cases hee : ee = 0
              · have h1 := HDE.out
                rw [if_neg (by simp [hee])] at h1
                have H1 := Lib.hid h1
                have he' : (ee == 0) = true := by simpa using hee
                clear h1 HDE hee
                as_aux_lemma =>
                go_wp2_with (go_at_call 45; ((with_reducible refine HEN.out.mono ?_); rintro e w4 ⟨rfl, hP, hO⟩; have HP0 := Lib.hid (HO.out.p0.only hO (by omega)); have HPQ := Lib.hid (HO.out.pq.only hO (by omega)); have HROW := Lib.hid (HO.out.row.other hO HO.out.p.blk (by decide) (by decide)); have HB4 := Lib.hid (HO.out.bel.trans (hO.below HO.out.bel.size (fun k hk => by omega))); have c0 : w4.cell? ⟨W.heap.size, 0, none⟩ = some (.slice none 0 0) := HP0.out.cell 0; have f0 : ∀ o, w4.frozen? ⟨W.heap.size, o, none⟩ = false := HP0.out.frozen; have cq : w4.cell? ⟨Q', 0, none⟩ = some (.slice pv l.length cv) := HPQ.out.cell 0; clear hP hO))
                try simp only [Exit.inBlock, Exit.then]
                exact ret_pair (cs := #[.slice pv l.length cv]) (T := 133) rfl rfl rfl (HP0.out.set 0 _) Tryz.underlying133 rfl (by kernel_rfl) rfl ⟨_, l, 0, rfl, by rw [H1.out], by rw [H1.out], (HROW.out.other ((Only.refl (· = W.heap.size) w4).set1) HP0.out (by decide) (by decide)).at, HB4.out.setCell (Nat.le_refl _) _⟩
              · have h1 := HDE.out
                rw [if_pos hee] at h1
                have H1 := Lib.hid h1
                have he' : (ee == 0) = false := by simpa using hee
                clear h1 HDE hee
                as_aux_lemma =>
                go_wp2_with (go_at_call 45; ((with_reducible refine HEN.out.mono ?_); rintro e w4 ⟨rfl, hP, hO⟩; have HP0 := Lib.hid (HO.out.p0.only hO (by omega)); have HB4 := Lib.hid (HO.out.bel.trans (hO.below HO.out.bel.size (fun k hk => by omega))); have c0 : w4.cell? ⟨W.heap.size, 0, none⟩ = some (.slice none 0 0) := HP0.out.cell 0; have f0 : ∀ o, w4.frozen? ⟨W.heap.size, o, none⟩ = false := HP0.out.frozen; clear hP hO))
                try simp only [Exit.inBlock, Exit.then]
                exact ret_pair (cs := #[.slice none 0 0]) (T := 133) rfl rfl rfl (HP0.out.set 0 _) Tryz.underlying133 rfl (by kernel_rfl) rfl ⟨_, [], 8, rfl, by rw [H1.out], by rw [H1.out], funsAt_nil _, HB4.out.setCell (Nat.le_refl _) _⟩
            · have hki : (N : Int) ≤ (i : Int) := by omega
              clear hi
              by_cases hee : ee = 0
              · have h1 := HDE.out
                rw [if_neg (by simp [hee])] at h1
                have H1 := Lib.hid h1
                have he' : (ee == 0) = true := by simpa using hee
                clear h1 HDE hee
                as_aux_lemma =>
                go_wp2_with (go_at_call 45; ((with_reducible refine HEN.out.mono ?_); rintro e w4 ⟨rfl, hP, hO⟩; have HP0 := Lib.hid (HO.out.p0.only hO (by omega)); have HPQ := Lib.hid (HO.out.pq.only hO (by omega)); have HROW := Lib.hid (HO.out.row.other hO HO.out.p.blk (by decide) (by decide)); have HB4 := Lib.hid (HO.out.bel.trans (hO.below HO.out.bel.size (fun k hk => by omega))); have c0 : w4.cell? ⟨W.heap.size, 0, none⟩ = some (.slice none 0 0) := HP0.out.cell 0; have f0 : ∀ o, w4.frozen? ⟨W.heap.size, o, none⟩ = false := HP0.out.frozen; have cq : w4.cell? ⟨Q', 0, none⟩ = some (.slice pv l.length cv) := HPQ.out.cell 0; clear hP hO))
                try simp only [Exit.inBlock, Exit.then]
                exact ret_pair (cs := #[.slice pv l.length cv]) (T := 133) rfl rfl rfl (HP0.out.set 0 _) Tryz.underlying133 rfl (by kernel_rfl) rfl ⟨_, l, 0, rfl, by rw [H1.out], by rw [H1.out], (HROW.out.other ((Only.refl (· = W.heap.size) w4).set1) HP0.out (by decide) (by decide)).at, HB4.out.setCell (Nat.le_refl _) _⟩
              · have h1 := HDE.out
                rw [if_pos hee] at h1
                have H1 := Lib.hid h1
                have he' : (ee == 0) = false := by simpa using hee
                clear h1 HDE hee
                as_aux_lemma =>
                go_wp2_with (go_at_call 45; ((with_reducible refine HEN.out.mono ?_); rintro e w4 ⟨rfl, hP, hO⟩; have HP0 := Lib.hid (HO.out.p0.only hO (by omega)); have HB4 := Lib.hid (HO.out.bel.trans (hO.below HO.out.bel.size (fun k hk => by omega))); have c0 : w4.cell? ⟨W.heap.size, 0, none⟩ = some (.slice none 0 0) := HP0.out.cell 0; have f0 : ∀ o, w4.frozen? ⟨W.heap.size, o, none⟩ = false := HP0.out.frozen; clear hP hO))
                try simp only [Exit.inBlock, Exit.then]
                exact ret_pair (cs := #[.slice none 0 0]) (T := 133) rfl rfl rfl (HP0.out.set 0 _) Tryz.underlying133 rfl (by kernel_rfl) rfl ⟨_, [], 8, rfl, by rw [H1.out], by rw [H1.out], funsAt_nil _, HB4.out.setCell (Nat.le_refl _) _⟩
      · rw [if_pos hv] at h1
        have H2 := Lib.hid h1
        clear h1 H1
        have hv' : (v0 == 1) = false := by simpa using hv
        as_aux_lemma =>
        go_wp2_with fail
        try simp only [Exit.inBlock, Exit.then]
        exact ret_pair (cs := #[.slice none 0 0]) (T := 133) rfl rfl rfl (HP2.out.set 0 _) Tryz.underlying133 rfl (by kernel_rfl) rfl ⟨_, [], 100, rfl, by rw [H2.out], by rw [H2.out], funsAt_nil _, HB2.out.setCell (Nat.le_refl _) _⟩
    · rw [if_pos he] at h1
      have H2 := Lib.hid h1
      clear h1 H1
      have he' : (r0.e == 0) = false := by simpa using he
      as_aux_lemma =>
      go_wp2_with fail
      try simp only [Exit.inBlock, Exit.then]
      exact ret_pair (cs := #[.slice none 0 0]) (T := 133) rfl rfl rfl (HP2.out.set 0 _) Tryz.underlying133 rfl (by kernel_rfl) rfl ⟨_, [], 8, rfl, by rw [H2.out], by rw [H2.out], funsAt_nil _, HB2.out.setCell (Nat.le_refl _) _⟩
end Go.Proofs.YtlahficmkfgooaaGreat
