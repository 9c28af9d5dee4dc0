import Derived.Test.YtlahficmkfgooaaGreatCodeX
import Derived.Test.YtlahficmkfgooaaGreatMgg

/- The walk of the program's reader of programs: 'Decode'. No condition. -/
namespace Go.Proofs.YtlahficmkfgooaaGreat
open Go.RowKit Cd Wire
set_option linter.unusedVariables false
namespace Cd
def opsL : Nat → List OpV → RS → Option (List OpV × RS)
  | 0, l, r => some (l, r)
  | n + 1, l, r => if roB r = true then opsL n (l ++ [roV r]) (roS r) else none
def fun1 (r : RS) : Option (FunV × RS) := match opsL (cV 64 (uS 16 (uS 16 r))).toNat [] (cS 64 (uS 16 (uS 16 r))) with
  | none => none
  | some (ops, r4) => some (⟨uV 16 r, uV 16 (uS 16 r), ops⟩, r4)
def funL : Nat → List FunV → RS → Option (List FunV × RS)
  | 0, l, r => some (l, r)
  | n + 1, l, r => match fun1 r with
    | none => none
    | some (f, r4) => funL n (l ++ [f]) r4
def dec (s : ByteArray) : List FunV × Int :=
  if 16384 < s.size then ([], 4) else
  if (uS 18446744073709551615 ⟨s, 0⟩).e ≠ 0 then ([], 8) else
  if uV 18446744073709551615 ⟨s, 0⟩ ≠ 1 then ([], 100) else
  match funL (cV 16 (uS 18446744073709551615 ⟨s, 0⟩)).toNat [] (cS 16 (uS 18446744073709551615 ⟨s, 0⟩)) with
  | none => ([], 8)
  | some (fs, r) => if endE r.s r.e ≠ 0 then ([], 8) else (fs, 0)
end Cd
theorem FunsRow.slice {w : World} {B : Nat} {v : Value} {l : List FunV} (h : FunsRow w B v l) : ∃ p cap, v = .slice p l.length cap := by
  obtain ⟨vs, _, h, _⟩ := h; exact owns_slice h
structure OutW (W : World) (P0 b n : Nat) (rs : RS) (i : Nat) (l : List FunV) (r : RS) (v : Value) (wr : World) : Prop where
  len : l.length = i
  eq : funL n [] rs = funL (n - i) l r
  p0 : Blk wr P0 133 #[v]
  p : PR wr b r.s r.e
  row : FunsRow wr W.heap.size v l
  bel : Below W.heap.size W wr
def OutRel (W : World) (P0 b n : Nat) (rs : RS) (u : Value) (wr : World) : Prop := ∃ i l r v, i ≤ n ∧ u = .int .i64 (i : Nat) ∧ OutW W P0 b n rs i l r v wr
structure InW (w0 : World) (F b m : Nat) (a1 a2 : Int) (r3 : RS) (j : Nat) (lo : List OpV) (r : RS) (vo : Value) (wq : World) : Prop where
  len : lo.length = j
  eq : opsL m [] r3 = opsL (m - j) lo r
  f : Blk wq F 168 #[.int .i64 a1, .int .i64 a2, vo]
  p : PR wq b r.s r.e
  row : wq.ownsRow w0.heap.size 170 5 vo j (rowsO lo)
  only : Only (· = b) w0 wq
def InRel (w0 : World) (F b m : Nat) (a1 a2 : Int) (r3 : RS) (u : Value) (wq : World) : Prop := ∃ j lo r vo, j ≤ m ∧ u = .int .i64 (j : Nat) ∧ InW w0 F b m a1 a2 r3 j lo r vo wq
def DecPost (W : World) (s : ByteArray) (e : Ending) (w' : World) : Prop := ∃ v l c, e = .returned (.tuple #[.agg #[v], .int .i64 c]) ∧ l = (dec s).1 ∧ c = (dec s).2 ∧ FunsAt w' v l ∧ Below W.heap.size W w'
def RdPost2 (w : World) (b : Nat) (r : RS) (e : Ending) (w' : World) : Prop := ∃ ok od oa ob on is, e = .returned (.tuple #[.agg #[.int .u8 ok, .int .i64 od, .int .i64 oa, .int .i64 ob, .int .i64 on], .bool is]) ∧ OpV.mk ok od oa ob on = roV r ∧ is = roB r ∧ PR w' b (roS r).s (roS r).e ∧ Only (· = b) w w'
theorem read_any2 {b : Nat} {r : RS} {w : World} (h : PR w b r.s r.e) : Calls Tryz.prog 105 #[.pointer (some ⟨b, 0, none⟩)] w (RdPost2 w b r) :=
  (read_any h).mono fun e w' ⟨⟨ok, od, oa, ob, on⟩, is, h1, h2⟩ => ⟨ok, od, oa, ob, on, is, h1, h2⟩
theorem funsAt_nil (w : World) : FunsAt w (.slice none 0 0) [] := ⟨none, 0, rfl, fun h => by simp at h⟩
set_option maxRecDepth 100000 in
set_option maxHeartbeats 8000000 in
theorem decode_any (s : ByteArray) (W : World) : Calls Tryz.prog 86 #[.string s] W (DecPost W s) := by
  have HP0 := Lib.hid (Blk.new W 133 #[.slice none 0 0])
  have HB0 := Lib.hid ((Below.refl _ W).alloc (Nat.le_refl _) (.cells #[.slice none 0 0] 133))
  have hD : dec s = dec s := rfl
  conv at hD => rhs; unfold dec
  have HD := Lib.hid hD
  clear hD
  by_cases hbig : 16384 < s.size
  · have h1 := HD.out
    rw [if_pos hbig] at h1
    have H1 := Lib.hid h1
    clear h1 HD
    have hb' : (16384 : Int) < (s.size : Int) := by omega
    go_enter Tryz.func86, Tryz.ntmps86
    go_wp2
    try simp only [Exit.inBlock, Exit.then]
    exact ret_pair (cs := #[.slice none 0 0]) (T := 133) rfl rfl rfl HP0.out Tryz.underlying133 rfl (by kernel_rfl) rfl ⟨_, [], 4, rfl, by rw [H1.out], by rw [H1.out], funsAt_nil _, HB0.out⟩
  · have h1 := HD.out
    rw [if_neg hbig] at h1
    have hb' : (s.size : Int) ≤ 16384 := by omega
    have HNW := Lib.hid (fun w => wnew_any s (by unfold maxLen; omega) w)
    have HUI := Lib.hid (fun (w : World) (b : Nat) (h : PR w b s 0) => uint_st (r := ⟨s, 0⟩) h 18446744073709551615)
    generalize uS 18446744073709551615 ⟨s, 0⟩ = r0 at *
    generalize uV 18446744073709551615 ⟨s, 0⟩ = v0 at *
    have H1 := Lib.hid h1
    clear h1 HD
    go_enter Tryz.func86, Tryz.ntmps86
    go_upto_region 5 with (first | (go_at_call 37; ((with_reducible refine (HNW.out _).mono ?_); rintro e w1 ⟨rfl, hP, hb1⟩; have HB1 := Lib.hid (HB0.out.step hb1); have HP1 := Lib.hid (HP0.out.below hb1); have HR1 := Lib.hid hP; clear hP hb1)) | (go_at_call 39; ((with_reducible refine (HUI.out _ _ (by simpa using HR1.out)).mono ?_); rintro e w2 ⟨rfl, hP, hO⟩; have HR2 := Lib.hid hP; have HO2 := Lib.hid hO; clear hP hO)))
    have HP2 := Lib.hid (HP1.out.only HO2.out (by omega))
    have HB2 := Lib.hid (HB1.out.trans (HO2.out.below HB1.out.size (fun k hk => by omega)))
    have c0 : w2.cell? ⟨W.heap.size, 0, none⟩ = some (.slice none 0 0) := HP2.out.cell 0
    have f0 : ∀ o, w2.frozen? ⟨W.heap.size, o, none⟩ = false := HP2.out.frozen
    clear HP0 HB0 HNW HUI HB1 HP1 HR1 HO2 hbig hb'
    clear w1
    generalize hP0 : W.heap.size = P0 at *
    have h1 := H1.out
    by_cases he : r0.e = 0
    · rw [if_neg (by simp [he])] at h1
      have he' : (r0.e == 0) = true := by simpa using he
      by_cases hv : v0 = 1
      · rw [if_neg (by simp [hv])] at h1
        subst hv
        have hn := cV_range (most := 16) (r := r0) (by omega)
        have HC := Lib.hid (count_st (r := r0) HR2.out 16 (by unfold I64; omega))
        generalize cV 16 r0 = n at *
        generalize cS 16 r0 = rs at *
        obtain ⟨N, rfl⟩ : ∃ N : Nat, n = N := ⟨n.toNat, by omega⟩
        rw [Int.toNat_natCast] at h1
        have H2 := Lib.hid h1
        have HPo := Lib.hid hP0
        clear h1 H1 c0 f0
        go_wp2_with (first | (go_at_call 104; ((with_reducible refine (perr_any HR2.out).mono ?_); rintro e w' ⟨rfl, rfl⟩)) | (go_at_call 38; ((with_reducible refine HC.out.mono ?_); rintro e w3 ⟨rfl, hP, hO⟩; have HR3 := Lib.hid hP; have HO3 := Lib.hid hO; clear hP hO)))
        have hz0 : OutRel W P0 (P0 + 1) N rs (.int .i64 0) w3 := ⟨0, [], rs, .slice none 0 0, by omega, rfl, ⟨rfl, rfl, HP2.out.only HO3.out (by omega), HR3.out, FunsRow.nil _ _, by rw [hP0]; exact HB2.out.trans (HO3.out.below (by have := HB2.out.size; omega) (fun k hk => by omega))⟩⟩
        clear HC HR2 HP2 HB2 HR3 HO3 he he' hP0
        go_loopw [28] (fun u wr => OutRel W P0 (P0 + 1) N rs u wr) (fun u _ => ((N : Int) - intOf u).toNat)
        case atStart => exact hz0
        case round =>
          obtain ⟨i, l, r, v, hi1, rfl, hO⟩ := hrel
          obtain ⟨wz, rfl⟩ : ∃ wz, wz = wr := ⟨_, rfl⟩
          clear hz0
          have HO := Lib.hid hO
          obtain ⟨pv, cv, rfl⟩ := hO.row.slice
          have HLL := Lib.hid hO.len
          have hbl := hO.p.blk.lt
          have hpl := hO.p0.lt
          clear hO
          by_cases hi : i < N
          · have hr1 := uV_range (most := 16) (r := r) (by omega)
            have hr2 := uV_range (most := 16) (r := uS 16 r) (by omega)
            have hr3 := cV_range (most := 64) (r := uS 16 (uS 16 r)) (by omega)
            have HU1 := Lib.hid (fun w h => uint_st (b := P0 + 1) (r := r) (w := w) h 16)
            have HU2 := Lib.hid (fun w h => uint_st (b := P0 + 1) (r := uS 16 r) (w := w) h 16)
            have HC := Lib.hid (fun w h => count_st (b := P0 + 1) (r := uS 16 (uS 16 r)) (w := w) h 64 (by unfold I64; omega))
            have hf : fun1 r = match opsL (cV 64 (uS 16 (uS 16 r))).toNat [] (cS 64 (uS 16 (uS 16 r))) with | none => none | some (ops, r4) => some (⟨uV 16 r, uV 16 (uS 16 r), ops⟩, r4) := rfl
            generalize uV 16 r = a1 at *
            generalize uS 16 r = r1 at *
            generalize uV 16 r1 = a2 at *
            generalize uS 16 r1 = r2 at *
            generalize cV 64 r2 = m at *
            generalize cS 64 r2 = r3 at *
            obtain ⟨M, rfl⟩ : ∃ M : Nat, m = M := ⟨m.toNat, by omega⟩
            rw [Int.toNat_natCast] at hf
            have HF := Lib.hid hf
            clear hf
            have ew1 : IntKind.i64.wrap a1 = a1 := by rw [IntKind.wrap_i64]; omega
            have ew2 : IntKind.i64.wrap a2 = a2 := by rw [IntKind.wrap_i64]; omega
            go_wp2_with (first | (go_at_call 39; (first | ((with_reducible refine (HU1.out _ HO.out.p).mono ?_); rintro e w4 ⟨rfl, hP, hO⟩; have HR4 := Lib.hid hP; have HO4 := Lib.hid hO; clear hP hO) | ((with_reducible refine (HU2.out _ HR4.out).mono ?_); rintro e w5 ⟨rfl, hP, hO⟩; have HR5 := Lib.hid hP; have HO5 := Lib.hid (HO4.out.trans hO); clear hP hO))) | (go_at_call 38; ((with_reducible refine (HC.out _ (HR5.out.alloc _)).mono ?_); rintro e w6 ⟨rfl, hP, hO⟩; have HR6 := Lib.hid hP; have HO6 := Lib.hid ((HO5.out.alloc (.cells #[.int .i64 a1, .int .i64 a2, .slice none 0 0] 168)).trans hO); have HF6 := Lib.hid ((Blk.new w5 168 #[.int .i64 a1, .int .i64 a2, .slice none 0 0]).only hO (by have := HR5.out.blk.lt; omega)); clear hP hO)))
            have hFr : wz.heap.size ≤ w5.heap.size := HO5.out.size
            have hz1 : InRel wz w5.heap.size (P0 + 1) M a1 a2 r3 (.int .i64 0) w6 := ⟨0, [], r3, .slice none 0 0, by omega, rfl, ⟨rfl, rfl, HF6.out, HR6.out, ⟨rfl, .inl ⟨rfl, rfl⟩⟩, HO6.out⟩⟩
            clear HU1 HU2 HC ew1 ew2 HR4 HO4 HR5 HO5 HR6 HO6 HF6 hr1 hr2
            generalize w5.heap.size = F at *
            go_loopw [39] (fun u wq => InRel wz F (P0 + 1) M a1 a2 r3 u wq) (fun u _ => ((M : Int) - intOf u).toNat)
            case atStart => exact hz1
            case round =>
              obtain ⟨j, lo, q, vo, hj1, rfl, hI⟩ := hrel
              clear hz1
              have HI := Lib.hid hI
              obtain ⟨pj, cj, rfl⟩ := owns_slice hI.row
              have hbq := hI.p.blk.lt
              have hfq := hI.f.lt
              clear hI
              by_cases hj : j < M
              · have HRD := Lib.hid (read_any2 HI.out.p)
                have hop : opsL (M - j) lo q = if roB q = true then opsL (M - (j + 1)) (lo ++ [roV q]) (roS q) else none := by
                  rw [show M - j = (M - (j + 1)) + 1 from by omega]; rfl
                cases hB : roB q with
                | false =>
                  rw [hB, if_neg (by decide)] at hop
                  have hdec : dec s = ([], 8) := by
                    rw [H2.out, HO.out.eq]
                    rw [show N - i = (N - (i + 1)) + 1 from by omega]
                    unfold funL
                    rw [HF.out, HI.out.eq, hop]
                  have HDE := Lib.hid hdec
                  clear hdec hop
                  go_wp2_with (go_at_call 105; ((with_reducible refine HRD.out.mono ?_); rintro e w7 ⟨ok, od, oa, ob, on, is, rfl, hov, his, hP, hO⟩; rw [hB] at his; subst his; clear hov; have HO7 := Lib.hid (HI.out.only.trans hO); have HP7 := Lib.hid (HO.out.p0.only HO7.out (by omega)); have c0 : w7.cell? ⟨P0, 0, none⟩ = some (.slice pv l.length cv) := HP7.out.cell 0; have f0 : ∀ o, w7.frozen? ⟨P0, o, none⟩ = false := HP7.out.frozen; have hlt7 := HP7.out.lt; clear hP hO))
                  try simp only [Exit.inBlock, Exit.then]
                  exact ret_pair (cs := #[.slice none 0 0]) (T := 133) rfl rfl rfl ((HP7.out.set 0 _).alloc _) Tryz.underlying133 rfl (by kernel_rfl) rfl ⟨_, [], 8, rfl, by rw [HDE.out], by rw [HDE.out], funsAt_nil _, ((HO.out.bel.trans (HO7.out.below HO.out.bel.size (fun k hk => by have := HPo.out; omega))).setCell (by have := HPo.out; simp; omega) _).alloc (by have := HO.out.bel.size; have := HO7.out.size; simp [World.setCell]; omega) _⟩
                | true =>
                  rw [hB, if_pos rfl] at hop
                  have HOP := Lib.hid hop
                  clear hop
                  go_wp2_with (first | (go_at_call 105; ((with_reducible refine HRD.out.mono ?_); rintro e w7 ⟨ok, od, oa, ob, on, is, rfl, hov, his, hP, hO⟩; rw [hB] at his; subst his; have HOV := Lib.hid hov; clear hov; have HO7 := Lib.hid (HI.out.only.trans hO); have HR7 := Lib.hid hP; have HF7 := Lib.hid (HI.out.f.only hO (by omega)); have ROW7 := Lib.hid (owns_only HI.out.row hO (owns_ne HI.out.row HI.out.p.blk (by decide))); have c2 : w7.cell? ⟨F, 2, none⟩ = some (.slice pj j cj) := HF7.out.cell 2; have hlt7 := HF7.out.lt; clear hP hO)) | (at_builtin; refine wpl_append_row2 rfl rfl rfl rfl Tryz.underlying166 info_op rfl rfl rfl (by decide) (by decide) (owns_below ROW7.out ((Below.refl _ _).alloc (Nat.le_refl _) _)) (by omega) (by have := HO7.out.size; simp; omega) (by first | rfl | simp) ?_; intro v5 w8 h5 o5; have HR8 := Lib.hid ((HR7.out.alloc (.cells #[.int .u8 ok, .int .i64 od, .int .i64 oa, .int .i64 ob, .int .i64 on] 170)).only o5 (fun h => owns_ne ROW7.out HR7.out.blk (by decide) _ h rfl)); have HF8 := Lib.hid ((HF7.out.alloc (.cells #[.int .u8 ok, .int .i64 od, .int .i64 oa, .int .i64 ob, .int .i64 on] 170)).only o5 (fun h => owns_ne ROW7.out HF7.out (by decide) _ h rfl)); have HO8 := Lib.hid ((HO7.out.alloc (.cells #[.int .u8 ok, .int .i64 od, .int .i64 oa, .int .i64 ob, .int .i64 on] 170)).stepB (o5.below (B := wz.heap.size) (by have := HO7.out.size; simp; omega) (fun k hk => (owns_type ROW7.out hk).choose_spec.2.1)) (Nat.le_refl _)); obtain ⟨p5, c5, rfl⟩ := owns_slice h5; have H5 := Lib.hid h5; have c3 : w8.cell? ⟨F, 2, none⟩ = some (.slice pj j cj) := HF8.out.cell 2; have f3 : ∀ o, w8.frozen? ⟨F, o, none⟩ = false := HF8.out.frozen; clear h5 o5 c2 hlt7))
                  go_roundw
                  case rel => exact ⟨j + 1, lo ++ [roV q], roS q, .slice p5 (j + 1) c5, by omega, rfl, ⟨by simp [HI.out.len], HI.out.eq.trans HOP.out, HF8.out.set 2 _, ⟨HR8.out.blk.set_ne _ (by simp; omega), HR8.out.sz⟩,
                    by rw [rowsO_snoc, ← HOV.out]; exact owns_only H5.out ((Only.refl (· = F) w8).set1) (owns_ne H5.out HF8.out (by decide)), HO8.out.setCell (Or.inr hFr) _⟩⟩
                  case measure => simp [intOf]; omega
              · have : j = M := by omega
                subst this
                have hfun : funL (N - i) l r = funL (N - (i + 1)) (l ++ [⟨a1, a2, lo⟩]) q := by
                  rw [show N - i = (N - (i + 1)) + 1 from by omega]
                  show (match fun1 r with | none => none | some (f, r4) => funL (N - (i + 1)) (l ++ [f]) r4) = _
                  rw [HF.out, HI.out.eq, Nat.sub_self]
                  rfl
                have HFUN := Lib.hid hfun
                have hop0 : wr.ownsRow W.heap.size 170 5 (.slice pj j cj) (FunV.mk a1 a2 lo).ops.length (rowsO (FunV.mk a1 a2 lo).ops) := by
                  show wr.ownsRow W.heap.size 170 5 (.slice pj j cj) lo.length (rowsO lo)
                  rw [HI.out.len]; exact owns_ge HI.out.row HO.out.bel.size
                have HOP := Lib.hid hop0
                have HPq := Lib.hid (HO.out.p0.only HI.out.only (by omega))
                have hrow := HO.out.row.other HI.out.only HO.out.p.blk (by decide) (by decide)
                obtain ⟨vs, hv1, hv2, hv3⟩ := hrow
                have HV1 := Lib.hid hv1
                have HV2 := Lib.hid hv2
                have HV3 := Lib.hid hv3
                have HBq := Lib.hid (HO.out.bel.trans (HI.out.only.below HO.out.bel.size (fun k hk => by have := HPo.out; omega)))
                have c0 : wr.cell? ⟨P0, 0, none⟩ = some (.slice pv l.length cv) := HPq.out.cell 0
                have d0 : wr.cell? ⟨F, 0, none⟩ = some (.int .i64 a1) := HI.out.f.cell 0
                have d1 : wr.cell? ⟨F, 1, none⟩ = some (.int .i64 a2) := HI.out.f.cell 1
                have d2 : wr.cell? ⟨F, 2, none⟩ = some (.slice pj j cj) := HI.out.f.cell 2
                clear hfun hop0 hv1 hv2 hv3 HF
                go_wp2_with (at_builtin; refine wpl_append_row2 rfl rfl rfl rfl Tryz.underlying131 info_fun rfl rfl rfl (by decide) (by decide) HV2.out (by have := HLL.out; omega) HBq.out.size (by first | rfl | simp) ?_; intro v9 w9 h9 o9; have HR9 := Lib.hid (HI.out.p.only o9 (fun h => owns_ne HV2.out HI.out.p.blk (by decide) _ h rfl)); have HP9 := Lib.hid (HPq.out.only o9 (fun h => owns_ne HV2.out HPq.out (by decide) _ h rfl)); have HB9 := Lib.hid (HBq.out.trans (o9.below (B := W.heap.size) HBq.out.size (fun k hk => (owns_type HV2.out hk).choose_spec.2.1))); obtain ⟨p9, c9, rfl⟩ := owns_slice h9; have HROW := Lib.hid (FunsRow.snoc HV1.out HV2.out HV3.out HOP.out h9 o9); have c9' : w9.cell? ⟨P0, 0, none⟩ = some (.slice pv l.length cv) := HP9.out.cell 0; have f9 : ∀ o, w9.frozen? ⟨P0, o, none⟩ = false := HP9.out.frozen; clear h9 o9 c0 d0 d1 d2)
                go_roundw
                case rel => exact ⟨i + 1, l ++ [⟨a1, a2, lo⟩], q, .slice p9 (l.length + 1) c9, by omega, rfl, ⟨by simp [HLL.out], HO.out.eq.trans HFUN.out, HP9.out.set 0 _, ⟨HR9.out.blk.set_ne _ (by simp), HR9.out.sz⟩,
                  HROW.out.other ((Only.refl (· = P0) w9).set1) HP9.out (by decide) (by decide), HB9.out.setCell (by have := HPo.out; simp; omega) _⟩⟩
                case measure => simp [intOf]; omega
          · have : i = N := by omega
            subst this
            have HEN := Lib.hid (pend_any HO.out.p)
            have heq := HO.out.eq
            rw [Nat.sub_self] at heq
            have hdec : dec s = if endE r.s r.e ≠ 0 then ([], 8) else (l, 0) := by rw [H2.out, heq]; rfl
            have HDE := Lib.hid hdec
            clear hdec heq H2
            generalize endE r.s r.e = ee at *
            by_cases hee : ee = 0
            · have h1 := HDE.out
              rw [if_neg (by simp [hee])] at h1
              have H1 := Lib.hid h1
              have he' : (ee == 0) = true := by simpa using hee
              clear h1 HDE hee
              go_wp2_with (go_at_call 42; ((with_reducible refine HEN.out.mono ?_); rintro e w4 ⟨rfl, hP, hO⟩; have HP4 := Lib.hid (HO.out.p0.only hO (by omega)); have HROW := Lib.hid (HO.out.row.other hO HO.out.p.blk (by decide) (by decide)); have HB4 := Lib.hid (HO.out.bel.trans (hO.below HO.out.bel.size (fun k hk => by have := HPo.out; omega))); have c0 : w4.cell? ⟨P0, 0, none⟩ = some (.slice pv l.length cv) := HP4.out.cell 0; have f0 : ∀ o, w4.frozen? ⟨P0, o, none⟩ = false := HP4.out.frozen; clear hP hO))
              try simp only [Exit.inBlock, Exit.then]
              exact ret_pair (cs := #[.slice pv l.length cv]) (T := 133) rfl rfl rfl (HP4.out.set 0 _) Tryz.underlying133 rfl (by kernel_rfl) rfl ⟨_, l, 0, rfl, by rw [H1.out], by rw [H1.out], (HROW.out.other ((Only.refl (· = P0) w4).set1) HP4.out (by decide) (by decide)).at, HB4.out.setCell (by have := HPo.out; simp; omega) _⟩
            · have h1 := HDE.out
              rw [if_pos hee] at h1
              have H1 := Lib.hid h1
              have he' : (ee == 0) = false := by simpa using hee
              clear h1 HDE hee
              go_wp2_with (go_at_call 42; ((with_reducible refine HEN.out.mono ?_); rintro e w4 ⟨rfl, hP, hO⟩; have HP4 := Lib.hid (HO.out.p0.only hO (by omega)); have HB4 := Lib.hid (HO.out.bel.trans (hO.below HO.out.bel.size (fun k hk => by have := HPo.out; omega))); have c0 : w4.cell? ⟨P0, 0, none⟩ = some (.slice pv l.length cv) := HP4.out.cell 0; have f0 : ∀ o, w4.frozen? ⟨P0, o, none⟩ = false := HP4.out.frozen; clear hP hO))
              try simp only [Exit.inBlock, Exit.then]
              exact ret_pair (cs := #[.slice none 0 0]) (T := 133) rfl rfl rfl (HP4.out.set 0 _) Tryz.underlying133 rfl (by kernel_rfl) rfl ⟨_, [], 8, rfl, by rw [H1.out], by rw [H1.out], funsAt_nil _, HB4.out.setCell (by have := HPo.out; simp; omega) _⟩
      · rw [if_pos hv] at h1
        have H2 := Lib.hid h1
        clear h1 H1
        have hv' : (v0 == 1) = false := by simpa using hv
        go_wp2_with (go_at_call 104; ((with_reducible refine (perr_any HR2.out).mono ?_); rintro e w' ⟨rfl, rfl⟩))
        try simp only [Exit.inBlock, Exit.then]
        exact ret_pair (cs := #[.slice none 0 0]) (T := 133) rfl rfl rfl (HP2.out.set 0 _) Tryz.underlying133 rfl (by kernel_rfl) rfl ⟨_, [], 100, rfl, by rw [H2.out], by rw [H2.out], funsAt_nil _, by rw [hP0]; exact HB2.out.setCell (Nat.le_refl _) _⟩
    · rw [if_pos he] at h1
      have H2 := Lib.hid h1
      clear h1 H1
      have he' : (r0.e == 0) = false := by simpa using he
      go_wp2_with (go_at_call 104; ((with_reducible refine (perr_any HR2.out).mono ?_); rintro e w' ⟨rfl, rfl⟩))
      try simp only [Exit.inBlock, Exit.then]
      exact ret_pair (cs := #[.slice none 0 0]) (T := 133) rfl rfl rfl (HP2.out.set 0 _) Tryz.underlying133 rfl (by kernel_rfl) rfl ⟨_, [], 8, rfl, by rw [H2.out], by rw [H2.out], funsAt_nil _, by rw [hP0]; exact HB2.out.setCell (Nat.le_refl _) _⟩
end Go.Proofs.YtlahficmkfgooaaGreat
