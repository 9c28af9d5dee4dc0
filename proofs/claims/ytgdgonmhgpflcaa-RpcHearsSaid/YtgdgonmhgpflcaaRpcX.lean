import Derived.Test.YtgdgonmhgpflcaaRpcW
import Derived.Test.YtgdgonmhgpflcaaRpcS

/- The walk of RpcBytes: packets' bytes. No condition but that numbers and texts fit their types. -/
namespace Go.Proofs.Ytgdgonmhgpflcaa
open Go.RowKit Wire Rp
set_option linter.unusedVariables false
set_option linter.unusedSimpArgs false
theorem pkS_len {p : Pk} (h : mayP p = true) : (pkS p).size ≤ maxLen := by
  have hm := mayP_of h
  unfold pkS
  have s1 := bool_size p.an
  have s2 := lebS_size hm.1.2
  have s3 := lebS_size hm.2.1.2
  have s4 := text_size hm.2.2
  have e1 : (boolS p.an ++ Num.lebS p.inc ++ Num.lebS p.seq ++ textS p.body).size = (boolS p.an).size + (Num.lebS p.inc).size + (Num.lebS p.seq).size + (textS p.body).size := by simp [ByteArray.size_append]
  rw [e1]
  unfold maxLen
  omega
set_option maxRecDepth 100000 in
set_option maxHeartbeats 4000000 in
theorem bytes_t (p : Pk) (b : ByteArray) (hi : U64 p.inc) (hs : U64 p.seq) (hpb : p.body.size ≤ maxLen) (hb : b.size ≤ maxLen) (w : World) : Calls Try.prog 3 #[pv p, .string b] w fun e w' => e = .returned (.bool true) ∧ Below w.heap.size w w' := by
  by_cases hbig : (32768 : Int) < wrap64 ((p.body.size : Int) + (b.size : Int))
  · have hbig' := hbig
    have HB0 : Hid (Below w.heap.size w (w.alloc (.cells (pcells p) 24))) := Lib.hid ((Below.refl _ _).alloc (Nat.le_refl _) _)
    clear hbig hi hs hb hpb
    obtain ⟨an, inc, sq, body⟩ := p
    unfold pv pcells at *
    dsimp only at hbig' HB0
    go_enter Try.func3, Try.ntmps3
    go_wp2_with (go_at_call 9; go_loud ((with_reducible refine Calls.mono (works_t _) ?_); rintro e wz ⟨rfl, hbw⟩; have HBW := Lib.hid (HB0.out.trans (hbw.mono HB0.out.size)); clear hbw))
    go_ret
    exact ⟨rfl, HBW.out⟩
  · have hbig' := hbig
    have HEN := Lib.hid (fun w => penc_any p w)
    have HDC := Lib.hid (fun (k : Int) (hk : (if okP b then 0 else 8) = k) w => pdec_any b hb hk w)
    have HOF := Lib.hid (fun (k : Bool) (hk : okP b = k) w => rof_any b hb hk w)
    have HMY := Lib.hid (fun w => rmay_any p w)
    have HBY := Lib.hid (fun (h : p.body.size ≤ 1048576) w => rbytes_any p hi hs h w)
    have HX := Lib.hid (Blk.new w 24 (pcells p))
    have HB0 : Hid (Below w.heap.size w (w.alloc (.cells (pcells p) 24))) := Lib.hid ((Below.refl _ _).alloc (Nat.le_refl _) _)
    unfold EnPost at HEN
    unfold DcPost at HDC HOF
    have HBS : Hid (mayP p = true → p.body.size ≤ 1048576) := Lib.hid (fun h => (mayP_of h).2.2)
    have HRT : Hid (mayP p = true → okP (pkS p) = true ∧ decP (pkS p) = p ∧ (pkS p).size ≤ maxLen) := Lib.hid fun h => ⟨(dec_enc h).1, (dec_enc h).2, pkS_len h⟩
    have HDT := Lib.hid (fun (h : mayP p = true) w => by
      have := pdec_any (pkS p) (pkS_len h) (k := 0) (by rw [(dec_enc h).1]; rfl) w
      unfold DcPost at this
      rw [(dec_enc h).2] at this
      exact this)
    clear hbig hi hs hb hpb
    generalize hd : decP b = d at *
    cases hok : okP b with
    | true =>
      have HD1 := Lib.hid (HDC.out 0 (by rw [hok]; rfl))
      have HO1 := Lib.hid (HOF.out true hok)
      clear HDC HOF hok hd
      cases hm : mayP p with
      | true =>
        simp only [hm] at HEN HMY
        have HDT1 := Lib.hid (HDT.out hm)
        have HBY1 := Lib.hid (HBY.out (HBS.out hm))
        clear HRT HDT HBY hm HBS
        generalize pkS p = T at *
        obtain ⟨an, inc, sq, body⟩ := p
        obtain ⟨dan, dinc, dsq, dbody⟩ := d
        unfold pv pcells at *
        dsimp only at *
        go_enter Try.func3, Try.ntmps3
        go_upto_region 3 with fail
        obtain ⟨Q, hQ⟩ : ∃ Q, w.heap.size = Q := ⟨_, rfl⟩
        rw [hQ] at HX
        rw [hQ]
        have HQ := Lib.hid hQ
        clear hQ
        generalize w.alloc (.cells #[.bool an, .int .u64 inc, .int .u64 sq, .string body] 24) = w1 at *
        have y0 : w1.cell? ⟨Q, 0, none⟩ = some (.bool an) := by rw [HX.out.cell 0]; rfl
        have y1 : w1.cell? ⟨Q, 1, none⟩ = some (.int .u64 inc) := by rw [HX.out.cell 1]; rfl
        have y2 : w1.cell? ⟨Q, 2, none⟩ = some (.int .u64 sq) := by rw [HX.out.cell 2]; rfl
        have y3 : w1.cell? ⟨Q, 3, none⟩ = some (.string body) := by rw [HX.out.cell 3]; rfl
        go_upto_region 4 with (go_at_call 10; go_loud ((with_reducible refine (HEN.out _).mono ?_); rintro e w2 ⟨rfl, hb⟩; have HB2 := Lib.hid (HB0.out.step hb); have HX2 := Lib.hid (HX.out.below hb); clear hb))
        clear y0 y1 y2 y3 HX HB0
        go_upto_region 5 with (go_at_call 11; go_loud ((with_reducible refine (HD1.out _).mono ?_); rintro e w3 ⟨rfl, hb⟩; have HB3 := Lib.hid (HB2.out.step hb); have HX3 := Lib.hid (HX2.out.below hb); clear hb))
        have HA := Lib.hid (Blk.new w3 24 #[.bool dan, .int .u64 dinc, .int .u64 dsq, .string dbody])
        have HX4 := Lib.hid (HX3.out.alloc (.cells #[.bool dan, .int .u64 dinc, .int .u64 dsq, .string dbody] 24))
        have HB4 := Lib.hid (HB3.out.alloc HB3.out.size (.cells #[.bool dan, .int .u64 dinc, .int .u64 dsq, .string dbody] 24))
        clear HX2 HB2 HX3 HB3 HD1
        generalize w3.alloc (.cells #[.bool dan, .int .u64 dinc, .int .u64 dsq, .string dbody] 24) = w4 at *
        generalize w3.heap.size = D1 at *
        go_upto_region 6 with (go_at_call 12; go_loud ((with_reducible refine (HO1.out _).mono ?_); rintro e w5 ⟨rfl, hb⟩; have HB5 := Lib.hid (HB4.out.step hb); have HX5 := Lib.hid (HX4.out.below hb); have HA5 := Lib.hid (HA.out.below hb); clear hb))
        have HE := Lib.hid (Blk.new w5 24 #[.bool dan, .int .u64 dinc, .int .u64 dsq, .string dbody])
        have HX6 := Lib.hid (HX5.out.alloc (.cells #[.bool dan, .int .u64 dinc, .int .u64 dsq, .string dbody] 24))
        have HA6 := Lib.hid (HA5.out.alloc (.cells #[.bool dan, .int .u64 dinc, .int .u64 dsq, .string dbody] 24))
        have HB6 := Lib.hid (HB5.out.alloc HB5.out.size (.cells #[.bool dan, .int .u64 dinc, .int .u64 dsq, .string dbody] 24))
        clear HX4 HB4 HX5 HB5 HO1 HA HA5
        generalize w5.alloc (.cells #[.bool dan, .int .u64 dinc, .int .u64 dsq, .string dbody] 24) = w6 at *
        generalize w5.heap.size = D2 at *
        have y0 : w6.cell? ⟨Q, 0, none⟩ = some (.bool an) := by rw [HX6.out.cell 0]; rfl
        have y1 : w6.cell? ⟨Q, 1, none⟩ = some (.int .u64 inc) := by rw [HX6.out.cell 1]; rfl
        have y2 : w6.cell? ⟨Q, 2, none⟩ = some (.int .u64 sq) := by rw [HX6.out.cell 2]; rfl
        have y3 : w6.cell? ⟨Q, 3, none⟩ = some (.string body) := by rw [HX6.out.cell 3]; rfl
        have a0 : w6.cell? ⟨D1, 0, none⟩ = some (.bool dan) := by rw [HA6.out.cell 0]; rfl
        have a1 : w6.cell? ⟨D1, 1, none⟩ = some (.int .u64 dinc) := by rw [HA6.out.cell 1]; rfl
        have a2 : w6.cell? ⟨D1, 2, none⟩ = some (.int .u64 dsq) := by rw [HA6.out.cell 2]; rfl
        have a3 : w6.cell? ⟨D1, 3, none⟩ = some (.string dbody) := by rw [HA6.out.cell 3]; rfl
        have e0 : w6.cell? ⟨D2, 0, none⟩ = some (.bool dan) := by rw [HE.out.cell 0]; rfl
        have e1 : w6.cell? ⟨D2, 1, none⟩ = some (.int .u64 dinc) := by rw [HE.out.cell 1]; rfl
        have e2 : w6.cell? ⟨D2, 2, none⟩ = some (.int .u64 dsq) := by rw [HE.out.cell 2]; rfl
        have e3 : w6.cell? ⟨D2, 3, none⟩ = some (.string dbody) := by rw [HE.out.cell 3]; rfl
        go_upto_region 10 with (go_at_call 13; go_loud ((with_reducible refine (HMY.out _).mono ?_); rintro e w8 ⟨rfl, hb⟩; have HB8 := Lib.hid (HB6.out.step hb); have HX8 := Lib.hid (HX6.out.below hb); clear hb))
        clear a0 a1 a2 a3 e0 e1 e2 e3
        go_upto_region 11 with (go_at_call 11; go_loud ((with_reducible refine (HDT1.out _).mono ?_); rintro e w9 ⟨rfl, hb⟩; have HB9 := Lib.hid (HB8.out.step hb); have HX9 := Lib.hid (HX8.out.below hb); clear hb))
        have HF := Lib.hid (Blk.new w9 24 #[.bool an, .int .u64 inc, .int .u64 sq, .string body])
        have HX10 := Lib.hid (HX9.out.alloc (.cells #[.bool an, .int .u64 inc, .int .u64 sq, .string body] 24))
        have HB10 := Lib.hid (HB9.out.alloc HB9.out.size (.cells #[.bool an, .int .u64 inc, .int .u64 sq, .string body] 24))
        generalize w9.alloc (.cells #[.bool an, .int .u64 inc, .int .u64 sq, .string body] 24) = w10 at *
        generalize w9.heap.size = D3 at *
        have y0 : w10.cell? ⟨Q, 0, none⟩ = some (.bool an) := by rw [HX10.out.cell 0]; rfl
        have y1 : w10.cell? ⟨Q, 1, none⟩ = some (.int .u64 inc) := by rw [HX10.out.cell 1]; rfl
        have y2 : w10.cell? ⟨Q, 2, none⟩ = some (.int .u64 sq) := by rw [HX10.out.cell 2]; rfl
        have y3 : w10.cell? ⟨Q, 3, none⟩ = some (.string body) := by rw [HX10.out.cell 3]; rfl
        go_wp2_with (first
          | (go_at_call 14; go_loud ((with_reducible refine (HBY1.out _).mono ?_); rintro e w11 ⟨rfl, hb⟩; have HB11 := Lib.hid (HB10.out.step hb); have HX11 := Lib.hid (HX10.out.below hb); have HF11 := Lib.hid (HF.out.below hb); clear hb y0 y1 y2 y3; have y0 : w11.cell? ⟨Q, 0, none⟩ = some (.bool an) := (by rw [HX11.out.cell 0]; rfl); have y1 : w11.cell? ⟨Q, 1, none⟩ = some (.int .u64 inc) := (by rw [HX11.out.cell 1]; rfl); have y2 : w11.cell? ⟨Q, 2, none⟩ = some (.int .u64 sq) := (by rw [HX11.out.cell 2]; rfl); have y3 : w11.cell? ⟨Q, 3, none⟩ = some (.string body) := (by rw [HX11.out.cell 3]; rfl); have f0 : w11.cell? ⟨D3, 0, none⟩ = some (.bool an) := (by rw [HF11.out.cell 0]; rfl); have f1 : w11.cell? ⟨D3, 1, none⟩ = some (.int .u64 inc) := (by rw [HF11.out.cell 1]; rfl); have f2 : w11.cell? ⟨D3, 2, none⟩ = some (.int .u64 sq) := (by rw [HF11.out.cell 2]; rfl); have f3 : w11.cell? ⟨D3, 3, none⟩ = some (.string body) := (by rw [HF11.out.cell 3]; rfl)))
          | (go_at_call 9; go_loud ((with_reducible refine Calls.mono (works_t _) ?_); rintro e wz ⟨rfl, hbw⟩; have HBW := Lib.hid (HB11.out.trans (hbw.mono HB11.out.size)); clear hbw)))
        go_ret
        exact ⟨rfl, HBW.out⟩
      | false =>
        simp only [hm] at HEN HMY
        clear HRT HDT HBY hm HBS
        generalize pkS p = T at *
        obtain ⟨an, inc, sq, body⟩ := p
        obtain ⟨dan, dinc, dsq, dbody⟩ := d
        unfold pv pcells at *
        dsimp only at *
        go_enter Try.func3, Try.ntmps3
        go_upto_region 3 with fail
        obtain ⟨Q, hQ⟩ : ∃ Q, w.heap.size = Q := ⟨_, rfl⟩
        rw [hQ] at HX
        rw [hQ]
        have HQ := Lib.hid hQ
        clear hQ
        generalize w.alloc (.cells #[.bool an, .int .u64 inc, .int .u64 sq, .string body] 24) = w1 at *
        have y0 : w1.cell? ⟨Q, 0, none⟩ = some (.bool an) := by rw [HX.out.cell 0]; rfl
        have y1 : w1.cell? ⟨Q, 1, none⟩ = some (.int .u64 inc) := by rw [HX.out.cell 1]; rfl
        have y2 : w1.cell? ⟨Q, 2, none⟩ = some (.int .u64 sq) := by rw [HX.out.cell 2]; rfl
        have y3 : w1.cell? ⟨Q, 3, none⟩ = some (.string body) := by rw [HX.out.cell 3]; rfl
        go_upto_region 4 with (go_at_call 10; go_loud ((with_reducible refine (HEN.out _).mono ?_); rintro e w2 ⟨rfl, hb⟩; have HB2 := Lib.hid (HB0.out.step hb); have HX2 := Lib.hid (HX.out.below hb); clear hb))
        clear y0 y1 y2 y3 HX HB0
        go_upto_region 5 with (go_at_call 11; go_loud ((with_reducible refine (HD1.out _).mono ?_); rintro e w3 ⟨rfl, hb⟩; have HB3 := Lib.hid (HB2.out.step hb); have HX3 := Lib.hid (HX2.out.below hb); clear hb))
        have HA := Lib.hid (Blk.new w3 24 #[.bool dan, .int .u64 dinc, .int .u64 dsq, .string dbody])
        have HX4 := Lib.hid (HX3.out.alloc (.cells #[.bool dan, .int .u64 dinc, .int .u64 dsq, .string dbody] 24))
        have HB4 := Lib.hid (HB3.out.alloc HB3.out.size (.cells #[.bool dan, .int .u64 dinc, .int .u64 dsq, .string dbody] 24))
        clear HX2 HB2 HX3 HB3 HD1
        generalize w3.alloc (.cells #[.bool dan, .int .u64 dinc, .int .u64 dsq, .string dbody] 24) = w4 at *
        generalize w3.heap.size = D1 at *
        go_upto_region 6 with (go_at_call 12; go_loud ((with_reducible refine (HO1.out _).mono ?_); rintro e w5 ⟨rfl, hb⟩; have HB5 := Lib.hid (HB4.out.step hb); have HX5 := Lib.hid (HX4.out.below hb); have HA5 := Lib.hid (HA.out.below hb); clear hb))
        have HE := Lib.hid (Blk.new w5 24 #[.bool dan, .int .u64 dinc, .int .u64 dsq, .string dbody])
        have HX6 := Lib.hid (HX5.out.alloc (.cells #[.bool dan, .int .u64 dinc, .int .u64 dsq, .string dbody] 24))
        have HA6 := Lib.hid (HA5.out.alloc (.cells #[.bool dan, .int .u64 dinc, .int .u64 dsq, .string dbody] 24))
        have HB6 := Lib.hid (HB5.out.alloc HB5.out.size (.cells #[.bool dan, .int .u64 dinc, .int .u64 dsq, .string dbody] 24))
        clear HX4 HB4 HX5 HB5 HO1 HA HA5
        generalize w5.alloc (.cells #[.bool dan, .int .u64 dinc, .int .u64 dsq, .string dbody] 24) = w6 at *
        generalize w5.heap.size = D2 at *
        have y0 : w6.cell? ⟨Q, 0, none⟩ = some (.bool an) := by rw [HX6.out.cell 0]; rfl
        have y1 : w6.cell? ⟨Q, 1, none⟩ = some (.int .u64 inc) := by rw [HX6.out.cell 1]; rfl
        have y2 : w6.cell? ⟨Q, 2, none⟩ = some (.int .u64 sq) := by rw [HX6.out.cell 2]; rfl
        have y3 : w6.cell? ⟨Q, 3, none⟩ = some (.string body) := by rw [HX6.out.cell 3]; rfl
        have a0 : w6.cell? ⟨D1, 0, none⟩ = some (.bool dan) := by rw [HA6.out.cell 0]; rfl
        have a1 : w6.cell? ⟨D1, 1, none⟩ = some (.int .u64 dinc) := by rw [HA6.out.cell 1]; rfl
        have a2 : w6.cell? ⟨D1, 2, none⟩ = some (.int .u64 dsq) := by rw [HA6.out.cell 2]; rfl
        have a3 : w6.cell? ⟨D1, 3, none⟩ = some (.string dbody) := by rw [HA6.out.cell 3]; rfl
        have e0 : w6.cell? ⟨D2, 0, none⟩ = some (.bool dan) := by rw [HE.out.cell 0]; rfl
        have e1 : w6.cell? ⟨D2, 1, none⟩ = some (.int .u64 dinc) := by rw [HE.out.cell 1]; rfl
        have e2 : w6.cell? ⟨D2, 2, none⟩ = some (.int .u64 dsq) := by rw [HE.out.cell 2]; rfl
        have e3 : w6.cell? ⟨D2, 3, none⟩ = some (.string dbody) := by rw [HE.out.cell 3]; rfl
        go_wp2_with (first | (go_at_call 13; go_loud ((with_reducible refine (HMY.out _).mono ?_); rintro e w8 ⟨rfl, hb⟩; have HB8 := Lib.hid (HB6.out.step hb); have HX8 := Lib.hid (HX6.out.below hb); clear hb)) | (go_at_call 9; go_loud ((with_reducible refine Calls.mono (works_t _) ?_); rintro e wz ⟨rfl, hbw⟩; have HBW := Lib.hid (HB8.out.trans (hbw.mono HB8.out.size)); clear hbw)))
        go_ret
        exact ⟨rfl, HBW.out⟩
    | false =>
      have HD1 := Lib.hid (HDC.out 8 (by rw [hok]; rfl))
      have HO1 := Lib.hid (HOF.out false hok)
      clear HDC HOF hok hd
      cases hm : mayP p with
      | true =>
        simp only [hm] at HEN HMY
        have HDT1 := Lib.hid (HDT.out hm)
        have HBY1 := Lib.hid (HBY.out (HBS.out hm))
        clear HRT HDT HBY hm HBS
        generalize pkS p = T at *
        obtain ⟨an, inc, sq, body⟩ := p
        obtain ⟨dan, dinc, dsq, dbody⟩ := d
        unfold pv pcells at *
        dsimp only at *
        go_enter Try.func3, Try.ntmps3
        go_upto_region 3 with fail
        obtain ⟨Q, hQ⟩ : ∃ Q, w.heap.size = Q := ⟨_, rfl⟩
        rw [hQ] at HX
        rw [hQ]
        have HQ := Lib.hid hQ
        clear hQ
        generalize w.alloc (.cells #[.bool an, .int .u64 inc, .int .u64 sq, .string body] 24) = w1 at *
        have y0 : w1.cell? ⟨Q, 0, none⟩ = some (.bool an) := by rw [HX.out.cell 0]; rfl
        have y1 : w1.cell? ⟨Q, 1, none⟩ = some (.int .u64 inc) := by rw [HX.out.cell 1]; rfl
        have y2 : w1.cell? ⟨Q, 2, none⟩ = some (.int .u64 sq) := by rw [HX.out.cell 2]; rfl
        have y3 : w1.cell? ⟨Q, 3, none⟩ = some (.string body) := by rw [HX.out.cell 3]; rfl
        go_upto_region 4 with (go_at_call 10; go_loud ((with_reducible refine (HEN.out _).mono ?_); rintro e w2 ⟨rfl, hb⟩; have HB2 := Lib.hid (HB0.out.step hb); have HX2 := Lib.hid (HX.out.below hb); clear hb))
        clear y0 y1 y2 y3 HX HB0
        go_upto_region 5 with (go_at_call 11; go_loud ((with_reducible refine (HD1.out _).mono ?_); rintro e w3 ⟨rfl, hb⟩; have HB3 := Lib.hid (HB2.out.step hb); have HX3 := Lib.hid (HX2.out.below hb); clear hb))
        have HA := Lib.hid (Blk.new w3 24 #[.bool dan, .int .u64 dinc, .int .u64 dsq, .string dbody])
        have HX4 := Lib.hid (HX3.out.alloc (.cells #[.bool dan, .int .u64 dinc, .int .u64 dsq, .string dbody] 24))
        have HB4 := Lib.hid (HB3.out.alloc HB3.out.size (.cells #[.bool dan, .int .u64 dinc, .int .u64 dsq, .string dbody] 24))
        clear HX2 HB2 HX3 HB3 HD1
        generalize w3.alloc (.cells #[.bool dan, .int .u64 dinc, .int .u64 dsq, .string dbody] 24) = w4 at *
        generalize w3.heap.size = D1 at *
        go_upto_region 6 with (go_at_call 12; go_loud ((with_reducible refine (HO1.out _).mono ?_); rintro e w5 ⟨rfl, hb⟩; have HB5 := Lib.hid (HB4.out.step hb); have HX5 := Lib.hid (HX4.out.below hb); have HA5 := Lib.hid (HA.out.below hb); clear hb))
        have HE := Lib.hid (Blk.new w5 24 #[.bool dan, .int .u64 dinc, .int .u64 dsq, .string dbody])
        have HX6 := Lib.hid (HX5.out.alloc (.cells #[.bool dan, .int .u64 dinc, .int .u64 dsq, .string dbody] 24))
        have HA6 := Lib.hid (HA5.out.alloc (.cells #[.bool dan, .int .u64 dinc, .int .u64 dsq, .string dbody] 24))
        have HB6 := Lib.hid (HB5.out.alloc HB5.out.size (.cells #[.bool dan, .int .u64 dinc, .int .u64 dsq, .string dbody] 24))
        clear HX4 HB4 HX5 HB5 HO1 HA HA5
        generalize w5.alloc (.cells #[.bool dan, .int .u64 dinc, .int .u64 dsq, .string dbody] 24) = w6 at *
        generalize w5.heap.size = D2 at *
        have y0 : w6.cell? ⟨Q, 0, none⟩ = some (.bool an) := by rw [HX6.out.cell 0]; rfl
        have y1 : w6.cell? ⟨Q, 1, none⟩ = some (.int .u64 inc) := by rw [HX6.out.cell 1]; rfl
        have y2 : w6.cell? ⟨Q, 2, none⟩ = some (.int .u64 sq) := by rw [HX6.out.cell 2]; rfl
        have y3 : w6.cell? ⟨Q, 3, none⟩ = some (.string body) := by rw [HX6.out.cell 3]; rfl
        have a0 : w6.cell? ⟨D1, 0, none⟩ = some (.bool dan) := by rw [HA6.out.cell 0]; rfl
        have a1 : w6.cell? ⟨D1, 1, none⟩ = some (.int .u64 dinc) := by rw [HA6.out.cell 1]; rfl
        have a2 : w6.cell? ⟨D1, 2, none⟩ = some (.int .u64 dsq) := by rw [HA6.out.cell 2]; rfl
        have a3 : w6.cell? ⟨D1, 3, none⟩ = some (.string dbody) := by rw [HA6.out.cell 3]; rfl
        have e0 : w6.cell? ⟨D2, 0, none⟩ = some (.bool dan) := by rw [HE.out.cell 0]; rfl
        have e1 : w6.cell? ⟨D2, 1, none⟩ = some (.int .u64 dinc) := by rw [HE.out.cell 1]; rfl
        have e2 : w6.cell? ⟨D2, 2, none⟩ = some (.int .u64 dsq) := by rw [HE.out.cell 2]; rfl
        have e3 : w6.cell? ⟨D2, 3, none⟩ = some (.string dbody) := by rw [HE.out.cell 3]; rfl
        go_upto_region 10 with (go_at_call 13; go_loud ((with_reducible refine (HMY.out _).mono ?_); rintro e w8 ⟨rfl, hb⟩; have HB8 := Lib.hid (HB6.out.step hb); have HX8 := Lib.hid (HX6.out.below hb); clear hb))
        clear a0 a1 a2 a3 e0 e1 e2 e3
        go_upto_region 11 with (go_at_call 11; go_loud ((with_reducible refine (HDT1.out _).mono ?_); rintro e w9 ⟨rfl, hb⟩; have HB9 := Lib.hid (HB8.out.step hb); have HX9 := Lib.hid (HX8.out.below hb); clear hb))
        have HF := Lib.hid (Blk.new w9 24 #[.bool an, .int .u64 inc, .int .u64 sq, .string body])
        have HX10 := Lib.hid (HX9.out.alloc (.cells #[.bool an, .int .u64 inc, .int .u64 sq, .string body] 24))
        have HB10 := Lib.hid (HB9.out.alloc HB9.out.size (.cells #[.bool an, .int .u64 inc, .int .u64 sq, .string body] 24))
        generalize w9.alloc (.cells #[.bool an, .int .u64 inc, .int .u64 sq, .string body] 24) = w10 at *
        generalize w9.heap.size = D3 at *
        have y0 : w10.cell? ⟨Q, 0, none⟩ = some (.bool an) := by rw [HX10.out.cell 0]; rfl
        have y1 : w10.cell? ⟨Q, 1, none⟩ = some (.int .u64 inc) := by rw [HX10.out.cell 1]; rfl
        have y2 : w10.cell? ⟨Q, 2, none⟩ = some (.int .u64 sq) := by rw [HX10.out.cell 2]; rfl
        have y3 : w10.cell? ⟨Q, 3, none⟩ = some (.string body) := by rw [HX10.out.cell 3]; rfl
        go_wp2_with (first
          | (go_at_call 14; go_loud ((with_reducible refine (HBY1.out _).mono ?_); rintro e w11 ⟨rfl, hb⟩; have HB11 := Lib.hid (HB10.out.step hb); have HX11 := Lib.hid (HX10.out.below hb); have HF11 := Lib.hid (HF.out.below hb); clear hb y0 y1 y2 y3; have y0 : w11.cell? ⟨Q, 0, none⟩ = some (.bool an) := (by rw [HX11.out.cell 0]; rfl); have y1 : w11.cell? ⟨Q, 1, none⟩ = some (.int .u64 inc) := (by rw [HX11.out.cell 1]; rfl); have y2 : w11.cell? ⟨Q, 2, none⟩ = some (.int .u64 sq) := (by rw [HX11.out.cell 2]; rfl); have y3 : w11.cell? ⟨Q, 3, none⟩ = some (.string body) := (by rw [HX11.out.cell 3]; rfl); have f0 : w11.cell? ⟨D3, 0, none⟩ = some (.bool an) := (by rw [HF11.out.cell 0]; rfl); have f1 : w11.cell? ⟨D3, 1, none⟩ = some (.int .u64 inc) := (by rw [HF11.out.cell 1]; rfl); have f2 : w11.cell? ⟨D3, 2, none⟩ = some (.int .u64 sq) := (by rw [HF11.out.cell 2]; rfl); have f3 : w11.cell? ⟨D3, 3, none⟩ = some (.string body) := (by rw [HF11.out.cell 3]; rfl)))
          | (go_at_call 9; go_loud ((with_reducible refine Calls.mono (works_t _) ?_); rintro e wz ⟨rfl, hbw⟩; have HBW := Lib.hid (HB11.out.trans (hbw.mono HB11.out.size)); clear hbw)))
        go_ret
        exact ⟨rfl, HBW.out⟩
      | false =>
        simp only [hm] at HEN HMY
        clear HRT HDT HBY hm HBS
        generalize pkS p = T at *
        obtain ⟨an, inc, sq, body⟩ := p
        obtain ⟨dan, dinc, dsq, dbody⟩ := d
        unfold pv pcells at *
        dsimp only at *
        go_enter Try.func3, Try.ntmps3
        go_upto_region 3 with fail
        obtain ⟨Q, hQ⟩ : ∃ Q, w.heap.size = Q := ⟨_, rfl⟩
        rw [hQ] at HX
        rw [hQ]
        have HQ := Lib.hid hQ
        clear hQ
        generalize w.alloc (.cells #[.bool an, .int .u64 inc, .int .u64 sq, .string body] 24) = w1 at *
        have y0 : w1.cell? ⟨Q, 0, none⟩ = some (.bool an) := by rw [HX.out.cell 0]; rfl
        have y1 : w1.cell? ⟨Q, 1, none⟩ = some (.int .u64 inc) := by rw [HX.out.cell 1]; rfl
        have y2 : w1.cell? ⟨Q, 2, none⟩ = some (.int .u64 sq) := by rw [HX.out.cell 2]; rfl
        have y3 : w1.cell? ⟨Q, 3, none⟩ = some (.string body) := by rw [HX.out.cell 3]; rfl
        go_upto_region 4 with (go_at_call 10; go_loud ((with_reducible refine (HEN.out _).mono ?_); rintro e w2 ⟨rfl, hb⟩; have HB2 := Lib.hid (HB0.out.step hb); have HX2 := Lib.hid (HX.out.below hb); clear hb))
        clear y0 y1 y2 y3 HX HB0
        go_upto_region 5 with (go_at_call 11; go_loud ((with_reducible refine (HD1.out _).mono ?_); rintro e w3 ⟨rfl, hb⟩; have HB3 := Lib.hid (HB2.out.step hb); have HX3 := Lib.hid (HX2.out.below hb); clear hb))
        have HA := Lib.hid (Blk.new w3 24 #[.bool dan, .int .u64 dinc, .int .u64 dsq, .string dbody])
        have HX4 := Lib.hid (HX3.out.alloc (.cells #[.bool dan, .int .u64 dinc, .int .u64 dsq, .string dbody] 24))
        have HB4 := Lib.hid (HB3.out.alloc HB3.out.size (.cells #[.bool dan, .int .u64 dinc, .int .u64 dsq, .string dbody] 24))
        clear HX2 HB2 HX3 HB3 HD1
        generalize w3.alloc (.cells #[.bool dan, .int .u64 dinc, .int .u64 dsq, .string dbody] 24) = w4 at *
        generalize w3.heap.size = D1 at *
        go_upto_region 6 with (go_at_call 12; go_loud ((with_reducible refine (HO1.out _).mono ?_); rintro e w5 ⟨rfl, hb⟩; have HB5 := Lib.hid (HB4.out.step hb); have HX5 := Lib.hid (HX4.out.below hb); have HA5 := Lib.hid (HA.out.below hb); clear hb))
        have HE := Lib.hid (Blk.new w5 24 #[.bool dan, .int .u64 dinc, .int .u64 dsq, .string dbody])
        have HX6 := Lib.hid (HX5.out.alloc (.cells #[.bool dan, .int .u64 dinc, .int .u64 dsq, .string dbody] 24))
        have HA6 := Lib.hid (HA5.out.alloc (.cells #[.bool dan, .int .u64 dinc, .int .u64 dsq, .string dbody] 24))
        have HB6 := Lib.hid (HB5.out.alloc HB5.out.size (.cells #[.bool dan, .int .u64 dinc, .int .u64 dsq, .string dbody] 24))
        clear HX4 HB4 HX5 HB5 HO1 HA HA5
        generalize w5.alloc (.cells #[.bool dan, .int .u64 dinc, .int .u64 dsq, .string dbody] 24) = w6 at *
        generalize w5.heap.size = D2 at *
        have y0 : w6.cell? ⟨Q, 0, none⟩ = some (.bool an) := by rw [HX6.out.cell 0]; rfl
        have y1 : w6.cell? ⟨Q, 1, none⟩ = some (.int .u64 inc) := by rw [HX6.out.cell 1]; rfl
        have y2 : w6.cell? ⟨Q, 2, none⟩ = some (.int .u64 sq) := by rw [HX6.out.cell 2]; rfl
        have y3 : w6.cell? ⟨Q, 3, none⟩ = some (.string body) := by rw [HX6.out.cell 3]; rfl
        have a0 : w6.cell? ⟨D1, 0, none⟩ = some (.bool dan) := by rw [HA6.out.cell 0]; rfl
        have a1 : w6.cell? ⟨D1, 1, none⟩ = some (.int .u64 dinc) := by rw [HA6.out.cell 1]; rfl
        have a2 : w6.cell? ⟨D1, 2, none⟩ = some (.int .u64 dsq) := by rw [HA6.out.cell 2]; rfl
        have a3 : w6.cell? ⟨D1, 3, none⟩ = some (.string dbody) := by rw [HA6.out.cell 3]; rfl
        have e0 : w6.cell? ⟨D2, 0, none⟩ = some (.bool dan) := by rw [HE.out.cell 0]; rfl
        have e1 : w6.cell? ⟨D2, 1, none⟩ = some (.int .u64 dinc) := by rw [HE.out.cell 1]; rfl
        have e2 : w6.cell? ⟨D2, 2, none⟩ = some (.int .u64 dsq) := by rw [HE.out.cell 2]; rfl
        have e3 : w6.cell? ⟨D2, 3, none⟩ = some (.string dbody) := by rw [HE.out.cell 3]; rfl
        go_wp2_with (first | (go_at_call 13; go_loud ((with_reducible refine (HMY.out _).mono ?_); rintro e w8 ⟨rfl, hb⟩; have HB8 := Lib.hid (HB6.out.step hb); have HX8 := Lib.hid (HX6.out.below hb); clear hb)) | (go_at_call 9; go_loud ((with_reducible refine Calls.mono (works_t _) ?_); rintro e wz ⟨rfl, hbw⟩; have HBW := Lib.hid (HB8.out.trans (hbw.mono HB8.out.size)); clear hbw)))
        go_ret
        exact ⟨rfl, HBW.out⟩
end Go.Proofs.Ytgdgonmhgpflcaa
