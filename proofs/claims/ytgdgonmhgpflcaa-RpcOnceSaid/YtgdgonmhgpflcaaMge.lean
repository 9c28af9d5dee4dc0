import Derived.Test.YtgdgonmhgpflcaaMgd
import Derived.Test.YtgdgonmhgpflcaaMgb

/- Packets: what bytes are read as, by the document. No condition but that a text fits its type. -/
namespace Go.Proofs.Ytgdgonmhgpflcaa
open Go.RowKit Wire Rp
set_option linter.unusedVariables false
set_option linter.unusedSimpArgs false
section
variable {s : ByteArray} {b : Nat} {w : World}
theorem rq1 (h : RR w b s 0) : Calls Try.prog 50 #[.pointer (some ⟨b, 0, none⟩)] w (RBoolPost b w (q1V s) (q1S s) (q1E s)) := rbool_any h
theorem rq2 (h : RR w b (q1S s) (q1E s)) : Calls Try.prog 51 #[.pointer (some ⟨b, 0, none⟩), .int .u64 4611686018427387904] w (RNumPost b w (q2V s) (q2S s) (q2E s)) := ruintm_any h _
theorem rq3 (h : RR w b (q2S s) (q2E s)) : Calls Try.prog 51 #[.pointer (some ⟨b, 0, none⟩), .int .u64 4611686018427387904] w (RNumPost b w (q3V s) (q3S s) (q3E s)) := ruintm_any h _
theorem rq4 (h : RR w b (q3S s) (q3E s)) : Calls Try.prog 52 #[.pointer (some ⟨b, 0, none⟩), .int .i64 8192] w (RTextPost b w (q4V s) (q4S s) (q4E s)) := rtext_any h _ i64_8192
end
set_option maxRecDepth 100000 in
set_option maxHeartbeats 2000000 in
theorem rof_any (s : ByteArray) (hs : s.size ≤ maxLen) {k : Bool} (hk : okP s = k) (w : World) : Calls Try.prog 12 #[.string s] w (DcPost w s (.bool k)) := by
  have HS := Lib.hid hs
  have HK := Lib.hid hk
  clear hs hk
  go_enter Try.func12, Try.ntmps12
  have hB0 := (Below.refl _ w).alloc (Nat.le_refl _) (.cells #[.bool false, .int .u64 0, .int .u64 0, .string ⟨#[]⟩] 24)
  have HB0 := Lib.hid hB0
  have HZ0 := Lib.hid (Blk.new w 24 #[.bool false, .int .u64 0, .int .u64 0, .string ⟨#[]⟩])
  clear hB0
  go_upto_region 1 with fail
  generalize w.alloc (.cells #[.bool false, .int .u64 0, .int .u64 0, .string ⟨#[]⟩] 24) = w1 at *
  generalize hQ0 : w.heap.size = Q at *
  have HQ0 := Lib.hid hQ0
  clear hQ0
  go_upto_region 2 with fail
  have HP2 : Hid (RR (w1.alloc (.cells #[.string s, .int .i64 0] 114)) w1.heap.size s 0) := Lib.hid ⟨Blk.new _ _ _, HS.out⟩
  have HB2 := Lib.hid (HB0.out.alloc (by have := HZ0.out.lt; omega) (.cells #[.string s, .int .i64 0] 114))
  have HZ2 := Lib.hid (HZ0.out.alloc (.cells #[.string s, .int .i64 0] 114))
  have HQR : Hid (Q ≠ w1.heap.size) := Lib.hid (by have := HZ0.out.lt; omega)
  have HRG : Hid (Q ≤ w1.heap.size) := Lib.hid (by have := HZ0.out.lt; omega)
  clear HB0 HZ0
  generalize w1.alloc (.cells #[.string s, .int .i64 0] 114) = w2 at *
  generalize w1.heap.size = b at *
  have HBO := Lib.hid (rq1 HP2.out)
  go_upto_region 3 with (first
    | (go_at_call 50; ((with_reducible refine Calls.mono HBO.out ?_); rintro e w3 ⟨rfl, hp3, ho3⟩; have HU1 := Lib.hid (rq2 hp3); have HZ3 := Lib.hid (HZ2.out.only ho3 HQR.out); have HB3 := Lib.hid (bo HB2.out HZ2.out.lt ho3 HRG.out); clear hp3 ho3))
    | (go_at_call 51; first
      | ((with_reducible refine Calls.mono HU2.out ?_); rintro e w6 ⟨rfl, hp6, ho6⟩; have HTX := Lib.hid (rq4 hp6); have HZ6 := Lib.hid (HZ5.out.only ho6 HQR.out); have HB6 := Lib.hid (bo HB5.out HZ5.out.lt ho6 HRG.out); clear hp6 ho6)
      | ((with_reducible refine Calls.mono HU1.out ?_); rintro e w5 ⟨rfl, hp5, ho5⟩; have HU2 := Lib.hid (rq3 hp5); have HZ5 := Lib.hid (HZ3.out.only ho5 HQR.out); have HB5 := Lib.hid (bo HB3.out HZ3.out.lt ho5 HRG.out); clear hp5 ho5))
    | (go_at_call 52; ((with_reducible refine Calls.mono HTX.out ?_); rintro e w8 ⟨rfl, hp8, ho8⟩; have HP8 := Lib.hid hp8; have HZ8 := Lib.hid (HZ6.out.only ho8 HQR.out); have HB8 := Lib.hid (bo HB6.out HZ6.out.lt ho8 HRG.out); clear hp8 ho8)))
  have HX9 := Lib.hid (Blk.new w8 24 #[.bool (q1V s), .int .u64 (q2V s), .int .u64 (q3V s), .string (q4V s)])
  have HP9 := Lib.hid (HP8.out.alloc (.cells #[.bool (q1V s), .int .u64 (q2V s), .int .u64 (q3V s), .string (q4V s)] 24))
  have HZ9 := Lib.hid (HZ8.out.alloc (.cells #[.bool (q1V s), .int .u64 (q2V s), .int .u64 (q3V s), .string (q4V s)] 24))
  have HB9 := Lib.hid (HB8.out.alloc (by have := HZ8.out.lt; omega) (.cells #[.bool (q1V s), .int .u64 (q2V s), .int .u64 (q3V s), .string (q4V s)] 24))
  have HXN : Hid (w8.heap.size ≠ b ∧ w8.heap.size ≠ Q ∧ Q ≤ w8.heap.size) := Lib.hid (by have := HP8.out.blk.lt; have := HZ8.out.lt; omega)
  clear HBO HU1 HU2 HTX HP2 HZ2 HB2 HZ3 HB3 HZ5 HB5 HZ6 HB6 HP8 HZ8 HB8
  generalize w8.alloc (.cells #[.bool (q1V s), .int .u64 (q2V s), .int .u64 (q3V s), .string (q4V s)] 24) = w9 at *
  generalize w8.heap.size = X at *
  have HEN := Lib.hid (rend_any HP9.out)
  have HMY := Lib.hid (fun W => rmay_any (pk s) W)
  by_cases hE : endE (q4S s) (q4E s) = 0
  · rw [hE] at HEN
    have hokm : okP s = mayP (pk s) := by unfold okP; rw [hE]; rfl
    cases hm : mayP (pk s) with
    | true =>
      rw [hm] at HMY hokm
      have HKK : Hid (k = true ∧ decP s = pk s) := Lib.hid ⟨by rw [← HK.out, hokm], by unfold decP; rw [hokm]; rfl⟩
      clear hE hm hokm
      have y0 : ∀ W, Blk W X 24 #[.bool (q1V s), .int .u64 (q2V s), .int .u64 (q3V s), .string (q4V s)] → W.cell? ⟨X, 0, none⟩ = some (.bool (q1V s)) ∧ W.cell? ⟨X, 1, none⟩ = some (.int .u64 (q2V s)) ∧ W.cell? ⟨X, 2, none⟩ = some (.int .u64 (q3V s)) ∧ W.cell? ⟨X, 3, none⟩ = some (.string (q4V s)) := fun W h => ⟨by rw [h.cell 0]; rfl, by rw [h.cell 1]; rfl, by rw [h.cell 2]; rfl, by rw [h.cell 3]; rfl⟩
      have HY0 := Lib.hid y0
      clear y0
      go_upto_region 5 with (first
        | (go_at_call 53; ((with_reducible refine Calls.mono HEN.out ?_); rintro e w10 ⟨rfl, _, ho10⟩; have HX10 := Lib.hid (HX9.out.only ho10 HXN.out.1); have HZ10 := Lib.hid (HZ9.out.only ho10 HQR.out); have HB10 := Lib.hid (bo HB9.out HZ9.out.lt ho10 HRG.out); obtain ⟨c0, c1, c2, c3⟩ := HY0.out _ HX10.out; have HMW : Hid (Calls Try.prog 13 #[.agg #[.bool (q1V s), .int .u64 (q2V s), .int .u64 (q3V s), .string (q4V s)]] w10 _) := Lib.hid (HMY.out w10); clear ho10))
        | (go_at_call 13; ((with_reducible refine Calls.mono HMW.out ?_); rintro e w11 ⟨rfl, hb11⟩; have HX11 := Lib.hid (HX10.out.below hb11); have HZ11 := Lib.hid (HZ10.out.below hb11); have HB11 := Lib.hid (HB10.out.trans (hb11.mono (by have := HZ10.out.lt; omega))); clear c0 c1 c2 c3; obtain ⟨c0, c1, c2, c3⟩ := HY0.out _ HX11.out; clear hb11)))
      have zc0 : (w11).cell? ⟨Q, 0, none⟩ = some (.bool false) := by rw [HZ11.out.cell 0]; rfl
      have zc1 : (w11).cell? ⟨Q, 1, none⟩ = some (.int .u64 0) := by rw [HZ11.out.cell 1]; rfl
      have zc2 : (w11).cell? ⟨Q, 2, none⟩ = some (.int .u64 0) := by rw [HZ11.out.cell 2]; rfl
      have zc3 : (w11).cell? ⟨Q, 3, none⟩ = some (.string ⟨#[]⟩) := by rw [HZ11.out.cell 3]; rfl
      have zcf := HZ11.out.frozen
      go_wp2_with fail
      rw [HKK.out.1]
      exact ret_pair (cs := pcells (pk s)) (T := 24) rfl rfl rfl ((((HZ11.out.set 0 _).set 1 _).set 2 _).set 3 _) Try.underlying24 rfl (by kernel_rfl) rfl ⟨by rw [HKK.out.2]; rfl, by rw [HQ0.out]; exact bo HB11.out HZ11.out.lt ((((((Only.refl (· = Q) w11).set1 (o := 0)).set1 (o := 1)).set1 (o := 2)).set1 (o := 3))) (Nat.le_refl _)⟩
    | false =>
      rw [hm] at HMY hokm
      have HKK : Hid (k = false ∧ decP s = p0) := Lib.hid ⟨by rw [← HK.out, hokm], by unfold decP; rw [hokm]; rfl⟩
      clear hE hm hokm
      have y0 : ∀ W, Blk W X 24 #[.bool (q1V s), .int .u64 (q2V s), .int .u64 (q3V s), .string (q4V s)] → W.cell? ⟨X, 0, none⟩ = some (.bool (q1V s)) ∧ W.cell? ⟨X, 1, none⟩ = some (.int .u64 (q2V s)) ∧ W.cell? ⟨X, 2, none⟩ = some (.int .u64 (q3V s)) ∧ W.cell? ⟨X, 3, none⟩ = some (.string (q4V s)) := fun W h => ⟨by rw [h.cell 0]; rfl, by rw [h.cell 1]; rfl, by rw [h.cell 2]; rfl, by rw [h.cell 3]; rfl⟩
      have HY0 := Lib.hid y0
      clear y0
      go_upto_region 4 with (first
        | (go_at_call 53; ((with_reducible refine Calls.mono HEN.out ?_); rintro e w10 ⟨rfl, _, ho10⟩; have HX10 := Lib.hid (HX9.out.only ho10 HXN.out.1); have HZ10 := Lib.hid (HZ9.out.only ho10 HQR.out); have HB10 := Lib.hid (bo HB9.out HZ9.out.lt ho10 HRG.out); obtain ⟨c0, c1, c2, c3⟩ := HY0.out _ HX10.out; have HMW : Hid (Calls Try.prog 13 #[.agg #[.bool (q1V s), .int .u64 (q2V s), .int .u64 (q3V s), .string (q4V s)]] w10 _) := Lib.hid (HMY.out w10); clear ho10))
        | (go_at_call 13; ((with_reducible refine Calls.mono HMW.out ?_); rintro e w11 ⟨rfl, hb11⟩; have HX11 := Lib.hid (HX10.out.below hb11); have HZ11 := Lib.hid (HZ10.out.below hb11); have HB11 := Lib.hid (HB10.out.trans (hb11.mono (by have := HZ10.out.lt; omega))); clear c0 c1 c2 c3; obtain ⟨c0, c1, c2, c3⟩ := HY0.out _ HX11.out; clear hb11)))
      have zc0 : (w11).cell? ⟨Q, 0, none⟩ = some (.bool false) := by rw [HZ11.out.cell 0]; rfl
      have zc1 : (w11).cell? ⟨Q, 1, none⟩ = some (.int .u64 0) := by rw [HZ11.out.cell 1]; rfl
      have zc2 : (w11).cell? ⟨Q, 2, none⟩ = some (.int .u64 0) := by rw [HZ11.out.cell 2]; rfl
      have zc3 : (w11).cell? ⟨Q, 3, none⟩ = some (.string ⟨#[]⟩) := by rw [HZ11.out.cell 3]; rfl
      have zcf := HZ11.out.frozen
      go_wp2_with fail
      rw [HKK.out.1]
      exact ret_pair (cs := pcells p0) (T := 24) rfl rfl rfl ((((HZ11.out.set 0 _).set 1 _).set 2 _).set 3 _) Try.underlying24 rfl (by kernel_rfl) rfl ⟨by rw [HKK.out.2]; rfl, by rw [HQ0.out]; exact bo HB11.out HZ11.out.lt ((((((Only.refl (· = Q) w11).set1 (o := 0)).set1 (o := 1)).set1 (o := 2)).set1 (o := 3))) (Nat.le_refl _)⟩
  · have HKK : Hid (k = false ∧ decP s = p0) := Lib.hid (by
      have : okP s = false := by unfold okP; rw [beq_false_of_ne hE]; rfl
      exact ⟨by rw [← HK.out, this], by unfold decP; rw [this]; rfl⟩)
    have hE' : (endE (q4S s) (q4E s) != 0) = true := by simpa using hE
    clear hE
    generalize endE (q4S s) (q4E s) = E at *
    go_upto_region 4 with (go_at_call 53; ((with_reducible refine Calls.mono HEN.out ?_); rintro e w11 ⟨rfl, _, ho10⟩; have HZ11 := Lib.hid (HZ9.out.only ho10 HQR.out); have HB11 := Lib.hid (bo HB9.out HZ9.out.lt ho10 HRG.out); clear ho10))
    have zc0 : (w11).cell? ⟨Q, 0, none⟩ = some (.bool false) := by rw [HZ11.out.cell 0]; rfl
    have zc1 : (w11).cell? ⟨Q, 1, none⟩ = some (.int .u64 0) := by rw [HZ11.out.cell 1]; rfl
    have zc2 : (w11).cell? ⟨Q, 2, none⟩ = some (.int .u64 0) := by rw [HZ11.out.cell 2]; rfl
    have zc3 : (w11).cell? ⟨Q, 3, none⟩ = some (.string ⟨#[]⟩) := by rw [HZ11.out.cell 3]; rfl
    have zcf := HZ11.out.frozen
    go_wp2_with fail
    rw [HKK.out.1]
    exact ret_pair (cs := pcells p0) (T := 24) rfl rfl rfl ((((HZ11.out.set 0 _).set 1 _).set 2 _).set 3 _) Try.underlying24 rfl (by kernel_rfl) rfl ⟨by rw [HKK.out.2]; rfl, by rw [HQ0.out]; exact bo HB11.out HZ11.out.lt ((((((Only.refl (· = Q) w11).set1 (o := 0)).set1 (o := 1)).set1 (o := 2)).set1 (o := 3))) (Nat.le_refl _)⟩
end Go.Proofs.Ytgdgonmhgpflcaa


/- Packets' bytes: the document's. No condition but that numbers fit their kind and a body is not too long. -/
namespace Go.Proofs.Ytgdgonmhgpflcaa
open Go.RowKit Wire Rp
set_option linter.unusedVariables false
set_option linter.unusedSimpArgs false
namespace Rp
/-- A packet's bytes. -/
def pkS (p : Pk) : ByteArray := boolS p.an ++ Num.lebS p.inc ++ Num.lebS p.seq ++ textS p.body
end Rp
def BsPost (w : World) (s : ByteArray) (e : Ending) (w' : World) : Prop := e = .returned (.string s) ∧ Below w.heap.size w w'
theorem bool_size (b : Bool) : (boolS b).size ≤ 10 := by unfold boolS; cases b <;> exact lebS_size (by decide)
theorem text_size {s : ByteArray} (h : s.size ≤ 1048576) : (textS s).size ≤ 1048600 := by
  unfold textS; rw [ByteArray.size_append]; have := lebS_size (x := (s.size : Int)) (by omega); omega
set_option maxRecDepth 100000 in
set_option maxHeartbeats 2000000 in
theorem rbytes_any (p : Pk) (h1 : U64 p.inc) (h2 : U64 p.seq) (hb : p.body.size ≤ 1048576) (w : World) : Calls Try.prog 14 #[pv p] w (BsPost w (pkS p)) := by
  obtain ⟨an, inc, sq, body⟩ := p
  unfold pkS pv pcells
  dsimp only at *
  have s1 := bool_size an
  have s2 := lebS_size h1.2
  have s3 := lebS_size h2.2
  have s4 := text_size hb
  have HX := Lib.hid (Blk.new w 24 #[.bool an, .int .u64 inc, .int .u64 sq, .string body])
  have HBX := Lib.hid ((Below.refl _ w).alloc (Nat.le_refl _) (.cells #[.bool an, .int .u64 inc, .int .u64 sq, .string body] 24))
  have HC1 := Lib.hid (fun W => rbool3_any an W)
  have HC2 := Lib.hid (fun W => ruint3_any inc h1 W)
  have HC3 := Lib.hid (fun W => ruint3_any sq h2 W)
  have HC4 := Lib.hid (fun W => rtext3_any body (by omega) W)
  clear h1 h2 hb
  generalize boolS an = B1 at *
  generalize Num.lebS inc = B2 at *
  generalize Num.lebS sq = B3 at *
  generalize textS body = B4 at *
  have t1 : (B1 ++ B2).size = B1.size + B2.size := ByteArray.size_append
  have t2 : (B1 ++ B2 ++ B3).size = B1.size + B2.size + B3.size := by rw [ByteArray.size_append, t1]
  have g1 : ¬ 9223372036854775807 < B1.size + B2.size := by omega
  have g2 : ¬ 9223372036854775807 < B1.size + B2.size + B3.size := by omega
  have g3 : ¬ 9223372036854775807 < B1.size + B2.size + B3.size + B4.size := by omega
  clear t1 t2 s1 s2 s3 s4
  go_enter Try.func14, Try.ntmps14
  go_upto_region 1 with fail
  generalize w.alloc (.cells #[.bool an, .int .u64 inc, .int .u64 sq, .string body] 24) = X at *
  generalize hq : w.heap.size = Q at *
  have HQ := Lib.hid hq
  clear hq
  have z0 : X.cell? ⟨Q, 0, none⟩ = some (.bool an) := by rw [HX.out.cell 0]; rfl
  have z1 : X.cell? ⟨Q, 1, none⟩ = some (.int .u64 inc) := by rw [HX.out.cell 1]; rfl
  have z2 : X.cell? ⟨Q, 2, none⟩ = some (.int .u64 sq) := by rw [HX.out.cell 2]; rfl
  have z3 : X.cell? ⟨Q, 3, none⟩ = some (.string body) := by rw [HX.out.cell 3]; rfl
  have HD1 := Lib.hid (HC1.out X.drew)
  have HXD := Lib.hid (show Blk X.drew Q 24 #[.bool an, .int .u64 inc, .int .u64 sq, .string body] from HX.out)
  have HBD := Lib.hid HBX.out.drew
  go_region_held3 (fun w' => w'.cell? ⟨Q, 0, none⟩ = some (.bool an) ∧ w'.cell? ⟨Q, 1, none⟩ = some (.int .u64 inc) ∧ w'.cell? ⟨Q, 2, none⟩ = some (.int .u64 sq) ∧ w'.cell? ⟨Q, 3, none⟩ = some (.string body)) (first | exact ⟨y0, y1, y2, y3⟩ | go_keep) (first
    | (refine step_call (by rfl) 54 #[.bool an] (by simp only [execOp]; go_simp) HD1.out (fun e w' h => ⟨_, h.1⟩) ?_; intro v5 w5 h5; obtain ⟨hv5, hw5⟩ := h5; injection hv5 with hv5; clear HD1; subst hv5 hw5; have HD2 := Lib.hid (HC2.out X.drew); have HX5 := Lib.hid HXD.out; have HB5 := Lib.hid HBD.out; have y0 : X.drew.cell? ⟨Q, 0, none⟩ = some (.bool an) := z0; have y1 : X.drew.cell? ⟨Q, 1, none⟩ = some (.int .u64 inc) := z1; have y2 : X.drew.cell? ⟨Q, 2, none⟩ = some (.int .u64 sq) := z2; have y3 : X.drew.cell? ⟨Q, 3, none⟩ = some (.string body) := z3)
    | (refine step_call (by rfl) 55 #[.int .u64 inc] (by simp only [execOp]; go_simp) HD2.out (fun e w' h => ⟨_, h.1⟩) ?_; intro v6 w6 h6; obtain ⟨hv6, hb6⟩ := h6; injection hv6 with hv6; clear HD2; subst hv6; have HD3 := Lib.hid (HC3.out w6); have HX6 := Lib.hid (HX5.out.below hb6); have HB6 := Lib.hid (HB5.out.trans (hb6.mono (by have := HX5.out.lt; omega))); clear y0 y1 y2 y3 hb6; have y0 : w6.cell? ⟨Q, 0, none⟩ = some (.bool an) := (by rw [HX6.out.cell 0]; rfl); have y1 : w6.cell? ⟨Q, 1, none⟩ = some (.int .u64 inc) := (by rw [HX6.out.cell 1]; rfl); have y2 : w6.cell? ⟨Q, 2, none⟩ = some (.int .u64 sq) := (by rw [HX6.out.cell 2]; rfl); have y3 : w6.cell? ⟨Q, 3, none⟩ = some (.string body) := (by rw [HX6.out.cell 3]; rfl))
    | (refine step_call (by rfl) 55 #[.int .u64 sq] (by simp only [execOp]; go_simp) HD3.out (fun e w' h => ⟨_, h.1⟩) ?_; intro v7 w7 h7; obtain ⟨hv7, hb7⟩ := h7; injection hv7 with hv7; clear HD3; subst hv7; have HD4 := Lib.hid (HC4.out w7); have HX7 := Lib.hid (HX6.out.below hb7); have HB7 := Lib.hid (HB6.out.trans (hb7.mono (by have := HX6.out.lt; omega))); clear y0 y1 y2 y3 hb7; have y0 : w7.cell? ⟨Q, 0, none⟩ = some (.bool an) := (by rw [HX7.out.cell 0]; rfl); have y1 : w7.cell? ⟨Q, 1, none⟩ = some (.int .u64 inc) := (by rw [HX7.out.cell 1]; rfl); have y2 : w7.cell? ⟨Q, 2, none⟩ = some (.int .u64 sq) := (by rw [HX7.out.cell 2]; rfl); have y3 : w7.cell? ⟨Q, 3, none⟩ = some (.string body) := (by rw [HX7.out.cell 3]; rfl))
    | (refine step_call (by rfl) 56 #[.string body] (by simp only [execOp]; go_simp) HD4.out (fun e w' h => ⟨_, h.1⟩) ?_; intro v8 w8 h8; obtain ⟨hv8, hb8⟩ := h8; injection hv8 with hv8; clear HD4; subst hv8; have HX8 := Lib.hid (HX7.out.below hb8); have HB8 := Lib.hid (HB7.out.trans (hb8.mono (by have := HX7.out.lt; omega))); clear y0 y1 y2 y3 hb8; have y0 : w8.cell? ⟨Q, 0, none⟩ = some (.bool an) := (by rw [HX8.out.cell 0]; rfl); have y1 : w8.cell? ⟨Q, 1, none⟩ = some (.int .u64 inc) := (by rw [HX8.out.cell 1]; rfl); have y2 : w8.cell? ⟨Q, 2, none⟩ = some (.int .u64 sq) := (by rw [HX8.out.cell 2]; rfl); have y3 : w8.cell? ⟨Q, 3, none⟩ = some (.string body) := (by rw [HX8.out.cell 3]; rfl)))
  go_wp2_with fail
  go_ret
  exact ⟨rfl, by rw [HQ.out]; exact HB8.out⟩
end Go.Proofs.Ytgdgonmhgpflcaa


/- A packet that may be is read of its bytes as itself: plain law, with no program in sight. No condition. -/
namespace Go.Proofs.Ytgdgonmhgpflcaa
open Go.RowKit Wire Rp
set_option linter.unusedVariables false
set_option linter.unusedSimpArgs false
namespace Rp
theorem toLs (s : ByteArray) : s.data.toList.length = s.size := by simp
theorem tl_lst (s : ByteArray) (n : Nat) : (tl s n).data.toList = s.data.toList.drop n := by
  unfold tl
  have : (s.extract n s.size).data.toList = (s.data.toList.take (n + (s.size - n))).drop n := by simp [List.take_drop]
  rw [this, List.take_of_length_le (by rw [toLs]; omega)]
theorem rd_ok1 {s : ByteArray} {x : Nat} {R : List UInt8} (hx : x < 18446744073709551616) (h : s.data.toList = Num.leb x ++ R) : rdS s = (x, (Num.leb x).length, 0) := by
  unfold rdS; rw [h]; exact Num.rd_leb x hx R
theorem num_step {s : ByteArray} {x : Nat} {R : List UInt8} (hx : x < 18446744073709551616) (h : s.data.toList = Num.leb x ++ R) {c : Int} (hc : c = 0) :
    numV s 0 c = (x : Int) ∧ numE s 0 c = 0 ∧ (numS s 0 c).data.toList = R := by
  subst hc
  have hr := rd_ok1 hx h
  have h0 : (rdS s).2.2 = 0 := by rw [hr]
  refine ⟨by unfold numV; rw [if_pos ⟨rfl, h0, rfl⟩, hr], by unfold numE; rw [if_pos rfl, if_pos h0], ?_⟩
  unfold numS
  rw [if_pos ⟨rfl, h0, rfl⟩, hr, tl_lst, h]
  simp
theorem ba_ext {s t : ByteArray} (h : s.data.toList = t.data.toList) : s = t := ByteArray.ext (Array.toList_inj.1 h)
theorem text_step {s t : ByteArray} {R : List UInt8} (ht : t.size ≤ 8192) (h : s.data.toList = Num.leb t.size ++ (t.data.toList ++ R)) :
    txV s 0 8192 = t ∧ txE s 0 8192 = 0 ∧ (txS s 0 8192).data.toList = R := by
  have hr := rd_ok1 (x := t.size) (by omega) h
  have hsz : s.size = (Num.leb t.size).length + (t.size + R.length) := by
    have := congrArg List.length h
    rw [toLs, List.length_append, List.length_append, toLs] at this
    exact this
  have hC : cC s 8192 = 0 := by
    have hxI : xI s = t.size := by unfold xI; rw [hr]
    have hnI : nI s = ((Num.leb t.size).length : Nat) := by unfold nI; rw [hr]
    unfold cC cntC
    rw [hxI, hnI, if_neg (by omega), if_neg (by omega)]
  obtain ⟨h1, h2, h3⟩ := num_step (x := t.size) (by omega) h hC
  have e1 : (numS s 0 (cC s 8192)).data.toList.take t.size = t.data.toList := by rw [h3, List.take_append_of_le_length (by rw [toLs]; exact Nat.le_refl _), List.take_of_length_le (by rw [toLs]; exact Nat.le_refl _)]
  refine ⟨?_, h2, ?_⟩
  · apply ba_ext
    unfold txV
    rw [h1, Int.toNat_natCast]
    have : ((numS s 0 (cC s 8192)).extract 0 t.size).data.toList = (numS s 0 (cC s 8192)).data.toList.take t.size := by simp
    rw [this, e1]
  · unfold txS
    rw [if_pos h2, h1, Int.toNat_natCast, tl_lst, h3, List.drop_append, List.drop_eq_nil_of_le (by rw [toLs]; exact Nat.le_refl _), toLs]
    simp
theorem leb_list (x : Int) : (Num.lebS x).data.toList = Num.leb x.toNat := by unfold Num.lebS; simp
theorem app_list (a b : ByteArray) : (a ++ b).data.toList = a.data.toList ++ b.data.toList := by rw [ByteArray.data_append]; simp
theorem dec_enc {p : Pk} (h : mayP p = true) : okP (pkS p) = true ∧ decP (pkS p) = p := by
  have hm := h
  unfold mayP at h
  simp only [Bool.and_eq_true, decide_eq_true_eq] at h
  obtain ⟨h1, h2, h3, h4, h5⟩ := h
  obtain ⟨an, inc, sq, body⟩ := p
  dsimp only at h1 h2 h3 h4 h5
  have hl : (pkS ⟨an, inc, sq, body⟩).data.toList = Num.leb (if an = true then 1 else 0 : Int).toNat ++ (Num.leb inc.toNat ++ (Num.leb sq.toNat ++ (Num.leb body.size ++ (body.data.toList ++ [])))) := by
    unfold pkS boolS textS
    dsimp only
    rw [app_list, app_list, app_list, app_list, leb_list, leb_list, leb_list, leb_list]
    simp
  generalize pkS ⟨an, inc, sq, body⟩ = s at *
  have hb : bC s = 0 := by
    have hr := rd_ok1 (x := (if an = true then 1 else 0 : Int).toNat) (by cases an <;> decide) hl
    unfold bC tC
    have hx : xI s = (((if an = true then 1 else 0 : Int).toNat : Nat) : Int) := by unfold xI; rw [hr]
    rw [hx]
    cases an <;> rfl
  obtain ⟨a1, a2, a3⟩ := num_step (x := (if an = true then 1 else 0 : Int).toNat) (by cases an <;> decide) hl hb
  have b1 : q1V s = an := by unfold q1V; rw [a1]; cases an <;> rfl
  have b2 : q1E s = 0 := a2
  have b3 : (q1S s).data.toList = Num.leb inc.toNat ++ (Num.leb sq.toNat ++ (Num.leb body.size ++ (body.data.toList ++ []))) := a3
  have hu : uC (q1S s) 4611686018427387904 = 0 := by
    have hr := rd_ok1 (x := inc.toNat) (by omega) b3
    unfold uC xI; rw [hr, if_neg (by dsimp only; omega)]
  obtain ⟨c1, c2, c3⟩ := num_step (x := inc.toNat) (by omega) b3 hu
  have d1 : q2V s = inc := by unfold q2V; rw [b2, c1]; omega
  have d2 : q2E s = 0 := by unfold q2E; rw [b2]; exact c2
  have d3 : (q2S s).data.toList = Num.leb sq.toNat ++ (Num.leb body.size ++ (body.data.toList ++ [])) := by unfold q2S; rw [b2]; exact c3
  have hv : uC (q2S s) 4611686018427387904 = 0 := by
    have hr := rd_ok1 (x := sq.toNat) (by omega) d3
    unfold uC xI; rw [hr, if_neg (by dsimp only; omega)]
  obtain ⟨e1, e2, e3⟩ := num_step (x := sq.toNat) (by omega) d3 hv
  have f1 : q3V s = sq := by unfold q3V; rw [d2, e1]; omega
  have f2 : q3E s = 0 := by unfold q3E; rw [d2]; exact e2
  have f3 : (q3S s).data.toList = Num.leb body.size ++ (body.data.toList ++ []) := by unfold q3S; rw [d2]; exact e3
  obtain ⟨g1, g2, g3⟩ := text_step (by omega) f3
  have i1 : q4V s = body := by unfold q4V; rw [f2]; exact g1
  have i2 : q4E s = 0 := by unfold q4E; rw [f2]; exact g2
  have i3 : (q4S s).data.toList = [] := by unfold q4S; rw [f2]; exact g3
  have hpk : pk s = ⟨an, inc, sq, body⟩ := by unfold pk; rw [b1, d1, f1, i1]
  have hok : okP s = true := by
    unfold okP
    rw [hpk, hm, i2]
    have hz : (q4S s).size = 0 := by rw [← toLs, i3]; rfl
    unfold endE
    rw [if_neg (by rw [hz]; simp)]
    rfl
  exact ⟨hok, by unfold decP; rw [if_pos hok, hpk]⟩
end Rp
end Go.Proofs.Ytgdgonmhgpflcaa


/- More steps of the theorem on regions that draw their order: operations on two slots, calls that only make memory, guards. No condition. -/
namespace Go.Proofs.Ytgdgonmhgpflcaa
namespace Reg
open Go.RowKit
set_option linter.unusedVariables false
section
variable {P : Program} {ops : Array Oper} {I : World → Prop} {a0 : Act} {R : Act → World → Prop} {o : Oper} {rest : List Oper} {K : List (Option Tmp × Spec)} {Gs : List (World → World → Prop)} {Js : List (World → Prop)} {w0 : World}
/-- An operation on two slots. -/
theorem rely_two (s t : Tmp) (u v c : Value) (hg : o.guard = none) (hop : o.op.operands = #[.tmp s, .tmp t]) (hu : ∀ x w, Fact K a0 s x w → x = u) (hv : ∀ x w, Fact K a0 t x w → x = v)
    (hrun : ∀ (ρ : Operand → Value) w, ρ (.tmp s) = u → ρ (.tmp t) = v → I w → (execOp ρ o).run P w = .ok (.value c) w)
    (hr : Rely P ops I w0 a0 R rest ((o.dst, Is c) :: K) Gs Js) : Rely P ops I w0 a0 R (o :: rest) K Gs Js :=
  rely_is c (fun a w hI hF => det_plain hg (hrun _ w (hu _ w (hF s (looksN hop (by simp)))) (hv _ w (hF t (looksN hop (by simp)))) hI)) hr
/-- A call that only makes memory. -/
theorem rely_mk (c : Value) (f : FuncId) (args : Array Value) (hg : o.guard = none)
    (hrun : ∀ (a : Act) (w : World), I w → (∀ t ∈ o.looksAt ops, Fact K a0 t (a.tmps.getD t undef) w) → (execOp a.eval o).run P w = .ok (.enter f args) w)
    (hc : ∀ w, I w → Calls P f args w fun e w' => e = .returned c ∧ Below w.heap.size w w')
    (hr : Rely P ops I w0 a0 R rest ((o.dst, Is c) :: K) Gs Js) : Rely P ops I w0 a0 R (o :: rest) K Gs Js := by
  refine rely_rel (Is c) (stab_is c _) (fun G _ => stab_is c G) hg (fun a w hi hF => ?_) hr
  unfold Oper.wp
  rw [hrun a w hi hF]
  simp only [Oper.upon]
  refine (hc w hi).mono fun e w' ⟨he, hb⟩ => ?_
  subst he
  exact ⟨c, rfl, rfl, hb⟩
theorem wanted_true {a : Act} {j : Nat} {g : Tmp} (hg : o.guard = some (j, true)) (hd : ((ops[j]?).bind (·.dst)) = some g) (hv : a.tmps.getD g undef = .bool true) : Region.wanted o (yielded ops a.tmps) = true := by
  unfold Region.wanted
  rw [hg]
  simp only [yielded, hd, Option.bind_some]
  rw [Array.getD_eq_getD_getElem?] at hv
  cases h : a.tmps[g]? with
  | none => rw [h] at hv; cases hv
  | some v => rw [h] at hv; simp only [Option.getD_some] at hv; subst hv; rfl
theorem looksG {j : Nat} {b : Bool} {g : Tmp} (hg : o.guard = some (j, b)) (hd : ((ops[j]?).bind (·.dst)) = some g) : g ∈ o.looksAt ops := by
  unfold Oper.looksAt
  rw [hg]
  simp [hd]
theorem rely_plain (c : Value) (hg : o.guard = none)
    (hrun : ∀ (a : Act) (w : World), I w → (∀ t ∈ o.looksAt ops, Fact K a0 t (a.tmps.getD t undef) w) → (execOp a.eval o).run P w = .ok (.value c) w)
    (hr : Rely P ops I w0 a0 R rest ((o.dst, Is c) :: K) Gs Js) : Rely P ops I w0 a0 R (o :: rest) K Gs Js :=
  rely_is c (fun a w hI hF => det_plain hg (hrun a w hI hF)) hr
/-- One under a guard that holds. -/
theorem rely_isg (c : Value) (j : Nat) (g : Tmp) (hg : o.guard = some (j, true)) (hd : ((ops[j]?).bind (·.dst)) = some g) (hgf : ∀ v w, Fact K a0 g v w → v = .bool true)
    (hrun : ∀ (a : Act) (w : World), I w → (∀ t ∈ o.looksAt ops, Fact K a0 t (a.tmps.getD t undef) w) → (execOp a.eval o).run P w = .ok (.value c) w)
    (hr : Rely P ops I w0 a0 R rest ((o.dst, Is c) :: K) Gs Js) : Rely P ops I w0 a0 R (o :: rest) K Gs Js :=
  rely_is c (fun a w hI hF => .inl ⟨wanted_true hg hd (hgf _ w (hF g (looksG hg hd))), hrun a w hI hF⟩) hr
/-- One that makes memory, under a guard that holds. -/
theorem rely_relg (S : Spec) (hS : Stab S Grow) (hG : ∀ G ∈ Gs, Stab S G) (j : Nat) (g : Tmp) (hg : o.guard = some (j, true)) (hd : ((ops[j]?).bind (·.dst)) = some g) (hgf : ∀ v w, Fact K a0 g v w → v = .bool true)
    (h : ∀ a w, I w → (∀ t ∈ o.looksAt ops, Fact K a0 t (a.tmps.getD t undef) w) → o.wp P a w (fun a' w' => ∃ v, a' = a.put o.dst v ∧ S v w' ∧ Grow w w') (fun _ _ _ => False))
    (hr : Rely P ops I w0 a0 R rest ((o.dst, S) :: K) Gs Js) : Rely P ops I w0 a0 R (o :: rest) K Gs Js :=
  .inl ⟨S, hS, hG, fun a w hI _ hF => by rw [if_pos (wanted_true hg hd (hgf _ w (hF g (looksG hg hd))))]; exact h a w hI hF, hr⟩
/-- A call whose arguments may lie anywhere, under a guard that holds. -/
theorem rely_callg (S : Spec) (hS : Stab S Grow) (hG : ∀ G ∈ Gs, Stab S G) (j : Nat) (g : Tmp) (hg : o.guard = some (j, true)) (hd : ((ops[j]?).bind (·.dst)) = some g) (hgf : ∀ v w, Fact K a0 g v w → v = .bool true)
    (h : ∀ (a : Act) (w : World), I w → (∀ t ∈ o.looksAt ops, Fact K a0 t (a.tmps.getD t undef) w) → ∃ f args, (execOp a.eval o).run P w = .ok (.enter f args) w ∧ Calls P f args w fun e w' => ∃ v, e = .returned v ∧ S v w' ∧ Below w.heap.size w w')
    (hr : Rely P ops I w0 a0 R rest ((o.dst, S) :: K) Gs Js) : Rely P ops I w0 a0 R (o :: rest) K Gs Js := by
  refine rely_relg S hS hG j g hg hd hgf (fun a w hi hF => ?_) hr
  obtain ⟨f, args, hrun, hc⟩ := h a w hi hF
  unfold Oper.wp
  rw [hrun]
  simp only [Oper.upon]
  refine hc.mono fun e w' ⟨v, he, h1, h2⟩ => ?_
  subst he
  exact ⟨v, rfl, h1, h2⟩
end
end Reg
end Go.Proofs.Ytgdgonmhgpflcaa


/- The check of the theorem on regions that draw their order, reckoned so that great regions pass: an edge of its own is looked for first. No condition. -/
namespace Go.Proofs.Ytgdgonmhgpflcaa
namespace Reg
open Go.RowKit
set_option linter.unusedVariables false
def near (md : Region.Mode) (ops : Array Oper) (j i : Nat) : Bool :=
  match ops[i]? with
  | some o => o.after.any fun e => Region.binds md e && e.on == j
  | none => false
def aheadQ (md : Region.Mode) (ops : Array Oper) (j i : Nat) : Bool := near md ops j i || ahead md ops ops.size j i
theorem aheadQ_imp {md : Region.Mode} {ops : Array Oper} {j i : Nat} (h : aheadQ md ops j i = true) : ahead md ops ops.size j i = true := by
  unfold aheadQ at h
  rw [Bool.or_eq_true] at h
  rcases h with h | h
  · unfold near at h
    cases ho : ops[i]? with
    | none => rw [ho] at h; cases h
    | some o =>
      rw [ho] at h
      simp only at h
      have hlt : i < ops.size := (Array.getElem?_eq_some_iff.1 ho).1
      obtain ⟨k, hk⟩ : ∃ k, ops.size = k + 1 := ⟨ops.size - 1, by omega⟩
      rw [hk]
      unfold ahead
      rw [ho]
      simp only
      rw [Array.any_eq_true] at h ⊢
      obtain ⟨x, hx, h2⟩ := h
      refine ⟨x, hx, ?_⟩
      rw [Bool.and_eq_true] at h2 ⊢
      exact ⟨h2.1, by rw [h2.2]; rfl⟩
  · exact h
def readsOkQ (md : Region.Mode) (ops : Array Oper) (n : Nat) (i : Nat) : Bool :=
  match ops[i]? with
  | some oi => (oi.looksAt ops).all fun t => (List.range n).all fun j =>
    (match ops[j]? with | some oj => oj.dst != some t || (decide (j < i) && aheadQ md ops j i) || (decide (i < j) && aheadQ md ops i j) | none => true)
  | none => false
def relyOkQ (P : Program) (md : Region.Mode) (ops : Array Oper) (n m : Nat) : Bool :=
  textOk P md ops n && decide (n ≤ ops.size) && (List.range n).all fun i => readsOkQ md ops n i && distOk ops n i &&
    ((List.range ops.size).all fun t => decide (t < n) || aheadQ md ops i t) &&
    (match (ops[i]?).bind (·.dst) with | some d => decide (d < m) | none => true)
theorem relyOk_of {P : Program} {md : Region.Mode} {ops : Array Oper} {n m : Nat} (h : relyOkQ P md ops n m = true) : relyOk P md ops n m = true := by
  unfold relyOkQ at h
  unfold relyOk
  rw [Bool.and_eq_true] at h ⊢
  refine ⟨h.1, ?_⟩
  have h2 := h.2
  rw [List.all_eq_true] at h2 ⊢
  intro i hi
  have h3 := h2 i hi
  rw [Bool.and_eq_true, Bool.and_eq_true, Bool.and_eq_true] at h3 ⊢
  obtain ⟨⟨⟨a, b⟩, c⟩, d⟩ := h3
  refine ⟨⟨⟨?_, b⟩, ?_⟩, d⟩
  · unfold readsOkQ at a
    unfold readsOk
    cases ho : ops[i]? with
    | none => rw [ho] at a; cases a
    | some oi =>
      rw [ho] at a
      simp only at a ⊢
      rw [List.all_eq_true] at a ⊢
      intro t ht
      have a1 := a t ht
      rw [List.all_eq_true] at a1 ⊢
      intro j hj
      have a2 := a1 j hj
      cases hj2 : ops[j]? with
      | none => rfl
      | some oj =>
        rw [hj2] at a2
        simp only [Bool.or_eq_true, Bool.and_eq_true] at a2 ⊢
        rcases a2 with (a2 | a2) | a2
        · exact .inl (.inl a2)
        · exact .inl (.inr ⟨a2.1, aheadQ_imp a2.2⟩)
        · exact .inr ⟨a2.1, aheadQ_imp a2.2⟩
  · rw [List.all_eq_true] at c ⊢
    intro t ht
    have c1 := c t ht
    rw [Bool.or_eq_true] at c1 ⊢
    exact c1.imp id aheadQ_imp
end Reg
end Go.Proofs.Ytgdgonmhgpflcaa


/- More steps of the theorem on regions that draw their order: guards either way, calls without one. No condition. -/
namespace Go.Proofs.Ytgdgonmhgpflcaa
namespace Reg
open Go.RowKit
set_option linter.unusedVariables false
section
variable {P : Program} {ops : Array Oper} {I : World → Prop} {a0 : Act} {R : Act → World → Prop} {o : Oper} {rest : List Oper} {K : List (Option Tmp × Spec)} {Gs : List (World → World → Prop)} {Js : List (World → Prop)} {w0 : World}
theorem wanted_b {a : Act} {j : Nat} {g : Tmp} {b : Bool} (hg : o.guard = some (j, b)) (hd : ((ops[j]?).bind (·.dst)) = some g) (hv : a.tmps.getD g undef = .bool b) : Region.wanted o (yielded ops a.tmps) = true := by
  unfold Region.wanted
  rw [hg]
  simp only [yielded, hd, Option.bind_some]
  rw [Array.getD_eq_getD_getElem?] at hv
  cases h : a.tmps[g]? with
  | none => rw [h] at hv; cases hv
  | some v => rw [h] at hv; simp only [Option.getD_some] at hv; subst hv; cases b <;> rfl
/-- One under a guard that holds. -/
theorem rely_isb (c : Value) (j : Nat) (b : Bool) (g : Tmp) (hg : o.guard = some (j, b)) (hd : ((ops[j]?).bind (·.dst)) = some g) (hgf : ∀ v w, Fact K a0 g v w → v = .bool b)
    (hrun : ∀ (a : Act) (w : World), I w → (∀ t ∈ o.looksAt ops, Fact K a0 t (a.tmps.getD t undef) w) → (execOp a.eval o).run P w = .ok (.value c) w)
    (hr : Rely P ops I w0 a0 R rest ((o.dst, Is c) :: K) Gs Js) : Rely P ops I w0 a0 R (o :: rest) K Gs Js :=
  rely_is c (fun a w hI hF => .inl ⟨wanted_b hg hd (hgf _ w (hF g (looksG hg hd))), hrun a w hI hF⟩) hr
/-- A call whose arguments may lie anywhere, under a guard that holds. -/
theorem rely_callb (S : Spec) (hS : Stab S Grow) (hG : ∀ G ∈ Gs, Stab S G) (j : Nat) (b : Bool) (g : Tmp) (hg : o.guard = some (j, b)) (hd : ((ops[j]?).bind (·.dst)) = some g) (hgf : ∀ v w, Fact K a0 g v w → v = .bool b)
    (h : ∀ (a : Act) (w : World), I w → (∀ t ∈ o.looksAt ops, Fact K a0 t (a.tmps.getD t undef) w) → ∃ f args, (execOp a.eval o).run P w = .ok (.enter f args) w ∧ Calls P f args w fun e w' => ∃ v, e = .returned v ∧ S v w' ∧ Below w.heap.size w w')
    (hr : Rely P ops I w0 a0 R rest ((o.dst, S) :: K) Gs Js) : Rely P ops I w0 a0 R (o :: rest) K Gs Js := by
  refine .inl ⟨S, hS, hG, fun a w hI _ hF => ?_, hr⟩
  rw [if_pos (wanted_b hg hd (hgf _ w (hF g (looksG hg hd))))]
  obtain ⟨f, args, hrun, hc⟩ := h a w hI hF
  unfold Oper.wp
  rw [hrun]
  simp only [Oper.upon]
  refine hc.mono fun e w' ⟨v, he, h1, h2⟩ => ?_
  subst he
  exact ⟨v, rfl, h1, h2⟩
/-- .. without a guard. -/
theorem rely_call0 (S : Spec) (hS : Stab S Grow) (hG : ∀ G ∈ Gs, Stab S G) (hg : o.guard = none)
    (h : ∀ (a : Act) (w : World), I w → (∀ t ∈ o.looksAt ops, Fact K a0 t (a.tmps.getD t undef) w) → ∃ f args, (execOp a.eval o).run P w = .ok (.enter f args) w ∧ Calls P f args w fun e w' => ∃ v, e = .returned v ∧ S v w' ∧ Below w.heap.size w w')
    (hr : Rely P ops I w0 a0 R rest ((o.dst, S) :: K) Gs Js) : Rely P ops I w0 a0 R (o :: rest) K Gs Js := by
  refine rely_rel S hS hG hg (fun a w hi hF => ?_) hr
  obtain ⟨f, args, hrun, hc⟩ := h a w hi hF
  unfold Oper.wp
  rw [hrun]
  simp only [Oper.upon]
  refine hc.mono fun e w' ⟨v, he, h1, h2⟩ => ?_
  subst he
  exact ⟨v, rfl, h1, h2⟩
end
end Reg
end Go.Proofs.Ytgdgonmhgpflcaa
