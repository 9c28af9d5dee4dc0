import Derived.Test.YtgdgonmhgpflcaaMgj

/- The walk of the small run that each law asks ('works'). No condition. -/
namespace Go.Proofs.Ytgdgonmhgpflcaa
open Go.RowKit Go.Maps Wire Rp
set_option linter.unusedVariables false
set_option linter.unusedSimpArgs false
namespace Rp
def wP1 : Pk := ⟨false, 7, 1, ⟨#[97]⟩⟩
def wP2 : Pk := ⟨true, 7, 1, ⟨#[98]⟩⟩
def wT1 : ByteArray := pkS wP1
def wT2 : ByteArray := pkS wP2
def wS0 : St := ⟨7, 4, 16, 3, 0, [], [], []⟩
def wS1 : St := ⟨7, 4, 16, 3, 1, [⟨1, 2, ⟨#[97]⟩, 1, 4, 4⟩], [(2, wT1)], []⟩
def wS2 : St := ⟨7, 4, 16, 3, 1, [⟨1, 2, ⟨#[97]⟩, 1, 4, 4⟩], [], []⟩
def wS3 : St := ⟨7, 4, 16, 3, 1, [⟨1, 2, ⟨#[97]⟩, 2, 12, 8⟩], [(2, wT1)], []⟩
def wS4 : St := ⟨7, 4, 16, 3, 1, [⟨1, 2, ⟨#[97]⟩, 2, 12, 8⟩], [], []⟩
def wS5 : St := ⟨7, 4, 16, 3, 1, [], [], [⟨1, 2, ⟨#[98]⟩, 0⟩]⟩
def wS6 : St := ⟨7, 4, 16, 3, 1, [], [], []⟩
def wD1 : List Pe := [⟨1, 7, 0, [⟨1, false, ⟨#[]⟩⟩]⟩]
def wD2 : List Pe := [⟨1, 7, 0, [⟨1, true, ⟨#[98]⟩⟩]⟩]
theorem fw1 : callS wS0 2 ⟨#[97]⟩ 0 = (1, 0, wS1) := by kernel_rfl
theorem fw2 : tickS wS2 3 = (0, wS2) := by kernel_rfl
theorem fw3 : tickS wS2 4 = (0, wS3) := by kernel_rfl
theorem fw4 : takeS wS4 2 wP2 = (true, 0, wS5) := by kernel_rfl
theorem fw5 : takeD [] 1 wP1 = ((1, ⟨#[]⟩, 0), wD1) := by kernel_rfl
theorem fw6 : takeD wD1 1 wP1 = ((3, ⟨#[]⟩, 0), wD1) := by kernel_rfl
theorem fw7 : ansD wD1 1 7 1 ⟨#[98]⟩ = ((wT2, 0), wD2) := by kernel_rfl
theorem fw8 : takeD wD2 1 wP1 = ((2, wT2, 0), wD2) := by kernel_rfl
theorem fw9 : incD wD2 1 = 7 := by kernel_rfl
theorem wo1 : okP wT1 = true := by kernel_rfl
theorem wo2 : okP wT2 = true := by kernel_rfl
theorem wd1 : decP wT1 = wP1 := by kernel_rfl
theorem wd2 : decP wT2 = wP2 := by kernel_rfl
theorem ws1 : wT1.size ≤ maxLen := of_decide_eq_true (by kernel_rfl)
theorem ws2 : wT2.size ≤ maxLen := of_decide_eq_true (by kernel_rfl)
end Rp
theorem kpC_due {bd bo : Nat} {w w' : World} (k : KpC bd bo w w') {g : Nat} {A : Array Value} (h : Blk w g 101 A) (hg : g < bd) : Blk w' g 101 A := k.2 _ _ _ h (by decide) (by decide) (fun _ => hg) (fun e => absurd e (by decide))
theorem kpC_pk {bd bo : Nat} {w w' : World} (k : KpC bd bo w w') {g : Nat} {A : Array Value} (h : Blk w g 24 A) : Blk w' g 24 A := k.2 _ _ _ h (by decide) (by decide) (fun e => absurd e (by decide)) (fun e => absurd e (by decide))
theorem kpD_pk {w w' : World} (k : KpD w w') {g : Nat} {A : Array Value} (h : Blk w g 24 A) : Blk w' g 24 A := k.2 _ _ _ h (by decide)
theorem dec1 (w : World) : Calls Try.prog 11 #[.string wT1] w fun e w' => e = .returned (.tuple #[.agg #[.bool false, .int .u64 7, .int .u64 1, .string ⟨#[97]⟩], .int .i64 0]) ∧ Below w.heap.size w w' :=
  (pdec_any wT1 ws1 (k := 0) (by rw [wo1]; rfl) w).mono fun e w' h => by unfold DcPost at h; rw [wd1] at h; exact h
theorem dec2 (w : World) : Calls Try.prog 11 #[.string wT2] w fun e w' => e = .returned (.tuple #[.agg #[.bool true, .int .u64 7, .int .u64 1, .string ⟨#[98]⟩], .int .i64 0]) ∧ Below w.heap.size w w' :=
  (pdec_any wT2 ws2 (k := 0) (by rw [wo2]; rfl) w).mono fun e w' h => by unfold DcPost at h; rw [wd2] at h; exact h
set_option maxRecDepth 100000 in
set_option maxHeartbeats 8000000 in
theorem works_t (w0 : World) : Calls Try.prog 9 #[] w0 fun e w' => e = .returned (.bool true) ∧ Below w0.heap.size w0 w' := by
  have HN1 := Lib.hid (newc_any (inc := 7) (wait := 4) (most := 16) (tries := 3) (by kernel_rfl) w0 (Nat.le_refl _))
  go_enter Try.func9, Try.ntmps9
  go_upto_region 2 with (go_at_call 29; go_loud ((with_reducible refine HN1.out.mono ?_); rintro e w1 ⟨b, h, rfl, hc, hb⟩; have H1 := Lib.hid (show NewCPost w0 w0.heap.size wS0 (.returned (.tuple #[.pointer (some ⟨b, 0, none⟩), .int .i64 0])) w1 from ⟨b, h, rfl, hc, hb⟩); have HN2 := Lib.hid (newd_any w1 (B0 := w0.heap.size) hb.size); clear hc hb h))
  go_upto_region 5 with (go_at_call 15; go_loud ((with_reducible refine HN2.out.mono ?_); rintro e w2 ⟨cx, hx, rfl, hd⟩; have HD := Lib.hid (duo_new H1.out (show NewDPost w1 w0.heap.size (.returned (.pointer (some ⟨cx, 0, none⟩))) w2 from ⟨cx, hx, rfl, hd⟩)); clear hd hx))
  obtain ⟨h, hx, hd⟩ := HD.out
  have HD0 := Lib.hid hd
  clear hd HD H1 HN1 HN2
  go_upto_region 6 with (go_at_call 30; go_loud ((with_reducible refine Calls.mono (duo_call HD0.out (by decide) (by decide) fw1) ?_); rintro e w3 ⟨rfl, Bq, vdq, voq, _, hd, hk⟩; have HD := Lib.hid hd; have HK := Lib.hid hk; clear hd hk))
  have HD3 := HD
  clear HD HK HD0
  go_upto_region 7 with (go_at_call 31; go_loud ((with_reducible refine Calls.mono (duo_due HD3.out) ?_); rintro e w4 ⟨rfl, hrow, hlt, Bq, vdq, voq, rfl, hd, hk⟩; have HD := Lib.hid hd; have HK := Lib.hid hk; have HR := Lib.hid hrow; have HLT := Lib.hid hlt; clear hd hk hrow hlt))
  obtain ⟨ga, ca, curA, rfl, _, ba, hca⟩ := owns_blk HR.out (by decide)
  rw [show wS1.du.length = 1 from rfl]
  have HA := Lib.hid (And.intro ba (HLT.out ga rfl))
  have ca0 : curA[0]? = some (.int .i64 2) := hca 0 (by decide)
  have ca1 : curA[1]? = some (.string wT1) := hca 1 (by decide)
  have HCA := Lib.hid (And.intro ca0 ca1)
  have HD4 := HD
  clear HD HK HD3 HR HLT ba hca ca0 ca1
  dsimp only [wS1] at HD4
  go_upto_region 8 with (go_at_call 28; go_loud ((with_reducible refine Calls.mono (duo_tick HD4.out (st := wS2) (by decide) fw2) ?_); rintro e w5 ⟨rfl, Bq, vdq, voq, _, hd, hk⟩; have HD := Lib.hid hd; have HK := Lib.hid hk; clear hd hk))
  have HA5 := Lib.hid (And.intro (kpC_due HK.out HA.out.1 HA.out.2) HA.out.2)
  have HD5 := HD
  clear HD HK HD4 HA
  go_upto_region 9 with (go_at_call 31; go_loud ((with_reducible refine Calls.mono (duo_due HD5.out) ?_); rintro e w6 ⟨rfl, hrow, hlt, Bq, vdq, voq, rfl, hd, hk⟩; have HD := Lib.hid hd; have HK := Lib.hid hk; have HR := Lib.hid hrow; have HLT := Lib.hid hlt; clear hd hk hrow hlt))
  obtain ⟨pb, cb, rfl⟩ := owns_slice HR.out
  have HA6 := Lib.hid (And.intro (kpC_due HK.out HA5.out.1 HA5.out.2) (Nat.lt_of_lt_of_le HA5.out.2 HD5.out.cw.sz.1))
  have HD6 := HD
  clear HD HK HD5 HA5 HR HLT
  rw [show wS2.du.length = 0 from rfl]
  go_upto_region 10 with (go_at_call 28; go_loud ((with_reducible refine Calls.mono (duo_tick HD6.out (st := wS2) (by decide) fw3) ?_); rintro e w7 ⟨rfl, Bq, vdq, voq, _, hd, hk⟩; have HD := Lib.hid hd; have HK := Lib.hid hk; clear hd hk))
  have HA7 := Lib.hid (And.intro (kpC_due HK.out HA6.out.1 HA6.out.2) HA6.out.2)
  have HD7 := HD
  clear HD HK HD6 HA6
  go_upto_region 11 with (go_at_call 31; go_loud ((with_reducible refine Calls.mono (duo_due HD7.out) ?_); rintro e w8 ⟨rfl, hrow, hlt, Bq, vdq, voq, rfl, hd, hk⟩; have HD := Lib.hid hd; have HK := Lib.hid hk; have HR := Lib.hid hrow; have HLT := Lib.hid hlt; clear hd hk hrow hlt))
  obtain ⟨gd, cd, curD, rfl, _, bd, hcd⟩ := owns_blk HR.out (by decide)
  rw [show wS3.du.length = 1 from rfl]
  have ba := kpC_due HK.out HA7.out.1 HA7.out.2
  have a0 : w8.cell? ⟨ga, 0, none⟩ = some (.int .i64 2) := by rw [ba.cell 0]; exact HCA.out.1
  have a1 : w8.cell? ⟨ga, 1, none⟩ = some (.string wT1) := by rw [ba.cell 1]; exact HCA.out.2
  have d0 : w8.cell? ⟨gd, 0, none⟩ = some (.int .i64 2) := by rw [bd.cell 0]; exact hcd 0 (by decide)
  have d1 : w8.cell? ⟨gd, 1, none⟩ = some (.string wT1) := by rw [bd.cell 1]; exact hcd 1 (by decide)
  have HD8 := HD
  clear HD HK HD7 HA7 HR HLT hcd bd HCA ba
  dsimp only [wS3] at HD8
  go_quiet (fail)
  have HD9 := Lib.hid (HD8.out.below (drewN_below' _ nq))
  have a1 : (w8.drewN nq).cell? ⟨ga, 1, none⟩ = some (.string wT1) := a1
  clear a0 d0 d1 HD8
  generalize w8.drewN nq = w9 at *
  have HE1 := Lib.hid (dec1 w9)
  go_upto_region 14 with (go_at_call 11; go_loud ((with_reducible refine HE1.out.mono ?_); rintro e w10 ⟨rfl, hb⟩; have HB := Lib.hid hb; clear hb))
  have HD10 := Lib.hid ((HD9.out.below HB.out).alloc (.cells #[.bool false, .int .u64 7, .int .u64 1, .string ⟨#[97]⟩] 24))
  have HP10 := Lib.hid (Blk.new w10 24 #[.bool false, .int .u64 7, .int .u64 1, .string ⟨#[97]⟩])
  clear HE1 HD9 HB a1
  generalize w10.alloc (.cells #[.bool false, .int .u64 7, .int .u64 1, .string ⟨#[97]⟩] 24) = w11 at *
  generalize w10.heap.size = X1 at *
  have x0 : w11.cell? ⟨X1, 0, none⟩ = some (.bool false) := by rw [HP10.out.cell 0]; rfl
  have x1 : w11.cell? ⟨X1, 1, none⟩ = some (.int .u64 7) := by rw [HP10.out.cell 1]; rfl
  have x2 : w11.cell? ⟨X1, 2, none⟩ = some (.int .u64 1) := by rw [HP10.out.cell 2]; rfl
  have x3 : w11.cell? ⟨X1, 3, none⟩ = some (.string ⟨#[97]⟩) := by rw [HP10.out.cell 3]; rfl
  have HT := Lib.hid (duo_dtake HD10.out (p := wP1) (fr := 1) ⟨by unfold U64; decide, by unfold I64; decide⟩ (by decide) fw5)
  unfold pv pcells wP1 at HT
  dsimp only at HT
  go_upto_region 15 with (go_at_call 18; go_loud ((with_reducible refine Calls.mono HT.out ?_); rintro e w12 ⟨rfl, Bpq, Mpq, hd, hk⟩; have HD := Lib.hid hd; have HK := Lib.hid hk; clear hd hk))
  have HP12 := Lib.hid (kpD_pk HK.out HP10.out)
  have HD12 := HD
  clear HD HK HD10 HP10 HT x0 x1 x2 x3
  have x0 : w12.cell? ⟨X1, 0, none⟩ = some (.bool false) := by rw [HP12.out.cell 0]; rfl
  have x1 : w12.cell? ⟨X1, 1, none⟩ = some (.int .u64 7) := by rw [HP12.out.cell 1]; rfl
  have x2 : w12.cell? ⟨X1, 2, none⟩ = some (.int .u64 1) := by rw [HP12.out.cell 2]; rfl
  have x3 : w12.cell? ⟨X1, 3, none⟩ = some (.string ⟨#[97]⟩) := by rw [HP12.out.cell 3]; rfl
  have HT := Lib.hid (duo_dtake HD12.out (p := wP1) (fr := 1) ⟨by unfold U64; decide, by unfold I64; decide⟩ (by decide) fw6)
  unfold pv pcells wP1 at HT
  dsimp only at HT
  go_upto_region 16 with (go_at_call 18; go_loud ((with_reducible refine Calls.mono HT.out ?_); rintro e w13 ⟨rfl, Bpq, Mpq, hd, hk⟩; have HD := Lib.hid hd; have HK := Lib.hid hk; clear hd hk))
  have HP13 := Lib.hid (kpD_pk HK.out HP12.out)
  have HD13 := HD
  clear HD HK HD12 HP12 HT x0 x1 x2 x3
  have HT := Lib.hid (duo_ans HD13.out (fr := 1) (inc := 7) (sq := 1) (body := ⟨#[98]⟩) ⟨by unfold U64; decide, by unfold I64; decide⟩ (by decide) fw7)
  go_upto_region 17 with (go_at_call 16; go_loud ((with_reducible refine Calls.mono HT.out ?_); rintro e w14 ⟨rfl, Bpq, Mpq, hd, hk⟩; have HD := Lib.hid hd; have HK := Lib.hid hk; clear hd hk))
  have HP14 := Lib.hid (kpD_pk HK.out HP13.out)
  have HD14 := HD
  clear HD HK HD13 HP13 HT
  have x0 : w14.cell? ⟨X1, 0, none⟩ = some (.bool false) := by rw [HP14.out.cell 0]; rfl
  have x1 : w14.cell? ⟨X1, 1, none⟩ = some (.int .u64 7) := by rw [HP14.out.cell 1]; rfl
  have x2 : w14.cell? ⟨X1, 2, none⟩ = some (.int .u64 1) := by rw [HP14.out.cell 2]; rfl
  have x3 : w14.cell? ⟨X1, 3, none⟩ = some (.string ⟨#[97]⟩) := by rw [HP14.out.cell 3]; rfl
  have HT := Lib.hid (duo_dtake HD14.out (p := wP1) (fr := 1) ⟨by unfold U64; decide, by unfold I64; decide⟩ (by decide) fw8)
  unfold pv pcells wP1 at HT
  dsimp only at HT
  go_upto_region 18 with (go_at_call 18; go_loud ((with_reducible refine Calls.mono HT.out ?_); rintro e w15 ⟨rfl, Bpq, Mpq, hd, hk⟩; have HD := Lib.hid hd; have HK := Lib.hid hk; clear hd hk))
  have HD15 := HD
  clear HD HK HD14 HP14 HT x0 x1 x2 x3
  have HE1 := Lib.hid (dec2 w15)
  go_upto_region 19 with (go_at_call 11; go_loud ((with_reducible refine HE1.out.mono ?_); rintro e w16 ⟨rfl, hb⟩; have HB := Lib.hid hb; clear hb))
  have HD16 := Lib.hid ((HD15.out.below HB.out).alloc (.cells #[.bool true, .int .u64 7, .int .u64 1, .string ⟨#[98]⟩] 24))
  have HP16 := Lib.hid (Blk.new w16 24 #[.bool true, .int .u64 7, .int .u64 1, .string ⟨#[98]⟩])
  clear HE1 HD15 HB
  generalize w16.alloc (.cells #[.bool true, .int .u64 7, .int .u64 1, .string ⟨#[98]⟩] 24) = w17 at *
  generalize w16.heap.size = X2 at *
  have x0 : w17.cell? ⟨X2, 0, none⟩ = some (.bool true) := by rw [HP16.out.cell 0]; rfl
  have x1 : w17.cell? ⟨X2, 1, none⟩ = some (.int .u64 7) := by rw [HP16.out.cell 1]; rfl
  have x2 : w17.cell? ⟨X2, 2, none⟩ = some (.int .u64 1) := by rw [HP16.out.cell 2]; rfl
  have x3 : w17.cell? ⟨X2, 3, none⟩ = some (.string ⟨#[98]⟩) := by rw [HP16.out.cell 3]; rfl
  have HT := Lib.hid (duo_take HD16.out (st := wS4) (p := wP2) (fr := 2) (by unfold U64; decide) (by decide) fw4)
  unfold pv pcells wP2 at HT
  dsimp only at HT
  go_upto_region 20 with (go_at_call 36; go_loud ((with_reducible refine Calls.mono HT.out ?_); rintro e w18 ⟨rfl, Bq, vdq, voq, _, hd, hk⟩; have HD := Lib.hid hd; have HK := Lib.hid hk; clear hd hk))
  have HD18 := HD
  clear HD HK HD16 HP16 HT x0 x1 x2 x3
  have HT := Lib.hid (duo_ended HD18.out)
  go_upto_region 21 with (go_at_call 32; go_loud ((with_reducible refine HT.out.mono ?_); rintro e w19 ⟨rfl, hrow, hlt, Bq, vdq, voq, rfl, hd, hk⟩; have HD := Lib.hid hd; have HR := Lib.hid hrow; clear hd hk hrow hlt))
  obtain ⟨gr, cr, curR, rfl, _, br, hcr⟩ := owns_blk HR.out (by decide)
  rw [show wS5.ov.length = 1 from rfl]
  have r0 : w19.cell? ⟨gr, 0, none⟩ = some (.int .u64 1) := by rw [br.cell 0]; exact hcr 0 (by decide)
  have r1 : w19.cell? ⟨gr, 1, none⟩ = some (.int .i64 2) := by rw [br.cell 1]; exact hcr 1 (by decide)
  have r2 : w19.cell? ⟨gr, 2, none⟩ = some (.string ⟨#[98]⟩) := by rw [br.cell 2]; exact hcr 2 (by decide)
  have r3 : w19.cell? ⟨gr, 3, none⟩ = some (.int .i64 0) := by rw [br.cell 3]; exact hcr 3 (by decide)
  have HIN := Lib.hid (inc_any HD.out.cd (fr := 1) (by unfold I64; decide))
  rw [fw9] at HIN
  have HCL := Lib.hid (calls_any HD.out.cw)
  have HB := Lib.hid HD.out.bel
  clear HD HD18 HR HT hcr br
  go_wp2_with (first
    | (go_at_call 20; go_loud ((with_reducible refine HIN.out.mono ?_); rintro e w20 ⟨rfl, rfl⟩))
    | (go_at_call 24; go_loud ((with_reducible refine HCL.out.mono ?_); rintro e w21 ⟨v, rfl, hrow, hb⟩; obtain ⟨pv, cv, rfl⟩ := owns_slice hrow; have HB21 := Lib.hid hb; clear hrow hb)))
  go_ret
  exact ⟨rfl, HB.out.trans (HB21.out.mono HB.out.size)⟩
end Go.Proofs.Ytgdgonmhgpflcaa
