import Derived.Test.YtgdgonmhgpflcaaOncJ
import Derived.Test.YtgdgonmhgpflcaaMgj

/- The walk of RpcOnce's 'comes'. No condition but that there is not too much. -/
namespace Go.Proofs.Ytgdgonmhgpflcaa
open Go.RowKit Go.Maps Wire Rp
set_option linter.unusedVariables false
set_option linter.unusedSimpArgs false
theorem wdec {p : Pk} (hm : mayP p = true) (w : World) : Calls Try.prog 11 #[.string (pkS p)] w fun e w' => e = .returned (.tuple #[pv p, .int .i64 0]) ∧ Below w.heap.size w w' :=
  (pdec_any (pkS p) (pkS_len hm) (k := 0) (by rw [(dec_enc hm).1]; rfl) w).mono fun e w' h => by unfold DcPost at h; rw [(dec_enc hm).2] at h; exact h
set_option maxRecDepth 100000 in
set_option maxHeartbeats 4000000 in
theorem wback_any {w0 w : World} {g N : Nat} {d : Wd} (hx : OP w0 w g d true N) {pi ps : Int} {pb : ByteArray} (hm : mayP ⟨true, pi, ps, pb⟩ = true) (ho : d.c.ov.length ≤ 1000000) :
    Calls Try.prog 25 #[.pointer (some ⟨g, 0, none⟩), .agg #[.bool true, .string (pkS ⟨true, pi, ps, pb⟩)]] w fun e w' => e = .returned (.tuple #[]) ∧ OP w0 w' g (backW d ⟨true, pi, ps, pb⟩) true N := by
  obtain ⟨b, h, cx, hx', bd, bo, B, Bp, Mp, vd, vo, vw, vj, ha, hd', x⟩ := hx
  have HDC := Lib.hid (fun w => wdec hm w)
  have hu : U64 ps := by unfold mayP at hm; simp only [Bool.and_eq_true, decide_eq_true_eq] at hm; unfold U64; omega
  have HU := Lib.hid hu
  have HO := Lib.hid ho
  have hbk : backW d ⟨true, pi, ps, pb⟩ = { d with c := (takeS d.c 2 ⟨true, pi, ps, pb⟩).2.2 } := rfl
  rw [hbk]
  obtain ⟨r, hr⟩ : ∃ r, takeS d.c 2 ⟨true, pi, ps, pb⟩ = r := ⟨_, rfl⟩
  rw [hr]
  have HR := Lib.hid hr
  have HX0 := Lib.hid (x.below ((Below.refl _ w).alloc (Nat.le_refl _) (.cells #[.bool true, .string (pkS ⟨true, pi, ps, pb⟩)] 66)))
  have HQ0 := Lib.hid (Blk.new w 66 #[.bool true, .string (pkS ⟨true, pi, ps, pb⟩)])
  clear x hu ho hm hbk hr
  generalize pkS ⟨true, pi, ps, pb⟩ = t at *
  go_enter Try.func25, Try.ntmps25
  go_upto_region 2 with (first
    | (go_at_call 11; go_loud ((with_reducible refine (HDC.out _).mono ?_); rintro e w1 ⟨rfl, hb⟩; have HX1 := Lib.hid (HX0.out.below hb); have HQ1 := Lib.hid (HQ0.out.below hb); clear hb))
    | (refine wpl_store_blk (c' := pcells ⟨true, pi, ps, pb⟩) (Blk.new _ _ _) rfl _ _ _ rfl rfl rfl (by kernel_rfl) rfl (by simp [pcells, Value.oneCell']) ?_; go_loud (intro w2 hb2 ho2; have HP2 := Lib.hid hb2; have HX2 := Lib.hid (HX1.out.below (al_step ho2)); have HQ2 := Lib.hid (HQ1.out.below (al_step ho2)); clear hb2 ho2)))
  clear HX0 HQ0 HX1 HQ1 HDC
  have y0 : w2.cell? ⟨w.heap.size, 0, none⟩ = some (.bool true) := HQ2.out.cell 0
  have c0 : w2.cell? ⟨g, 0, none⟩ = some (.pointer (some ⟨b, 0, none⟩)) := HX2.out.blk.cell 0
  have z0 : w2.cell? ⟨w1.heap.size, 0, none⟩ = some (.bool true) := HP2.out.cell 0
  have z1 : w2.cell? ⟨w1.heap.size, 1, none⟩ = some (.int .u64 pi) := HP2.out.cell 1
  have z2 : w2.cell? ⟨w1.heap.size, 2, none⟩ = some (.int .u64 ps) := HP2.out.cell 2
  have z3 : w2.cell? ⟨w1.heap.size, 3, none⟩ = some (.string pb) := HP2.out.cell 3
  have HTK := Lib.hid (w_take (HX2.out.below (Below.refl _ w2).drew) (fr := 2) (p := ⟨true, pi, ps, pb⟩) HU.out HO.out HR.out)
  unfold pv pcells at HTK
  dsimp only at HTK
  generalize w1.heap.size = pq at *
  generalize w.heap.size = wq at *
  go_upto_region 5 with fail
  go_region_with (go_at_call 36; go_loud ((with_reducible refine HTK.out.mono ?_); rintro e w7 ⟨rfl, B', vd', vo', hx7⟩; have HX7 := Lib.hid hx7; clear hx7))
  all_goals (go_wp2_with fail)
  all_goals (try simp only [Exit.inBlock, Exit.then])
  all_goals first | go_end0 | (refine bodyPost_ret (results_none rfl _ _ _) rfl ?_)
  all_goals exact ⟨rfl, _, _, _, _, _, _, _, _, _, _, _, _, _, _, _, HX7.out⟩
end Go.Proofs.Ytgdgonmhgpflcaa
