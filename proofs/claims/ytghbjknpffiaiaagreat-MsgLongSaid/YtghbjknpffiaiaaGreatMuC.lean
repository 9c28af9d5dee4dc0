import Derived.Test.YtghbjknpffiaiaaGreatMuB
import Derived.Test.YtghbjknpffiaiaaGreatMtH
import Derived.Test.YtghbjknpffiaiaaGreatMgl
namespace Go.Proofs.YtghbjknpffiaiaaGreat
open Go.RowKit Wire Ms
set_option linter.unusedVariables false
set_option linter.unusedSimpArgs false
theorem lite_dec (s : ByteArray) : Lite (decS s).1 := by
 unfold decS
 split
 ·exact lite_rps _ (lite_k _) _
 ·exact lite_k 0
set_option maxRecDepth 100000 in
set_option maxHeartbeats 8000000 in
theorem reads_run (s : ByteArray) (hs : s.size ≤ maxLen) (W : World) :
  Calls Tryz.prog 4 #[.string s] W fun e w' => e = .returned (.bool true) ∧ Below W.heap.size W w' := by
 have K0 := Lib.hid (Below.refl W.heap.size W)
 by_cases h14 : (16384 : Int) < (s.size : Int)
 ·clear hs
  go_enter Tryz.func4, Tryz.ntmps4
  go_wp2_with (go_at_call 7; ((with_reducible refine (alive26_any _).mono ?_); rintro e wz ⟨rfl, hbq⟩; have KZ := Lib.hid (K0.out.step hbq); clear hbq))
  go_ret
  exact ⟨rfl, KZ.out⟩
 ·have HL := Lib.hid (lite_dec s)
  have HDs := Lib.hid (fun w => dec_any s hs w)
  have HDr := Lib.hid (fun w => rdec26_any s hs w)
  obtain ⟨n, c, hd⟩ : ∃ n c, decS s = (n, c) := ⟨_, _, rfl⟩
  rw [hd] at HDs HDr HL
  clear hd hs
  dsimp only at HDs HDr HL
  go_enter Tryz.func4, Tryz.ntmps4
  go_upto_region 4 with (first
   | (go_at_call 14; go_loud ((with_reducible refine (HDs.out _).mono ?_); rintro e w3 ⟨v3, rfl, hr, hbq⟩; obtain ⟨q1, qc1, q2, qc2, q3, qc3, q4, qc4, q5, qc5, q6, qc6, rfl⟩ := hr.vs; have R3 := Lib.hid hr; have K3 := Lib.hid (K0.out.step hbq); clear hr hbq))
   | (refine wpl_store_blk (Blk.new _ _ _) rfl _ _ _ rfl rfl rfl (by kernel_rfl) rfl mc_one ?_; go_loud (intro w4 hbk ho; have HU4 := Lib.hid hbk; have L4 := Lib.hid (al_step ho); have K4 := Lib.hid (K3.out.step L4.out); clear hbk ho)))
  go_upto_region 5 with (first
   | (go_at_call 15; go_loud ((with_reducible refine (HDr.out _).mono ?_); rintro e w5 ⟨v5, rfl, hr, hbq⟩; obtain ⟨t1, tc1, t2, tc2, t3, tc3, t4, tc4, t5, tc5, t6, tc6, rfl⟩ := hr.vs; have R5 := Lib.hid hr; have L5 := Lib.hid (L4.out.step hbq); have K5 := Lib.hid (K4.out.step hbq); have HU5 := Lib.hid (HU4.out.below hbq); clear hr hbq))
   | (refine wpl_store_blk (Blk.new _ _ _) rfl _ _ _ rfl rfl rfl (by kernel_rfl) rfl mc_one ?_; go_loud (intro w6 hbk ho; have HV6 := Lib.hid hbk; have M6 := Lib.hid (al_step ho); have L6 := Lib.hid (L5.out.step (al_step ho)); have K6 := Lib.hid (K5.out.step (al_step ho)); have HU6 := Lib.hid (HU5.out.below (al_step ho)); clear hbk ho)))
  have HS := Lib.hid (show Calls Tryz.prog 13 #[.agg (mcells n _), .agg (mcells n _)] w6 (EqP true w6) from by have h := rsame_any ((R3.out.keep fun b o x h1 h2 => Below.cellq L6.out h1 h2).mono L6.out.size) ((R5.out.keep fun b o x h1 h2 => Below.cellq M6.out h1 h2).mono M6.out.size) (Nat.le_refl _) HL.out; rw [decide_eq_true rfl] at h; exact h)
  clear HDs HDr HU4 HU5 K3 K4 K5 L4 L5 HL R3 R5 L6 M6
  go_wp2_with (first | (refine wpl_load_blk HU6.out rfl _ _ rfl rfl Tryz.underlying34 rfl (by kernel_rfl) ?_) | (refine wpl_load_blkg HU6.out rfl _ _ rfl rfl Tryz.underlying34 rfl (by kernel_rfl) ?_) | (refine wpl_load_blk HV6.out rfl _ _ rfl rfl Tryz.underlying34 rfl (by kernel_rfl) ?_) | (refine wpl_load_blkg HV6.out rfl _ _ rfl rfl Tryz.underlying34 rfl (by kernel_rfl) ?_) | (go_at_call 13; ((with_reducible refine HS.out.mono ?_); rintro e w7 ⟨rfl, hbq⟩; have K7 := Lib.hid (K6.out.step hbq); clear hbq)) | (go_at_call 7; ((with_reducible refine (alive26_any _).mono ?_); rintro e wz ⟨rfl, hbq⟩; have KZ := Lib.hid (K7.out.step hbq); clear hbq)))
  go_ret
  exact ⟨rfl, KZ.out⟩
end Go.Proofs.YtghbjknpffiaiaaGreat
