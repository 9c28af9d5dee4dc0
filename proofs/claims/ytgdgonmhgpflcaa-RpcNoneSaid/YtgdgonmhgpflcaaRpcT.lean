import Derived.Test.YtgdgonmhgpflcaaRpcS

/- The walk of RpcNone: what nothing answers. No condition. -/
namespace Go.Proofs.Ytgdgonmhgpflcaa
open Go.RowKit Go.Maps Wire Rp
set_option linter.unusedVariables false
set_option linter.unusedSimpArgs false
set_option maxRecDepth 100000 in
set_option maxHeartbeats 4000000 in
theorem none_t (wh : Int) (s : ByteArray) (now : Int) (w : World) : Calls Try.prog 8 #[.int .i64 wh, .string s, .int .i64 now] w fun e w' => e = .returned (.bool true) ∧ Below w.heap.size w w' := by
  have HB0 := Lib.hid (Below.refl w.heap.size w)
  have HT1 := Lib.hid (fun w => take_nil wh p0 w)
  have HT2 := Lib.hid (fun w => dtake_nil wh p0 w)
  unfold pv pcells p0 at HT1 HT2
  dsimp only at HT1 HT2
  by_cases hbig : 1024 < s.size
  · have hbig' : (1024 : Int) < (s.size : Int) := by omega
    clear hbig
    go_enter Try.func8, Try.ntmps8
    go_wp2_with (go_at_call 9; go_loud ((with_reducible refine Calls.mono (works_t _) ?_); rintro e w1 ⟨rfl, hbw⟩; have HBW := Lib.hid (HB0.out.trans (hbw.mono HB0.out.size)); clear hbw))
    go_ret
    exact ⟨rfl, HBW.out⟩
  · have hbig' : ¬ (1024 : Int) < (s.size : Int) := by omega
    clear hbig
    go_enter Try.func8, Try.ntmps8
    go_upto_region 6 with (go_at_call 30; go_loud ((with_reducible refine Calls.mono (call_nil _ _ _ _) ?_); rintro e w9 ⟨rfl, hw9⟩; have hw9 := hw9.symm; subst hw9))
    go_upto_region 7 with (go_at_call 36; go_loud ((with_reducible refine Calls.mono (HT1.out _) ?_); rintro e w1 ⟨rfl, hb⟩; have HB1 := Lib.hid hb; clear hb))
    go_upto_region 8 with (go_at_call 18; go_loud ((with_reducible refine Calls.mono (HT2.out _) ?_); rintro e w2 ⟨rfl, hb⟩; have HB2 := Lib.hid (HB1.out.step hb); clear hb))
    have HB3 : Hid (Below w.heap.size w (w2.alloc (.cells #[.int .u64 1] 22))) := Lib.hid (HB2.out.alloc HB2.out.size _)
    go_wp2_with (first
      | (go_at_call 16; go_loud ((with_reducible refine Calls.mono (ans_nil _ _ _ _ _) ?_); rintro e w9 ⟨rfl, hw9⟩; have hw9 := hw9.symm; subst hw9))
      | (go_at_call 28; go_loud ((with_reducible refine Calls.mono (tick_nil _ _) ?_); rintro e w9 ⟨rfl, hw9⟩; have hw9 := hw9.symm; subst hw9))
      | (go_at_call 31; go_loud ((with_reducible refine Calls.mono (due_nil _) ?_); rintro e w9 ⟨rfl, hw9⟩; have hw9 := hw9.symm; subst hw9))
      | (go_at_call 32; go_loud ((with_reducible refine Calls.mono (ended_nil _) ?_); rintro e w9 ⟨rfl, hw9⟩; have hw9 := hw9.symm; subst hw9))
      | (go_at_call 39; go_loud ((with_reducible refine Calls.mono (stop_nil _ _ _ _) ?_); rintro e w9 ⟨rfl, hw9⟩; have hw9 := hw9.symm; try subst hw9))
      | (go_at_call 24; go_loud ((with_reducible refine Calls.mono (calls_nil _) ?_); rintro e w9 ⟨rfl, hw9⟩; have hw9 := hw9.symm; try subst hw9))
      | (go_at_call 20; go_loud ((with_reducible refine Calls.mono (inc_nil _ _) ?_); rintro e w9 ⟨rfl, hw9⟩; have hw9 := hw9.symm; try subst hw9))
      | (go_at_call 9; go_loud ((with_reducible refine Calls.mono (works_t _) ?_); rintro e w5 ⟨rfl, hbw⟩; have HBW := Lib.hid (HB3.out.trans (hbw.mono HB3.out.size)); clear hbw)))
    go_ret
    exact ⟨rfl, HBW.out⟩
end Go.Proofs.Ytgdgonmhgpflcaa
