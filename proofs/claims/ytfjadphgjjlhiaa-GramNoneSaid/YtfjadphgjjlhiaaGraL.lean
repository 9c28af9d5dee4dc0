
/- The walk of GramNone: what no net answers. No condition. -/
import Derived.Test.YtfjadphgjjlhiaaGraK
namespace Go.Proofs.Ytfjadphgjjlhiaa
open Go.RowKit Go.Maps Gr Sok
set_option linter.unusedVariables false
set_option linter.unusedSimpArgs false
set_option maxRecDepth 100000 in
set_option maxHeartbeats 1000000 in
theorem drop_nil {w : World} (x : Int) :
    Calls Try.prog 17 #[.pointer none, .slice (some ⟨w.heap.size, 0, none⟩) 1 1] (w.alloc (.cells #[.int .u64 x] 29)) (MkPost w (.int .i64 0)) := by
  have HZ : Hid (Blk (w.alloc (.cells #[.int .u64 x] 29)) w.heap.size 29 #[.int .u64 x]) := Lib.hid (Blk.new _ _ _)
  have HB : Hid (Below w.heap.size w (w.alloc (.cells #[.int .u64 x] 29))) := Lib.hid ((Below.refl _ _).alloc (Nat.le_refl _) _)
  have hq : w.heap.size < (w.alloc (.cells #[.int .u64 x] 29)).heap.size := by simp
  generalize w.alloc (.cells #[.int .u64 x] 29) = w1 at *
  generalize hqq : w.heap.size = q at *
  have HQ := Lib.hid hqq
  clear hqq
  go_enter Try.func17, Try.ntmps17
  go_wp2_with fail
  go_loopw [4, 11] (fun u v wr => (u = .int .i64 0 ∧ (v = .int .i64 0 ∨ v = .int .i64 1)) ∧ Below w1.heap.size w1 wr) (fun _ v _ => ((1 : Int) - intOf v).toNat)
  case atStart => exact ⟨⟨rfl, .inl rfl⟩, Below.refl _ _⟩
  case round =>
    obtain ⟨⟨rfl, hv⟩, hb⟩ := hrel
    rcases hv with rfl | rfl
    · have x0 : wr.cell? ⟨q, 0, none⟩ = some (.int .u64 x) := by rw [hb.cell (p := ⟨q, 0, none⟩) hq, HZ.out.cell 0]; rfl
      have HB2 := Lib.hid hb
      clear hb
      go_wp2_with (go_at_call 29; ((with_reducible refine (one_nil _ _).mono ?_); rintro e w5 ⟨rfl, hb5⟩; have HB5 := Lib.hid (HB2.out.step hb5); clear hb5; unfold gv g0))
      go_roundw
      case rel => exact ⟨⟨rfl, .inr rfl⟩, HB5.out.alloc HB5.out.size _⟩
      case measure => simp [intOf]
    · have HB2 := Lib.hid hb
      clear hb
      go_wp2_with fail
      go_ret
      exact ⟨rfl, by rw [HQ.out]; exact HB.out.trans (HB2.out.mono (by omega))⟩
theorem send_nil_new {w : World} (fr x : Int) (tx : ByteArray) : Calls Try.prog 9 #[.pointer none, .int .i64 fr, .string tx, .slice (some ⟨w.heap.size, 0, none⟩) 1 1] (w.alloc (.cells #[.int .i64 x] 3)) (MkPost w (.tuple #[.int .i64 0, .int .i64 1])) := by
  refine (send_nil (w := w.alloc (.cells #[.int .i64 x] 3)) fr tx (to_new w 3 1 [x] _ rfl) rfl (by simp) ?_).mono ?_
  · rintro g o e
    injection e with e
    injection e with e1 e2
    subst e1; simp
  · rintro e w' ⟨rfl, hb⟩
    exact ⟨rfl, ((Below.refl _ _).alloc (Nat.le_refl _) _).trans (hb.mono (by simp))⟩
set_option maxRecDepth 100000 in
set_option maxHeartbeats 4000000 in
theorem none_t (a b x : Int) (w : World) : Calls Try.prog 6 #[.int .i64 a, .int .i64 b, .int .u64 x] w fun e w' => e = .returned (.bool true) ∧ Below w.heap.size w w' := by
  go_enter Try.func6, Try.ntmps6
  go_upto_region 3 with (go_at_call 9; ((with_reducible refine Calls.mono (send_nil_new _ _ _) ?_); rintro e w1 ⟨rfl, hb⟩; have HB1 := Lib.hid hb; clear hb))
  go_upto_region 4 with (go_at_call 11; ((with_reducible refine Calls.mono (take_nil _ _) ?_); rintro e w2 ⟨rfl, hb⟩; unfold gv g0; dsimp only; have HB2 := Lib.hid ((HB1.out.step hb).alloc (HB1.out.step hb).size (.cells #[.int .u64 0, .int .i64 0, .int .i64 0, .string ⟨#[]⟩] 33)); clear hb))
  have HX2 := Lib.hid (Blk.new w2 33 #[.int .u64 0, .int .i64 0, .int .i64 0, .string ⟨#[]⟩])
  generalize w2.alloc (.cells #[.int .u64 0, .int .i64 0, .int .i64 0, .string ⟨#[]⟩] 33) = w3 at *
  generalize w2.heap.size = X at *
  go_upto_region 5 with (go_at_call 10; ((with_reducible refine Calls.mono (double_nil _ _) ?_); rintro e w4 ⟨rfl, hb⟩; have HB4 := Lib.hid (HB2.out.step hb); have HX4 := Lib.hid (HX2.out.below hb); clear hb))
  have x0 : w4.cell? ⟨X, 0, none⟩ = some (.int .u64 0) := by rw [HX4.out.cell 0]; rfl
  have x1 : w4.cell? ⟨X, 1, none⟩ = some (.int .i64 0) := by rw [HX4.out.cell 1]; rfl
  have x2 : w4.cell? ⟨X, 2, none⟩ = some (.int .i64 0) := by rw [HX4.out.cell 2]; rfl
  have x3 : w4.cell? ⟨X, 3, none⟩ = some (.string ⟨#[]⟩) := by rw [HX4.out.cell 3]; rfl
  clear HX2 HX4 HB1 HB2
  go_wp2_with (first | (go_at_call 17; ((with_reducible refine Calls.mono (drop_nil _) ?_); rintro e w5 ⟨rfl, hb⟩; have HB5 := Lib.hid (HB4.out.step hb); clear hb x0 x1 x2 x3)) | (go_at_call 20; ((with_reducible refine Calls.mono (cut_nil _ _ _) ?_); rintro e w6 ⟨rfl, hb⟩; have HB6 := Lib.hid (HB5.out.step hb); clear hb)) | (go_at_call 22; ((with_reducible refine Calls.mono (heal_nil _ _ _) ?_); rintro e w7 ⟨rfl, hb⟩; have HB7 := Lib.hid (HB6.out.step hb); clear hb)) | (go_at_call 24; ((with_reducible refine Calls.mono (ready_nil _) ?_); rintro e w' ⟨rfl, rfl⟩)) | (go_at_call 12; ((with_reducible refine Calls.mono (list_nil _) ?_); rintro e w' ⟨rfl, rfl⟩)) | (go_at_call 13; ((with_reducible refine Calls.mono (works_t _) ?_); rintro e w9 ⟨rfl, hb⟩; have HB9 := Lib.hid (HB7.out.step hb); clear hb)))
  go_ret
  exact ⟨rfl, HB9.out⟩
end Go.Proofs.Ytfjadphgjjlhiaa
