
/- The walk of the small run that each law asks ('works'). No condition. -/
import Derived.Test.YtfjadphgjjlhiaaGraJ
namespace Go.Proofs.Ytfjadphgjjlhiaa
open Go.RowKit Go.Maps Gr Sok
set_option linter.unusedVariables false
set_option linter.unusedSimpArgs false
set_option maxRecDepth 100000 in
set_option maxHeartbeats 4000000 in
theorem works_t (w0 : World) : Calls Try.prog 13 #[] w0 fun e w' => e = .returned (.bool true) ∧ Below w0.heap.size w0 w' := by
  have HB0 := Lib.hid (Below.refl w0.heap.size w0)
  go_enter Try.func13, Try.ntmps13
  go_upto_region 5 with (first | (go_loud (go_at_call 8; (with_reducible refine Calls.mono (nt_new HB0.out) ?_); rintro e w1 ⟨b, h, c, rfl, ht, hbn⟩; have HT1 := Lib.hid ht; have HBN := Lib.hid hbn; clear ht hbn)) | (go_loud (go_at_call 9; (with_reducible refine Calls.mono (nt_send_new HT1.out [1, 2] 0 rfl (by kernel_rfl) (by kernel_rfl) (by decide) (by decide) (by decide) (by decide) (by decide)) ?_); rintro e w2 ⟨rfl, ho, _, ht⟩; have HT2 : Hid (NT w0 w2 b h c 2 [⟨1, 0, 1, ⟨#[97]⟩⟩, ⟨2, 0, 2, ⟨#[97]⟩⟩] (fun _ _ => false) 2) := Lib.hid (ht rfl); clear ht)))
  clear ho HT1 HB0
  go_upto_region 6 with (go_loud (go_at_call 10; (with_reducible refine Calls.mono (nt_double HT2.out (by unfold U64; omega) (by decide) (by decide) (r := (3, 0, 3, [⟨1, 0, 1, ⟨#[97]⟩⟩, ⟨2, 0, 2, ⟨#[97]⟩⟩, ⟨3, 0, 1, ⟨#[97]⟩⟩], 1)) (by kernel_rfl)) ?_); rintro e w3 ⟨rfl, ht, ho⟩; dsimp only; have HT3 : Hid (NT w0 w3 b h c 3 [⟨1, 0, 1, ⟨#[97]⟩⟩, ⟨2, 0, 2, ⟨#[97]⟩⟩, ⟨3, 0, 1, ⟨#[97]⟩⟩] (fun _ _ => false) 3) := Lib.hid ht; clear ht))
  clear ho HT2
  go_upto_region 7 with (go_loud (go_at_call 17; (with_reducible refine Calls.mono (nt_drop_new HT3.out [1, 9] rfl (by kernel_rfl) (by kernel_rfl) (by decide) (by intro x hx; simp at hx; unfold U64; omega) (r := (1, [⟨2, 0, 2, ⟨#[97]⟩⟩, ⟨3, 0, 1, ⟨#[97]⟩⟩])) (by kernel_rfl)) ?_); rintro e w4 ⟨rfl, ht, ho⟩; dsimp only; have HT4 : Hid (NT w0 w4 b h c 3 [⟨2, 0, 2, ⟨#[97]⟩⟩, ⟨3, 0, 1, ⟨#[97]⟩⟩] (fun _ _ => false) 3) := Lib.hid ht; clear ht))
  clear ho HT3
  go_upto_region 8 with (go_loud (go_at_call 11; (with_reducible refine Calls.mono (nt_take HT4.out (by unfold U64; omega) (r := (⟨3, 0, 1, ⟨#[97]⟩⟩, 0, [⟨2, 0, 2, ⟨#[97]⟩⟩])) (by kernel_rfl)) ?_); rintro e w5 ⟨rfl, ht, ho⟩; unfold gv; dsimp only; have HT5 : Hid (NT w0 w5 b h c 3 [⟨2, 0, 2, ⟨#[97]⟩⟩] (fun _ _ => false) 3) := Lib.hid ht; clear ht))
  have HX5 := Lib.hid (Blk.new w5 33 #[.int .u64 3, .int .i64 0, .int .i64 1, .string ⟨#[97]⟩])
  have HT6 := Lib.hid (HT5.out.alloc (.cells #[.int .u64 3, .int .i64 0, .int .i64 1, .string ⟨#[97]⟩] 33))
  have HNX : Hid (¬ (w5.heap.size = b ∨ w5.heap.size = h ∨ w5.heap.size = c)) := Lib.hid (by have h1 := HT5.out.nw.blk.lt; have h2 := HT5.out.nw.gm.lt; have h3 := HT5.out.nw.cm.lt; omega)
  clear ho HT4 HT5
  generalize w5.alloc (.cells #[.int .u64 3, .int .i64 0, .int .i64 1, .string ⟨#[97]⟩] 33) = w6 at *
  generalize w5.heap.size = X at *
  go_upto_region 9 with (go_loud (go_at_call 11; (with_reducible refine Calls.mono (nt_take HT6.out (by unfold U64; omega) (r := (g0, 5, [⟨2, 0, 2, ⟨#[97]⟩⟩])) (by kernel_rfl)) ?_); rintro e w7 ⟨rfl, ht, ho⟩; unfold gv; dsimp only; have HT7 : Hid (NT w0 w7 b h c 3 [⟨2, 0, 2, ⟨#[97]⟩⟩] (fun _ _ => false) 3) := Lib.hid ht; clear ht))
  have HX8 := Lib.hid ((HX5.out.only ho HNX.out).alloc (.cells #[.int .u64 0, .int .i64 0, .int .i64 0, .string ⟨#[]⟩] 33))
  have HT8 := Lib.hid (HT7.out.alloc (.cells #[.int .u64 0, .int .i64 0, .int .i64 0, .string ⟨#[]⟩] 33))
  clear ho HT6 HT7 HX5
  try unfold g0
  dsimp only
  generalize w7.alloc (.cells #[.int .u64 0, .int .i64 0, .int .i64 0, .string ⟨#[]⟩] 33) = w8 at *
  generalize w7.heap.size = Y at *
  go_upto_region 10 with (go_loud (go_at_call 20; (with_reducible refine Calls.mono (nt_cut HT8.out (by decide) (q := false) (by decide) rfl) ?_); rintro e w9 ⟨rfl, ht, ho⟩; dsimp only; have HT9 : Hid (NT w0 w9 b h c 3 [⟨2, 0, 2, ⟨#[97]⟩⟩] (cutC (fun _ _ => false) 0 1) 4) := Lib.hid ht; clear ht))
  have HX9 := Lib.hid (HX8.out.only ho HNX.out)
  clear ho HT8 HX8
  go_upto_region 11 with (go_loud (go_at_call 9; (with_reducible refine Calls.mono (nt_send_new HT9.out [1] 0 rfl (by kernel_rfl) (by kernel_rfl) (by decide) (by decide) (by decide) (by decide) (by decide)) ?_); rintro e w10 ⟨rfl, ho, _, ht⟩; have HT10 : Hid (NT w0 w10 b h c 4 [⟨2, 0, 2, ⟨#[97]⟩⟩, ⟨4, 0, 1, ⟨#[98]⟩⟩] (cutC (fun _ _ => false) 0 1) 5) := Lib.hid (ht rfl); clear ht))
  have HX10 := Lib.hid (HX9.out.only ho HNX.out)
  clear ho HT9 HX9
  go_upto_region 12 with (go_loud (go_at_call 9; (with_reducible refine Calls.mono (nt_send_new HT10.out [0] 0 rfl (by kernel_rfl) (by kernel_rfl) (by decide) (by decide) (by decide) (by decide) (by decide)) ?_); rintro e w11 ⟨rfl, ho, _, ht⟩; have HT11 : Hid (NT w0 w11 b h c 5 [⟨2, 0, 2, ⟨#[97]⟩⟩, ⟨4, 0, 1, ⟨#[98]⟩⟩, ⟨5, 1, 0, ⟨#[99]⟩⟩] (cutC (fun _ _ => false) 0 1) 6) := Lib.hid (ht rfl); clear ht))
  have HX11 := Lib.hid (HX10.out.only ho HNX.out)
  clear ho HT10 HX10
  go_upto_region 13 with (go_loud (go_at_call 24; (with_reducible refine Calls.mono (nt_ready HT11.out (by decide) (xs := [2, 5]) (by kernel_rfl)) ?_); rintro e w12 ⟨v, rfl, hrow, ht, hb⟩; have HT12 : Hid (NT w0 w12 b h c 5 [⟨2, 0, 2, ⟨#[97]⟩⟩, ⟨4, 0, 1, ⟨#[98]⟩⟩, ⟨5, 1, 0, ⟨#[99]⟩⟩] (cutC (fun _ _ => false) 0 1) 6) := Lib.hid ht; clear ht))
  obtain ⟨g, cap, rfl, _, _, _, hc⟩ := owns_cells hrow (by decide)
  have HX12 := HX11.out.below hb
  have r0 : w12.cell? ⟨g, 0, none⟩ = some (.int .u64 2) := hc 0 (by decide)
  have r1 : w12.cell? ⟨g, 1, none⟩ = some (.int .u64 5) := hc 1 (by decide)
  have x0 : w12.cell? ⟨X, 0, none⟩ = some (.int .u64 3) := by rw [HX12.cell 0]; rfl
  have x1 : w12.cell? ⟨X, 1, none⟩ = some (.int .i64 0) := by rw [HX12.cell 1]; rfl
  have x2 : w12.cell? ⟨X, 2, none⟩ = some (.int .i64 1) := by rw [HX12.cell 2]; rfl
  have x3 : w12.cell? ⟨X, 3, none⟩ = some (.string ⟨#[97]⟩) := by rw [HX12.cell 3]; rfl
  clear hrow hc hb HX11 HT11 HX12 HNX
  go_wp2_with fail
  go_ret
  exact ⟨rfl, HT12.out.bel⟩
end Go.Proofs.Ytfjadphgjjlhiaa
