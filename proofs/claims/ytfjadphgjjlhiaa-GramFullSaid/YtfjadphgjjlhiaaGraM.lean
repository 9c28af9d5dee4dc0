
/- The walk of GramWays: a way that is cut. No condition but that the numbers are uint16. -/
import Derived.Test.YtfjadphgjjlhiaaGraK
import Derived.OpenShut
namespace Go.Proofs.Ytfjadphgjjlhiaa
open Go.RowKit Go.Maps Gr Sok
set_option linter.unusedVariables false
set_option linter.unusedSimpArgs false
def WaysPost (w : World) (e : Ending) (w' : World) : Prop := e = .returned (.bool true) ∧ Below w.heap.size w w'
namespace Gr
theorem bad_f {x : Int} (h0 : 0 ≤ x) (h1 : x < 1024) : bad x = false := by simp [bad]; omega
theorem bad2_f {x y : Int} (h : bad x = false) (h2 : bad y = false) : bad2 x y = false := by unfold bad2; rw [h, h2]; rfl
theorem sc_ok {xs : List Int} {sz m len : Nat} (h : xs.any bad = false) (h1 : ¬ 16384 < sz) (h2 : ¬ 4096 < m + len) : sc (xs.any bad) sz m len = 0 := by
  unfold sc; simp [h, h1, h2]
end Gr
/-- The run's state. -/
def WsS (w0 : World) (x y z : Int) (tx : ByteArray) (C : Int → Int → Bool) (last : Int) (L : List G) (N b h c : Nat) (w : World) : Prop := NT w0 w b h c last L C N
theorem neg1_u {a : Int} (h : (Lit.int .u16 a).wf = true) : 0 ≤ (wrap64 a).tmod 1024 ∧ (wrap64 a).tmod 1024 < 1024 := by
  have hb := bounds_u16 h
  have e : wrap64 a = a := by unfold wrap64; omega
  rw [e, Int.tmod_eq_emod_of_nonneg hb.1]
  omega
set_option maxRecDepth 100000 in
set_option maxHeartbeats 4000000 in
theorem ways_t (a b c : Int) (tx : ByteArray) (ha : (Lit.int .u16 a).wf = true) (hb : (Lit.int .u16 b).wf = true) (hc : (Lit.int .u16 c).wf = true) (w0 : World) :
    Calls Try.prog 7 #[.int .u16 a, .int .u16 b, .int .u16 c, .string tx] w0 (WaysPost w0) := by
  have HB0 := Lib.hid (Below.refl w0.heap.size w0)
  have HX := Lib.hid (neg1_u ha)
  have HY := Lib.hid (neg1_u hb)
  have HZ := Lib.hid (neg1_u hc)
  clear ha hb hc
  go_enter Try.func7, Try.ntmps7
  by_cases hsz : 16384 < tx.size
  · have hsz' : (16384 : Int) < (tx.size : Int) := by omega
    clear hsz
    go_wp2_with (go_at_call 13; ((with_reducible refine Calls.mono (works_t _) ?_); rintro e w9 ⟨rfl, hb⟩))
    go_ret
    exact ⟨rfl, hb⟩
  · have hsz' : ¬ (16384 : Int) < (tx.size : Int) := by omega
    have HS := Lib.hid hsz
    clear hsz
    go_upto_region 4 with fail
    generalize (wrap64 a).tmod 1024 = x at *
    generalize (wrap64 b).tmod 1024 = y at *
    generalize (wrap64 c).tmod 1024 = z at *
    clear hsz'
    by_cases hxy : x = y
    · subst hxy
      go_wp2_with (go_at_call 13; ((with_reducible refine Calls.mono (works_t _) ?_); rintro e w9 ⟨rfl, hb⟩))
      go_ret
      exact ⟨rfl, hb⟩
    by_cases hxz : x = z
    · subst hxz
      go_wp2_with (go_at_call 13; ((with_reducible refine Calls.mono (works_t _) ?_); rintro e w9 ⟨rfl, hb⟩))
      go_ret
      exact ⟨rfl, hb⟩
    by_cases hyz : y = z
    · subst hyz
      go_wp2_with (go_at_call 13; ((with_reducible refine Calls.mono (works_t _) ?_); rintro e w9 ⟨rfl, hb⟩))
      go_ret
      exact ⟨rfl, hb⟩
    have bx := Lib.hid (bad_f HX.out.1 HX.out.2)
    have BY := Lib.hid (bad_f HY.out.1 HY.out.2)
    have BZ := Lib.hid (bad_f HZ.out.1 HZ.out.2)
    have HNE := Lib.hid (And.intro hxy (And.intro hxz hyz))
    have HR : Hid (rdyL (cutC (fun _ _ => false) x y) [⟨1, x, y, tx⟩, ⟨2, x, z, tx⟩, ⟨3, y, x, tx⟩] = [2, 3]) := Lib.hid (by
      have h1 : (z == y) = false := by simp; omega
      have h2 : (y == x) = false := by simp; omega
      simp [rdyL, cutC, h1, h2])
    have HTK1 : Hid (takeG (cutC (fun _ _ => false) x y) [⟨1, x, y, tx⟩, ⟨2, x, z, tx⟩, ⟨3, y, x, tx⟩] 1 = (g0, 90, [⟨1, x, y, tx⟩, ⟨2, x, z, tx⟩, ⟨3, y, x, tx⟩])) := Lib.hid (by simp [takeG, cutC])
    have HTK2 : Hid (takeG (healC (cutC (fun _ _ => false) x y) x y) [⟨1, x, y, tx⟩, ⟨2, x, z, tx⟩, ⟨3, y, x, tx⟩] 1 = (⟨1, x, y, tx⟩, 0, [⟨2, x, z, tx⟩, ⟨3, y, x, tx⟩])) := Lib.hid (by simp [takeG, cutC, healC, rem])
    clear HX HY HZ
    have e1 : (x == y) = false := by simpa using hxy
    have e2 : (x == z) = false := by simpa using hxz
    have e3 : (y == z) = false := by simpa using hyz
    clear hxy hxz hyz
    go_upto_region 9 with (first | (go_loud (go_at_call 8; (with_reducible refine Calls.mono (nt_new HB0.out) ?_); rintro e w1 ⟨b, h, c, rfl, ht, hbn⟩; have HT1 := Lib.hid ht; have HBN := Lib.hid hbn; clear ht hbn)) | (go_at_call 20; (with_reducible refine Calls.mono (nt_cut HT1.out (by decide) (q := false) (bad2_f bx.out BY.out) rfl) ?_); rintro e w2 ⟨rfl, ht, ho⟩; dsimp only; have HT2 : Hid (NT w0 w2 b h c 0 [] (cutC (fun _ _ => false) x y) 1) := Lib.hid ht; clear ht ho))
    clear e1 e2 e3 HT1 HBN
    go_upto_region 10 with (go_at_call 9; (with_reducible refine Calls.mono (nt_send_new HT2.out [y, z] 0 rfl (by kernel_rfl) (by kernel_rfl) (by decide) (by decide) (by decide) (by decide) (sc_ok (by simp [bx.out, BY.out, BZ.out]) HS.out (by decide))) ?_); rintro e w3 ⟨rfl, ho, _, ht⟩; have HT3 : Hid (NT w0 w3 b h c 2 [⟨1, x, y, tx⟩, ⟨2, x, z, tx⟩] (cutC (fun _ _ => false) x y) 3) := Lib.hid (ht rfl); clear ht ho)
    clear HT2
    go_upto_region 11 with (go_at_call 9; (with_reducible refine Calls.mono (nt_send_new HT3.out [x] 0 rfl (by kernel_rfl) (by kernel_rfl) (by decide) (by simp) (by decide) (by decide) (sc_ok (by simp [bx.out, BY.out, BZ.out]) HS.out (by simp))) ?_); rintro e w4 ⟨rfl, ho, _, ht⟩; have HT4 : Hid (NT w0 w4 b h c 3 [⟨1, x, y, tx⟩, ⟨2, x, z, tx⟩, ⟨3, y, x, tx⟩] (cutC (fun _ _ => false) x y) 4) := Lib.hid (ht rfl); clear ht ho)
    clear HT3
    go_upto_region 12 with (go_at_call 24; (with_reducible refine Calls.mono (nt_ready HT4.out (by simp) HR.out) ?_); rintro e w5 ⟨v, rfl, hrow, ht, hb⟩; have HT5 := Lib.hid ht; clear ht)
    obtain ⟨g, cap, cur, rfl, hgb, hblk, hcur⟩ := owns_blk hrow (by decide)
    have HRB := Lib.hid hblk
    have HCUR : Hid (cur[0]? = some (.int .u64 2) ∧ cur[1]? = some (.int .u64 3)) := Lib.hid ⟨hcur 0 (by decide), hcur 1 (by decide)⟩
    have HNG : Hid (¬ (g = b ∨ g = h ∨ g = c)) := Lib.hid (by have h1 := HT4.out.nw.blk.lt; have h2 := HT4.out.nw.gm.lt; have h3 := HT4.out.nw.cm.lt; omega)
    clear hrow hgb hblk hcur hb HT4 HR
    go_upto_region 13 with (go_at_call 11; (with_reducible refine Calls.mono (nt_take HT5.out (by unfold U64; omega) HTK1.out) ?_); rintro e w6 ⟨rfl, ht, ho⟩; unfold gv g0; dsimp only; have HT6 := Lib.hid (ht.alloc (.cells #[.int .u64 0, .int .i64 0, .int .i64 0, .string ⟨#[]⟩] 33)); have HRB6 := Lib.hid ((HRB.out.only ho HNG.out).alloc (.cells #[.int .u64 0, .int .i64 0, .int .i64 0, .string ⟨#[]⟩] 33)); clear ht ho)
    clear HT5 HRB HTK1
    generalize w6.alloc (.cells #[.int .u64 0, .int .i64 0, .int .i64 0, .string ⟨#[]⟩] 33) = w7 at *
    generalize w6.heap.size = Q at *
    go_upto_region 14 with (go_at_call 22; (with_reducible refine Calls.mono (nt_heal HT6.out (q := false) (bad2_f bx.out BY.out) rfl) ?_); rintro e w8 ⟨rfl, ht, ho⟩; dsimp only; have HT8 : Hid (NT w0 w8 b h c 3 [⟨1, x, y, tx⟩, ⟨2, x, z, tx⟩, ⟨3, y, x, tx⟩] (healC (cutC (fun _ _ => false) x y) x y) 4) := Lib.hid ht; have HRB8 := Lib.hid (HRB6.out.only ho HNG.out); clear ht ho)
    clear HT6 HRB6
    go_upto_region 15 with (go_at_call 11; (with_reducible refine Calls.mono (nt_take HT8.out (by unfold U64; omega) HTK2.out) ?_); rintro e w9 ⟨rfl, ht, ho⟩; unfold gv; dsimp only; have HT9 := Lib.hid (ht.alloc (.cells #[.int .u64 1, .int .i64 x, .int .i64 y, .string tx] 33)); have HRB9 := Lib.hid ((HRB8.out.only ho HNG.out).alloc (.cells #[.int .u64 1, .int .i64 x, .int .i64 y, .string tx] 33)); clear ht ho)
    have HX9 := Lib.hid (Blk.new w9 33 #[.int .u64 1, .int .i64 x, .int .i64 y, .string tx])
    generalize w9.alloc (.cells #[.int .u64 1, .int .i64 x, .int .i64 y, .string tx] 33) = w10 at *
    generalize w9.heap.size = X at *
    have r0 : w10.cell? ⟨g, 0, none⟩ = some (.int .u64 2) := by rw [HRB9.out.cell 0]; exact HCUR.out.1
    have r1 : w10.cell? ⟨g, 1, none⟩ = some (.int .u64 3) := by rw [HRB9.out.cell 1]; exact HCUR.out.2
    have x0 : w10.cell? ⟨X, 0, none⟩ = some (.int .u64 1) := by rw [HX9.out.cell 0]; rfl
    have x1 : w10.cell? ⟨X, 1, none⟩ = some (.int .i64 x) := by rw [HX9.out.cell 1]; rfl
    have x2 : w10.cell? ⟨X, 2, none⟩ = some (.int .i64 y) := by rw [HX9.out.cell 2]; rfl
    have x3 : w10.cell? ⟨X, 3, none⟩ = some (.string tx) := by rw [HX9.out.cell 3]; rfl
    clear HT8 HRB8 HTK2 HX9 HRB9 HCUR
    go_wp2_with (go_at_call 13; ((with_reducible refine Calls.mono (works_t _) ?_); rintro e w9 ⟨rfl, hb⟩))
    go_ret
    exact ⟨rfl, HT9.out.bel.step hb⟩
end Go.Proofs.Ytfjadphgjjlhiaa
