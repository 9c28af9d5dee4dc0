import Derived.Test.YtghbjknpffiaiaaGreatMgg
import Derived.BigRegion
namespace Go.Proofs.YtghbjknpffiaiaaGreat
open Go.RowKit Wire Ms
set_option linter.unusedVariables false
set_option linter.unusedSimpArgs false
theorem info_nm : Info Tryz.prog 52 (.agg #[.int .u64 0, .string ⟨#[]⟩]) 2 24 := by unfold Info; kernel_rfl
theorem info_en : Info Tryz.prog 54 (.agg #[.int .u64 0, .string ⟨#[]⟩, .int .i64 0, .int .i64 0, .int .i64 0]) 5 48 := by unfold Info; kernel_rfl
theorem info_err : Info Tryz.prog 30 (.int .i64 0) 1 8 := by unfold Info; kernel_rfl
set_option maxRecDepth 100000 in
set_option maxHeartbeats 4000000 in
theorem listr_u64 {w : World} {k rb g o : Nat} {q : RS} {bad : Bool} {T : TypeId} {A : Array Value} {most : Int} {bx : Nat} (c : KRd w k rb q bad) (hb : Blk w g T A) (ho : A[o]? = some (.slice none 0 0)) (hgk : g ≠ k) (hgr : g ≠ rb) (hm : I64 most) (hm2 : most ≤ 1000000)
  (hone : ∀ (w1 : World) (q' : RS) (b' : Bool) (gx : Nat), KRd w1 k rb q' b' → Blk w1 gx 22 #[.int .u64 0] → w.heap.size ≤ gx → OnRd k rb g w w1 → Calls Tryz.prog 92 #[.pointer (some ⟨gx, 0, none⟩), .pointer (some ⟨bx, 0, none⟩)] w1 (RdP w1 k rb gx 22 ((fun (x : Int) => [Value.int .u64 x]) ((rU 281474976710656) q').1).toArray ((rU 281474976710656) q').2 (b' || (fun (_ : Int) => false) ((rU 281474976710656) q').1))) :
  Calls Tryz.prog 91 #[.pointer (some ⟨k, 0, none⟩), .pointer (some ⟨g, o, none⟩), .int .i64 most, .func (.func 92) #[] #[.pointer (some ⟨bx, 0, none⟩)]] w (LrP (rU 281474976710656) (fun (_ : Int) => false) (fun (x : Int) => [Value.int .u64 x]) 22 1 most w k rb g T A o q bad) := by
 have HC := Lib.hid (pcount_any c.2 most hm)
 have hr := cnt_range (s := q.s) (e := q.e) hm
 obtain ⟨n, hn⟩ : ∃ n : Nat, cV most q = n := ⟨(cV most q).toNat, by unfold cV; omega⟩
 have hn2 : n ≤ 1000000 := by
  by_cases h0 : cV most q = 0
  ·omega
  ·have h1 := (cnt_ok (s := q.s) (e := q.e) (most := most) (.inl h0))
   have h2 : cV most q = xI q.s := h1.1
   have h3 := h1.2.2.2.1
   omega
 have HRL : Hid (rL most (rU 281474976710656) q = rdL (rU 281474976710656) n (cS most q)) := Lib.hid (by unfold rL; rw [hn]; rfl)
 rw [show numV q.s q.e (cC q.s most) = n from hn] at HC
 have HLT := Lib.hid (And.intro c.1.lt (And.intro c.2.blk.lt hb.lt))
 have HG := Lib.hid (And.intro hgk hgr)
 have HA := Lib.hid ho
 have HBB := Lib.hid hb
 have HK := Lib.hid c
 have HO := Lib.hid hone
 have HN2 := Lib.hid hn2
 have c0 := c.c0
 unfold LrP
 rw [HRL.out]
 clear c hb ho hgk hgr hm hm2 hone hr hn hn2
 generalize hq1 : cS most q = q1 at *
 have HQ1 := Lib.hid hq1
 clear hq1
 go_enter Tryz.func91, Tryz.ntmps91
 go_upto_region 9 with (go_at_call 108; go_loud ((with_reducible refine HC.out.mono ?_); rintro e w1 ⟨rfl, hP, hOc⟩; have H1 := Lib.hid hP; have O1 := Lib.hid hOc; clear hP hOc))
 have hz0 : LrRel (rU 281474976710656) (fun (_ : Int) => false) (fun (x : Int) => [Value.int .u64 x]) 22 1 w k rb g T A o q1 bad n (.int .i64 0) w1 := ⟨0, [], q1, .slice none 0 0, Nat.zero_le _, rfl, ⟨⟨by
   have hkr : k ≠ rb := fun e => by have h1 := HK.out.1; rw [e] at h1; exact absurd (blk_ne h1 HK.out.2.blk) (by decide)
   have := HK.out.1.only O1.out hkr
   simpa using this, by rw [← HQ1.out]; exact H1.out⟩, by
   have := HBB.out.only O1.out HG.out.2
   rwa [show A.setIfInBounds o (.slice none 0 0) = A from by
    apply Array.ext_getElem?
    intro j
    rw [Array.getElem?_setIfInBounds]
    split
    ·next e => subst e; rw [HA.out, if_pos (Array.getElem?_eq_some_iff.1 HA.out).1]
    ·rfl], ⟨rfl, .inl ⟨rfl, rfl⟩⟩, O1.out.mono fun j _ e => .inr (.inl e)⟩, rfl, by simp⟩
 have HAS := Lib.hid (Array.getElem?_eq_some_iff.1 HA.out).1
 clear HC HRL H1 O1 HBB HA c0 HK HQ1
 go_wp2
 go_loopw [66] (fun u wr => LrRel (rU 281474976710656) (fun (_ : Int) => false) (fun (x : Int) => [Value.int .u64 x]) 22 1 w k rb g T A o q1 bad n u wr) (fun u _ => ((n : Int) - intOf u).toNat)
 case atStart => exact hz0
 case round =>
  clear hz0
  obtain ⟨i, ys, qi, v, hi1, rfl, hS, hyl, hrd⟩ := hrel
  have HS := Lib.hid hS
  have HYL := Lib.hid hyl
  have HRD := Lib.hid hrd
  have c0 := hS.kr.c0
  obtain ⟨pv, cv, rfl⟩ := owns_slice hS.row
  clear hS hyl hrd
  by_cases hi : i < n
  ·have hki : (i : Int) < (n : Int) := by omega
   have hn9 : n ≤ 140737488355328 := by have := HN2.out; omega
   have HE := Lib.hid (perr_any HS.out.kr.2)
   by_cases he : qi.e = 0
   ·have he' : (qi.e != 0) = false := by simpa using he
    have HE0 := Lib.hid he
    clear he
    generalize hqe : qi.e = qe at *
    have HONE := Lib.hid (HO.out (wr.alloc (.cells #[.int .u64 0] 22)) qi (bad || ys.any (fun (_ : Int) => false)) wr.heap.size (HS.out.kr.below ((Below.refl _ wr).alloc (Nat.le_refl _) _)) (Blk.new wr 22 #[.int .u64 0]) HS.out.on.size (Only.step HS.out.on ((Below.refl _ wr).alloc (Nat.le_refl _) _)))
    have HQE := Lib.hid hqe
    clear hqe
    go_upto_region 12 with (go_at_call 109; go_loud ((with_reducible refine HE.out.mono ?_); rintro e w9 ⟨rfl, hw9⟩; subst hw9))
    go_upto_region 13 with (go_at_call 92; ((with_reducible refine HONE.out.mono ?_); rintro e w2 ⟨rfl, b2, k2, o2⟩; have B2 := Lib.hid b2; have S2 := Lib.hid (LrSt.one (ob := .cells #[.int .u64 0] 22) HS.out HLT.out HG.out.1 HG.out.2 k2 (show OnRd k rb _ _ _ from o2)); clear b2 k2 o2))
    have x0 : w2.cell? ⟨g, o, none⟩ = some (.slice pv ys.length cv) := by rw [S2.out.blk.cell o]; simp [HAS.out]
    have x0n : ∀ ob, (w2.alloc ob).cell? ⟨g, o, none⟩ = some (.slice pv ys.length cv) := fun ob => by rw [(S2.out.blk.alloc ob).cell o]; simp [HAS.out]
    obtain ⟨x, hx⟩ : ∃ x, ((rU 281474976710656) qi).1 = x := ⟨_, rfl⟩
    have HXX := Lib.hid hx
    rw [hx] at B2
    clear hx
    have x1 : w2.cell? ⟨wr.heap.size, 0, none⟩ = some (.int .u64 x) := by rw [B2.out.cell 0]; rfl
    have x1n : ∀ ob, (w2.alloc ob).cell? ⟨wr.heap.size, 0, none⟩ = some (.int .u64 x) := fun ob => by rw [(B2.out.alloc ob).cell 0]; rfl
    have HROW : Hid (w2.drew.ownsRow w.heap.size 22 1 (.slice pv ys.length cv) ys.length (ys.flatMap (fun (x : Int) => [Value.int .u64 x]))) := Lib.hid S2.out.row
    have HLEN : Hid (ys.length < 2147483648) := Lib.hid (by have := HYL.out; have := HN2.out; omega)
    have HBS : Hid (w.heap.size ≤ w2.drew.heap.size) := Lib.hid S2.out.on.size
    have HFIN : Hid (∀ v6 w6, w6.ownsRow w.heap.size 22 1 v6 (ys.length + 1) (ys.flatMap (fun (x : Int) => [Value.int .u64 x]) ++ (fun (x : Int) => [Value.int .u64 x]) x) → Only (fun j => (Value.slice pv ys.length cv).ownBlock = some j) w2.drew w6 → (w6.cell? ⟨g, o, none⟩ = some (.slice pv ys.length cv) ∧ w6.frozen? ⟨g, o, none⟩ = false) ∧ LrRel (rU 281474976710656) (fun (_ : Int) => false) (fun (x : Int) => [Value.int .u64 x]) 22 1 w k rb g T A o q1 bad n (.int .i64 ((i + 1 : Nat) : Int)) (w6.setCell ⟨g, o, none⟩ v6)) := Lib.hid fun v6 w6 h6 o6 => by
     have h := S2.out.app HG.out.1 HG.out.2 HLT.out h6 ⟨o6.os, o6.tape, o6.output, o6.size, o6.block⟩
     refine ⟨⟨by rw [h.1.cell o]; simp [HAS.out], h.1.frozen o⟩, i + 1, ys ++ [x], ((rU 281474976710656) qi).2, v6, by omega, rfl, ?_, by rw [List.length_append]; simp [HYL.out], ?_⟩
     ·have := h.2
      first
       | (rw [HXX.out] at this; simpa only [List.any_append, List.any_cons, List.any_nil, Bool.or_false, Bool.or_assoc] using this)
       | simpa only [List.any_append, List.any_cons, List.any_nil, Bool.or_false, Bool.or_assoc] using this
     ·rw [HRD.out, show n - i = (n - (i + 1)) + 1 by omega, rdL_step (HQE.out.trans HE0.out), HXX.out]
      simp
    clear HE HONE HO HRD HXX S2 B2 HS
    go_region_law (go_loud (refine step_append_row2 (ys := (fun (x : Int) => [Value.int .u64 x]) x) (by rfl) (by rfl) (by rfl) (by rfl) Tryz.underlying27 info_u64 rfl rfl rfl (by decide) (by decide) HROW.out HLEN.out HBS.out (by first | rfl | simp) ?_; intro v6 w6 h6 o6; have HF6 := Lib.hid (HFIN.out _ _ h6 o6); obtain ⟨p6, c6, rfl⟩ := owns_slice h6; have d1 := HF6.out.1.1; have f1 := HF6.out.1.2; clear h6 o6))
    all_goals (go_wp2_with fail; go_roundw)
    all_goals first
     | (case rel => exact HF6.out.2)
     | (case measure => simp [intOf]; omega)
     | skip
   ·have he' : (qi.e != 0) = true := by simpa using he
    have HE0 := Lib.hid he
    clear he
    generalize hqe : qi.e = qe at *
    have HQE := Lib.hid hqe
    clear hqe
    go_wp2_with (go_at_call 109; go_loud ((with_reducible refine HE.out.mono ?_); rintro e w9 ⟨rfl, hw9⟩; subst hw9))
    refine bodyPost_ret (results_none rfl _ _ _) rfl ?_
    refine ⟨rfl, .slice pv ys.length cv, ?_⟩
    rw [HRD.out, rdL_stop (fun e => HE0.out (HQE.out.symm.trans e))]
    have := HS.out
    simpa using this
  ·have : i = n := by omega
   subst this
   go_wp2_with fail
   go_end0
   refine ⟨rfl, .slice pv ys.length cv, ?_⟩
   have h1 := HRD.out
   rw [Nat.sub_self] at h1
   rw [h1]
   have := HS.out
   simpa [rdL] using this
set_option maxRecDepth 100000 in
set_option maxHeartbeats 4000000 in
theorem listr_err {w : World} {k rb g o : Nat} {q : RS} {bad : Bool} {T : TypeId} {A : Array Value} {most : Int} {bx : Nat} (c : KRd w k rb q bad) (hb : Blk w g T A) (ho : A[o]? = some (.slice none 0 0)) (hgk : g ≠ k) (hgr : g ≠ rb) (hm : I64 most) (hm2 : most ≤ 1000000)
  (hone : ∀ (w1 : World) (q' : RS) (b' : Bool) (gx : Nat), KRd w1 k rb q' b' → Blk w1 gx 30 #[.int .i64 0] → w.heap.size ≤ gx → OnRd k rb g w w1 → Calls Tryz.prog 100 #[.pointer (some ⟨gx, 0, none⟩), .pointer (some ⟨bx, 0, none⟩)] w1 (RdP w1 k rb gx 30 ((fun (x : Int) => [Value.int .i64 x]) ((rU 9999) q').1).toArray ((rU 9999) q').2 (b' || (fun (_ : Int) => false) ((rU 9999) q').1))) :
  Calls Tryz.prog 99 #[.pointer (some ⟨k, 0, none⟩), .pointer (some ⟨g, o, none⟩), .int .i64 most, .func (.func 100) #[] #[.pointer (some ⟨bx, 0, none⟩)]] w (LrP (rU 9999) (fun (_ : Int) => false) (fun (x : Int) => [Value.int .i64 x]) 30 1 most w k rb g T A o q bad) := by
 have HC := Lib.hid (pcount_any c.2 most hm)
 have hr := cnt_range (s := q.s) (e := q.e) hm
 obtain ⟨n, hn⟩ : ∃ n : Nat, cV most q = n := ⟨(cV most q).toNat, by unfold cV; omega⟩
 have hn2 : n ≤ 1000000 := by
  by_cases h0 : cV most q = 0
  ·omega
  ·have h1 := (cnt_ok (s := q.s) (e := q.e) (most := most) (.inl h0))
   have h2 : cV most q = xI q.s := h1.1
   have h3 := h1.2.2.2.1
   omega
 have HRL : Hid (rL most (rU 9999) q = rdL (rU 9999) n (cS most q)) := Lib.hid (by unfold rL; rw [hn]; rfl)
 rw [show numV q.s q.e (cC q.s most) = n from hn] at HC
 have HLT := Lib.hid (And.intro c.1.lt (And.intro c.2.blk.lt hb.lt))
 have HG := Lib.hid (And.intro hgk hgr)
 have HA := Lib.hid ho
 have HBB := Lib.hid hb
 have HK := Lib.hid c
 have HO := Lib.hid hone
 have HN2 := Lib.hid hn2
 have c0 := c.c0
 unfold LrP
 rw [HRL.out]
 clear c hb ho hgk hgr hm hm2 hone hr hn hn2
 generalize hq1 : cS most q = q1 at *
 have HQ1 := Lib.hid hq1
 clear hq1
 go_enter Tryz.func99, Tryz.ntmps99
 go_upto_region 9 with (go_at_call 108; go_loud ((with_reducible refine HC.out.mono ?_); rintro e w1 ⟨rfl, hP, hOc⟩; have H1 := Lib.hid hP; have O1 := Lib.hid hOc; clear hP hOc))
 have hz0 : LrRel (rU 9999) (fun (_ : Int) => false) (fun (x : Int) => [Value.int .i64 x]) 30 1 w k rb g T A o q1 bad n (.int .i64 0) w1 := ⟨0, [], q1, .slice none 0 0, Nat.zero_le _, rfl, ⟨⟨by
   have hkr : k ≠ rb := fun e => by have h1 := HK.out.1; rw [e] at h1; exact absurd (blk_ne h1 HK.out.2.blk) (by decide)
   have := HK.out.1.only O1.out hkr
   simpa using this, by rw [← HQ1.out]; exact H1.out⟩, by
   have := HBB.out.only O1.out HG.out.2
   rwa [show A.setIfInBounds o (.slice none 0 0) = A from by
    apply Array.ext_getElem?
    intro j
    rw [Array.getElem?_setIfInBounds]
    split
    ·next e => subst e; rw [HA.out, if_pos (Array.getElem?_eq_some_iff.1 HA.out).1]
    ·rfl], ⟨rfl, .inl ⟨rfl, rfl⟩⟩, O1.out.mono fun j _ e => .inr (.inl e)⟩, rfl, by simp⟩
 have HAS := Lib.hid (Array.getElem?_eq_some_iff.1 HA.out).1
 clear HC HRL H1 O1 HBB HA c0 HK HQ1
 go_wp2
 go_loopw [66] (fun u wr => LrRel (rU 9999) (fun (_ : Int) => false) (fun (x : Int) => [Value.int .i64 x]) 30 1 w k rb g T A o q1 bad n u wr) (fun u _ => ((n : Int) - intOf u).toNat)
 case atStart => exact hz0
 case round =>
  clear hz0
  obtain ⟨i, ys, qi, v, hi1, rfl, hS, hyl, hrd⟩ := hrel
  have HS := Lib.hid hS
  have HYL := Lib.hid hyl
  have HRD := Lib.hid hrd
  have c0 := hS.kr.c0
  obtain ⟨pv, cv, rfl⟩ := owns_slice hS.row
  clear hS hyl hrd
  by_cases hi : i < n
  ·have hki : (i : Int) < (n : Int) := by omega
   have hn9 : n ≤ 140737488355328 := by have := HN2.out; omega
   have HE := Lib.hid (perr_any HS.out.kr.2)
   by_cases he : qi.e = 0
   ·have he' : (qi.e != 0) = false := by simpa using he
    have HE0 := Lib.hid he
    clear he
    generalize hqe : qi.e = qe at *
    have HONE := Lib.hid (HO.out (wr.alloc (.cells #[.int .i64 0] 30)) qi (bad || ys.any (fun (_ : Int) => false)) wr.heap.size (HS.out.kr.below ((Below.refl _ wr).alloc (Nat.le_refl _) _)) (Blk.new wr 30 #[.int .i64 0]) HS.out.on.size (Only.step HS.out.on ((Below.refl _ wr).alloc (Nat.le_refl _) _)))
    have HQE := Lib.hid hqe
    clear hqe
    go_upto_region 12 with (go_at_call 109; go_loud ((with_reducible refine HE.out.mono ?_); rintro e w9 ⟨rfl, hw9⟩; subst hw9))
    go_upto_region 13 with (go_at_call 100; ((with_reducible refine HONE.out.mono ?_); rintro e w2 ⟨rfl, b2, k2, o2⟩; have B2 := Lib.hid b2; have S2 := Lib.hid (LrSt.one (ob := .cells #[.int .i64 0] 30) HS.out HLT.out HG.out.1 HG.out.2 k2 (show OnRd k rb _ _ _ from o2)); clear b2 k2 o2))
    have x0 : w2.cell? ⟨g, o, none⟩ = some (.slice pv ys.length cv) := by rw [S2.out.blk.cell o]; simp [HAS.out]
    have x0n : ∀ ob, (w2.alloc ob).cell? ⟨g, o, none⟩ = some (.slice pv ys.length cv) := fun ob => by rw [(S2.out.blk.alloc ob).cell o]; simp [HAS.out]
    obtain ⟨x, hx⟩ : ∃ x, ((rU 9999) qi).1 = x := ⟨_, rfl⟩
    have HXX := Lib.hid hx
    rw [hx] at B2
    clear hx
    have x1 : w2.cell? ⟨wr.heap.size, 0, none⟩ = some (.int .i64 x) := by rw [B2.out.cell 0]; rfl
    have x1n : ∀ ob, (w2.alloc ob).cell? ⟨wr.heap.size, 0, none⟩ = some (.int .i64 x) := fun ob => by rw [(B2.out.alloc ob).cell 0]; rfl
    have HROW : Hid (w2.drew.ownsRow w.heap.size 30 1 (.slice pv ys.length cv) ys.length (ys.flatMap (fun (x : Int) => [Value.int .i64 x]))) := Lib.hid S2.out.row
    have HLEN : Hid (ys.length < 2147483648) := Lib.hid (by have := HYL.out; have := HN2.out; omega)
    have HBS : Hid (w.heap.size ≤ w2.drew.heap.size) := Lib.hid S2.out.on.size
    have HFIN : Hid (∀ v6 w6, w6.ownsRow w.heap.size 30 1 v6 (ys.length + 1) (ys.flatMap (fun (x : Int) => [Value.int .i64 x]) ++ (fun (x : Int) => [Value.int .i64 x]) x) → Only (fun j => (Value.slice pv ys.length cv).ownBlock = some j) w2.drew w6 → (w6.cell? ⟨g, o, none⟩ = some (.slice pv ys.length cv) ∧ w6.frozen? ⟨g, o, none⟩ = false) ∧ LrRel (rU 9999) (fun (_ : Int) => false) (fun (x : Int) => [Value.int .i64 x]) 30 1 w k rb g T A o q1 bad n (.int .i64 ((i + 1 : Nat) : Int)) (w6.setCell ⟨g, o, none⟩ v6)) := Lib.hid fun v6 w6 h6 o6 => by
     have h := S2.out.app HG.out.1 HG.out.2 HLT.out h6 ⟨o6.os, o6.tape, o6.output, o6.size, o6.block⟩
     refine ⟨⟨by rw [h.1.cell o]; simp [HAS.out], h.1.frozen o⟩, i + 1, ys ++ [x], ((rU 9999) qi).2, v6, by omega, rfl, ?_, by rw [List.length_append]; simp [HYL.out], ?_⟩
     ·have := h.2
      first
       | (rw [HXX.out] at this; simpa only [List.any_append, List.any_cons, List.any_nil, Bool.or_false, Bool.or_assoc] using this)
       | simpa only [List.any_append, List.any_cons, List.any_nil, Bool.or_false, Bool.or_assoc] using this
     ·rw [HRD.out, show n - i = (n - (i + 1)) + 1 by omega, rdL_step (HQE.out.trans HE0.out), HXX.out]
      simp
    clear HE HONE HO HRD HXX S2 B2 HS
    go_region_law (go_loud (refine step_append_row2 (ys := (fun (x : Int) => [Value.int .i64 x]) x) (by rfl) (by rfl) (by rfl) (by rfl) Tryz.underlying29 info_err rfl rfl rfl (by decide) (by decide) HROW.out HLEN.out HBS.out (by first | rfl | simp) ?_; intro v6 w6 h6 o6; have HF6 := Lib.hid (HFIN.out _ _ h6 o6); obtain ⟨p6, c6, rfl⟩ := owns_slice h6; have d1 := HF6.out.1.1; have f1 := HF6.out.1.2; clear h6 o6))
    all_goals (go_wp2_with fail; go_roundw)
    all_goals first
     | (case rel => exact HF6.out.2)
     | (case measure => simp [intOf]; omega)
     | skip
   ·have he' : (qi.e != 0) = true := by simpa using he
    have HE0 := Lib.hid he
    clear he
    generalize hqe : qi.e = qe at *
    have HQE := Lib.hid hqe
    clear hqe
    go_wp2_with (go_at_call 109; go_loud ((with_reducible refine HE.out.mono ?_); rintro e w9 ⟨rfl, hw9⟩; subst hw9))
    refine bodyPost_ret (results_none rfl _ _ _) rfl ?_
    refine ⟨rfl, .slice pv ys.length cv, ?_⟩
    rw [HRD.out, rdL_stop (fun e => HE0.out (HQE.out.symm.trans e))]
    have := HS.out
    simpa using this
  ·have : i = n := by omega
   subst this
   go_wp2_with fail
   go_end0
   refine ⟨rfl, .slice pv ys.length cv, ?_⟩
   have h1 := HRD.out
   rw [Nat.sub_self] at h1
   rw [h1]
   have := HS.out
   simpa [rdL] using this
set_option maxRecDepth 100000 in
set_option maxHeartbeats 4000000 in
theorem listr_nm {w : World} {k rb g o : Nat} {q : RS} {bad : Bool} {T : TypeId} {A : Array Value} {most : Int}  (c : KRd w k rb q bad) (hb : Blk w g T A) (ho : A[o]? = some (.slice none 0 0)) (hgk : g ≠ k) (hgr : g ≠ rb) (hm : I64 most) (hm2 : most ≤ 1000000)
  (hone : ∀ (w1 : World) (q' : RS) (b' : Bool) (gx : Nat), KRd w1 k rb q' b' → Blk w1 gx 52 #[.int .u64 0, .string ⟨#[]⟩] → w.heap.size ≤ gx → OnRd k rb g w w1 → Calls Tryz.prog 98 #[.pointer (some ⟨k, 0, none⟩), .pointer (some ⟨gx, 0, none⟩)] w1 (RdP w1 k rb gx 52 ((fun (x : Nm) => [Value.int .u64 x.job, Value.string x.path]) (rNm q').1).toArray (rNm q').2 (b' || (fun (x : Nm) => !pathB x.path) (rNm q').1))) :
  Calls Tryz.prog 97 #[.pointer (some ⟨k, 0, none⟩), .pointer (some ⟨g, o, none⟩), .int .i64 most, .func (.func 98) #[.pointer (some ⟨k, 0, none⟩)] #[]] w (LrP rNm (fun (x : Nm) => !pathB x.path) (fun (x : Nm) => [Value.int .u64 x.job, Value.string x.path]) 52 2 most w k rb g T A o q bad) := by
 have HC := Lib.hid (pcount_any c.2 most hm)
 have hr := cnt_range (s := q.s) (e := q.e) hm
 obtain ⟨n, hn⟩ : ∃ n : Nat, cV most q = n := ⟨(cV most q).toNat, by unfold cV; omega⟩
 have hn2 : n ≤ 1000000 := by
  by_cases h0 : cV most q = 0
  ·omega
  ·have h1 := (cnt_ok (s := q.s) (e := q.e) (most := most) (.inl h0))
   have h2 : cV most q = xI q.s := h1.1
   have h3 := h1.2.2.2.1
   omega
 have HRL : Hid (rL most rNm q = rdL rNm n (cS most q)) := Lib.hid (by unfold rL; rw [hn]; rfl)
 rw [show numV q.s q.e (cC q.s most) = n from hn] at HC
 have HLT := Lib.hid (And.intro c.1.lt (And.intro c.2.blk.lt hb.lt))
 have HG := Lib.hid (And.intro hgk hgr)
 have HA := Lib.hid ho
 have HBB := Lib.hid hb
 have HK := Lib.hid c
 have HO := Lib.hid hone
 have HN2 := Lib.hid hn2
 have c0 := c.c0
 unfold LrP
 rw [HRL.out]
 clear c hb ho hgk hgr hm hm2 hone hr hn hn2
 generalize hq1 : cS most q = q1 at *
 have HQ1 := Lib.hid hq1
 clear hq1
 go_enter Tryz.func97, Tryz.ntmps97
 go_upto_region 9 with (go_at_call 108; go_loud ((with_reducible refine HC.out.mono ?_); rintro e w1 ⟨rfl, hP, hOc⟩; have H1 := Lib.hid hP; have O1 := Lib.hid hOc; clear hP hOc))
 have hz0 : LrRel rNm (fun (x : Nm) => !pathB x.path) (fun (x : Nm) => [Value.int .u64 x.job, Value.string x.path]) 52 2 w k rb g T A o q1 bad n (.int .i64 0) w1 := ⟨0, [], q1, .slice none 0 0, Nat.zero_le _, rfl, ⟨⟨by
   have hkr : k ≠ rb := fun e => by have h1 := HK.out.1; rw [e] at h1; exact absurd (blk_ne h1 HK.out.2.blk) (by decide)
   have := HK.out.1.only O1.out hkr
   simpa using this, by rw [← HQ1.out]; exact H1.out⟩, by
   have := HBB.out.only O1.out HG.out.2
   rwa [show A.setIfInBounds o (.slice none 0 0) = A from by
    apply Array.ext_getElem?
    intro j
    rw [Array.getElem?_setIfInBounds]
    split
    ·next e => subst e; rw [HA.out, if_pos (Array.getElem?_eq_some_iff.1 HA.out).1]
    ·rfl], ⟨rfl, .inl ⟨rfl, rfl⟩⟩, O1.out.mono fun j _ e => .inr (.inl e)⟩, rfl, by simp⟩
 have HAS := Lib.hid (Array.getElem?_eq_some_iff.1 HA.out).1
 clear HC HRL H1 O1 HBB HA c0 HK HQ1
 go_wp2
 go_loopw [66] (fun u wr => LrRel rNm (fun (x : Nm) => !pathB x.path) (fun (x : Nm) => [Value.int .u64 x.job, Value.string x.path]) 52 2 w k rb g T A o q1 bad n u wr) (fun u _ => ((n : Int) - intOf u).toNat)
 case atStart => exact hz0
 case round =>
  clear hz0
  obtain ⟨i, ys, qi, v, hi1, rfl, hS, hyl, hrd⟩ := hrel
  have HS := Lib.hid hS
  have HYL := Lib.hid hyl
  have HRD := Lib.hid hrd
  have c0 := hS.kr.c0
  obtain ⟨pv, cv, rfl⟩ := owns_slice hS.row
  clear hS hyl hrd
  by_cases hi : i < n
  ·have hki : (i : Int) < (n : Int) := by omega
   have hn9 : n ≤ 140737488355328 := by have := HN2.out; omega
   have HE := Lib.hid (perr_any HS.out.kr.2)
   by_cases he : qi.e = 0
   ·have he' : (qi.e != 0) = false := by simpa using he
    have HE0 := Lib.hid he
    clear he
    generalize hqe : qi.e = qe at *
    have HONE := Lib.hid (HO.out (wr.alloc (.cells #[.int .u64 0, .string ⟨#[]⟩] 52)) qi (bad || ys.any (fun (x : Nm) => !pathB x.path)) wr.heap.size (HS.out.kr.below ((Below.refl _ wr).alloc (Nat.le_refl _) _)) (Blk.new wr 52 #[.int .u64 0, .string ⟨#[]⟩]) HS.out.on.size (Only.step HS.out.on ((Below.refl _ wr).alloc (Nat.le_refl _) _)))
    have HQE := Lib.hid hqe
    clear hqe
    go_upto_region 12 with (go_at_call 109; go_loud ((with_reducible refine HE.out.mono ?_); rintro e w9 ⟨rfl, hw9⟩; subst hw9))
    go_upto_region 13 with (go_at_call 98; ((with_reducible refine HONE.out.mono ?_); rintro e w2 ⟨rfl, b2, k2, o2⟩; have B2 := Lib.hid b2; have S2 := Lib.hid (LrSt.one (ob := .cells #[.int .u64 0, .string ⟨#[]⟩] 52) HS.out HLT.out HG.out.1 HG.out.2 k2 (show OnRd k rb _ _ _ from o2)); clear b2 k2 o2))
    have x0 : w2.cell? ⟨g, o, none⟩ = some (.slice pv ys.length cv) := by rw [S2.out.blk.cell o]; simp [HAS.out]
    have x0n : ∀ ob, (w2.alloc ob).cell? ⟨g, o, none⟩ = some (.slice pv ys.length cv) := fun ob => by rw [(S2.out.blk.alloc ob).cell o]; simp [HAS.out]
    obtain ⟨x, hx⟩ : ∃ x, (rNm qi).1 = x := ⟨_, rfl⟩
    have HXX := Lib.hid hx
    rw [hx] at B2
    clear hx
    have x1 : w2.cell? ⟨wr.heap.size, 0, none⟩ = some (.int .u64 x.job) := by rw [B2.out.cell 0]; rfl
    have x2 : w2.cell? ⟨wr.heap.size, 1, none⟩ = some (.string x.path) := by rw [B2.out.cell 1]; rfl
    have x1n : ∀ ob, (w2.alloc ob).cell? ⟨wr.heap.size, 0, none⟩ = some (.int .u64 x.job) := fun ob => by rw [(B2.out.alloc ob).cell 0]; rfl
    have x2n : ∀ ob, (w2.alloc ob).cell? ⟨wr.heap.size, 1, none⟩ = some (.string x.path) := fun ob => by rw [(B2.out.alloc ob).cell 1]; rfl
    have HROW : Hid (w2.drew.ownsRow w.heap.size 52 2 (.slice pv ys.length cv) ys.length (ys.flatMap (fun (x : Nm) => [Value.int .u64 x.job, Value.string x.path]))) := Lib.hid S2.out.row
    have HLEN : Hid (ys.length < 2147483648) := Lib.hid (by have := HYL.out; have := HN2.out; omega)
    have HBS : Hid (w.heap.size ≤ w2.drew.heap.size) := Lib.hid S2.out.on.size
    have HFIN : Hid (∀ v6 w6, w6.ownsRow w.heap.size 52 2 v6 (ys.length + 1) (ys.flatMap (fun (x : Nm) => [Value.int .u64 x.job, Value.string x.path]) ++ (fun (x : Nm) => [Value.int .u64 x.job, Value.string x.path]) x) → Only (fun j => (Value.slice pv ys.length cv).ownBlock = some j) w2.drew w6 → (w6.cell? ⟨g, o, none⟩ = some (.slice pv ys.length cv) ∧ w6.frozen? ⟨g, o, none⟩ = false) ∧ LrRel rNm (fun (x : Nm) => !pathB x.path) (fun (x : Nm) => [Value.int .u64 x.job, Value.string x.path]) 52 2 w k rb g T A o q1 bad n (.int .i64 ((i + 1 : Nat) : Int)) (w6.setCell ⟨g, o, none⟩ v6)) := Lib.hid fun v6 w6 h6 o6 => by
     have h := S2.out.app HG.out.1 HG.out.2 HLT.out h6 ⟨o6.os, o6.tape, o6.output, o6.size, o6.block⟩
     refine ⟨⟨by rw [h.1.cell o]; simp [HAS.out], h.1.frozen o⟩, i + 1, ys ++ [x], (rNm qi).2, v6, by omega, rfl, ?_, by rw [List.length_append]; simp [HYL.out], ?_⟩
     ·have := h.2
      first
       | (rw [HXX.out] at this; simpa only [List.any_append, List.any_cons, List.any_nil, Bool.or_false, Bool.or_assoc] using this)
       | simpa only [List.any_append, List.any_cons, List.any_nil, Bool.or_false, Bool.or_assoc] using this
     ·rw [HRD.out, show n - i = (n - (i + 1)) + 1 by omega, rdL_step (HQE.out.trans HE0.out), HXX.out]
      simp
    clear HE HONE HO HRD HXX S2 B2 HS
    go_region_law (go_loud (refine step_append_row2 (ys := (fun (x : Nm) => [Value.int .u64 x.job, Value.string x.path]) x) (by rfl) (by rfl) (by rfl) (by rfl) Tryz.underlying28 info_nm rfl rfl rfl (by decide) (by decide) HROW.out HLEN.out HBS.out (by first | rfl | simp) ?_; intro v6 w6 h6 o6; have HF6 := Lib.hid (HFIN.out _ _ h6 o6); obtain ⟨p6, c6, rfl⟩ := owns_slice h6; have d1 := HF6.out.1.1; have f1 := HF6.out.1.2; clear h6 o6))
    all_goals (go_wp2_with fail; go_roundw)
    all_goals first
     | (case rel => exact HF6.out.2)
     | (case measure => simp [intOf]; omega)
     | skip
   ·have he' : (qi.e != 0) = true := by simpa using he
    have HE0 := Lib.hid he
    clear he
    generalize hqe : qi.e = qe at *
    have HQE := Lib.hid hqe
    clear hqe
    go_wp2_with (go_at_call 109; go_loud ((with_reducible refine HE.out.mono ?_); rintro e w9 ⟨rfl, hw9⟩; subst hw9))
    refine bodyPost_ret (results_none rfl _ _ _) rfl ?_
    refine ⟨rfl, .slice pv ys.length cv, ?_⟩
    rw [HRD.out, rdL_stop (fun e => HE0.out (HQE.out.symm.trans e))]
    have := HS.out
    simpa using this
  ·have : i = n := by omega
   subst this
   go_wp2_with fail
   go_end0
   refine ⟨rfl, .slice pv ys.length cv, ?_⟩
   have h1 := HRD.out
   rw [Nat.sub_self] at h1
   rw [h1]
   have := HS.out
   simpa [rdL] using this
set_option maxRecDepth 100000 in
set_option maxHeartbeats 4000000 in
theorem listr_en {w : World} {k rb g o : Nat} {q : RS} {bad : Bool} {T : TypeId} {A : Array Value} {most : Int}  (c : KRd w k rb q bad) (hb : Blk w g T A) (ho : A[o]? = some (.slice none 0 0)) (hgk : g ≠ k) (hgr : g ≠ rb) (hm : I64 most) (hm2 : most ≤ 1000000)
  (hone : ∀ (w1 : World) (q' : RS) (b' : Bool) (gx : Nat), KRd w1 k rb q' b' → Blk w1 gx 54 #[.int .u64 0, .string ⟨#[]⟩, .int .i64 0, .int .i64 0, .int .i64 0] → w.heap.size ≤ gx → OnRd k rb g w w1 → Calls Tryz.prog 90 #[.pointer (some ⟨k, 0, none⟩), .pointer (some ⟨gx, 0, none⟩)] w1 (RdP w1 k rb gx 54 ((fun (x : En) => [Value.int .u64 x.nm.job, Value.string x.nm.path, Value.int .i64 x.kids, Value.int .i64 x.res.val, Value.int .i64 x.res.err]) (rEn q').1).toArray (rEn q').2 (b' || (fun (x : En) => !pathB x.nm.path || !resB x.res) (rEn q').1))) :
  Calls Tryz.prog 89 #[.pointer (some ⟨k, 0, none⟩), .pointer (some ⟨g, o, none⟩), .int .i64 most, .func (.func 90) #[.pointer (some ⟨k, 0, none⟩)] #[]] w (LrP rEn (fun (x : En) => !pathB x.nm.path || !resB x.res) (fun (x : En) => [Value.int .u64 x.nm.job, Value.string x.nm.path, Value.int .i64 x.kids, Value.int .i64 x.res.val, Value.int .i64 x.res.err]) 54 5 most w k rb g T A o q bad) := by
 have HC := Lib.hid (pcount_any c.2 most hm)
 have hr := cnt_range (s := q.s) (e := q.e) hm
 obtain ⟨n, hn⟩ : ∃ n : Nat, cV most q = n := ⟨(cV most q).toNat, by unfold cV; omega⟩
 have hn2 : n ≤ 1000000 := by
  by_cases h0 : cV most q = 0
  ·omega
  ·have h1 := (cnt_ok (s := q.s) (e := q.e) (most := most) (.inl h0))
   have h2 : cV most q = xI q.s := h1.1
   have h3 := h1.2.2.2.1
   omega
 have HRL : Hid (rL most rEn q = rdL rEn n (cS most q)) := Lib.hid (by unfold rL; rw [hn]; rfl)
 rw [show numV q.s q.e (cC q.s most) = n from hn] at HC
 have HLT := Lib.hid (And.intro c.1.lt (And.intro c.2.blk.lt hb.lt))
 have HG := Lib.hid (And.intro hgk hgr)
 have HA := Lib.hid ho
 have HBB := Lib.hid hb
 have HK := Lib.hid c
 have HO := Lib.hid hone
 have HN2 := Lib.hid hn2
 have c0 := c.c0
 unfold LrP
 rw [HRL.out]
 clear c hb ho hgk hgr hm hm2 hone hr hn hn2
 generalize hq1 : cS most q = q1 at *
 have HQ1 := Lib.hid hq1
 clear hq1
 go_enter Tryz.func89, Tryz.ntmps89
 go_upto_region 9 with (go_at_call 108; go_loud ((with_reducible refine HC.out.mono ?_); rintro e w1 ⟨rfl, hP, hOc⟩; have H1 := Lib.hid hP; have O1 := Lib.hid hOc; clear hP hOc))
 have hz0 : LrRel rEn (fun (x : En) => !pathB x.nm.path || !resB x.res) (fun (x : En) => [Value.int .u64 x.nm.job, Value.string x.nm.path, Value.int .i64 x.kids, Value.int .i64 x.res.val, Value.int .i64 x.res.err]) 54 5 w k rb g T A o q1 bad n (.int .i64 0) w1 := ⟨0, [], q1, .slice none 0 0, Nat.zero_le _, rfl, ⟨⟨by
   have hkr : k ≠ rb := fun e => by have h1 := HK.out.1; rw [e] at h1; exact absurd (blk_ne h1 HK.out.2.blk) (by decide)
   have := HK.out.1.only O1.out hkr
   simpa using this, by rw [← HQ1.out]; exact H1.out⟩, by
   have := HBB.out.only O1.out HG.out.2
   rwa [show A.setIfInBounds o (.slice none 0 0) = A from by
    apply Array.ext_getElem?
    intro j
    rw [Array.getElem?_setIfInBounds]
    split
    ·next e => subst e; rw [HA.out, if_pos (Array.getElem?_eq_some_iff.1 HA.out).1]
    ·rfl], ⟨rfl, .inl ⟨rfl, rfl⟩⟩, O1.out.mono fun j _ e => .inr (.inl e)⟩, rfl, by simp⟩
 have HAS := Lib.hid (Array.getElem?_eq_some_iff.1 HA.out).1
 clear HC HRL H1 O1 HBB HA c0 HK HQ1
 go_wp2
 go_loopw [66] (fun u wr => LrRel rEn (fun (x : En) => !pathB x.nm.path || !resB x.res) (fun (x : En) => [Value.int .u64 x.nm.job, Value.string x.nm.path, Value.int .i64 x.kids, Value.int .i64 x.res.val, Value.int .i64 x.res.err]) 54 5 w k rb g T A o q1 bad n u wr) (fun u _ => ((n : Int) - intOf u).toNat)
 case atStart => exact hz0
 case round =>
  clear hz0
  obtain ⟨i, ys, qi, v, hi1, rfl, hS, hyl, hrd⟩ := hrel
  have HS := Lib.hid hS
  have HYL := Lib.hid hyl
  have HRD := Lib.hid hrd
  have c0 := hS.kr.c0
  obtain ⟨pv, cv, rfl⟩ := owns_slice hS.row
  clear hS hyl hrd
  by_cases hi : i < n
  ·have hki : (i : Int) < (n : Int) := by omega
   have hn9 : n ≤ 140737488355328 := by have := HN2.out; omega
   have HE := Lib.hid (perr_any HS.out.kr.2)
   by_cases he : qi.e = 0
   ·have he' : (qi.e != 0) = false := by simpa using he
    have HE0 := Lib.hid he
    clear he
    generalize hqe : qi.e = qe at *
    have HONE := Lib.hid (HO.out (wr.alloc (.cells #[.int .u64 0, .string ⟨#[]⟩, .int .i64 0, .int .i64 0, .int .i64 0] 54)) qi (bad || ys.any (fun (x : En) => !pathB x.nm.path || !resB x.res)) wr.heap.size (HS.out.kr.below ((Below.refl _ wr).alloc (Nat.le_refl _) _)) (Blk.new wr 54 #[.int .u64 0, .string ⟨#[]⟩, .int .i64 0, .int .i64 0, .int .i64 0]) HS.out.on.size (Only.step HS.out.on ((Below.refl _ wr).alloc (Nat.le_refl _) _)))
    have HQE := Lib.hid hqe
    clear hqe
    go_upto_region 12 with (go_at_call 109; go_loud ((with_reducible refine HE.out.mono ?_); rintro e w9 ⟨rfl, hw9⟩; subst hw9))
    go_upto_region 13 with (go_at_call 90; ((with_reducible refine HONE.out.mono ?_); rintro e w2 ⟨rfl, b2, k2, o2⟩; have B2 := Lib.hid b2; have S2 := Lib.hid (LrSt.one (ob := .cells #[.int .u64 0, .string ⟨#[]⟩, .int .i64 0, .int .i64 0, .int .i64 0] 54) HS.out HLT.out HG.out.1 HG.out.2 k2 (show OnRd k rb _ _ _ from o2)); clear b2 k2 o2))
    have x0 : w2.cell? ⟨g, o, none⟩ = some (.slice pv ys.length cv) := by rw [S2.out.blk.cell o]; simp [HAS.out]
    have x0n : ∀ ob, (w2.alloc ob).cell? ⟨g, o, none⟩ = some (.slice pv ys.length cv) := fun ob => by rw [(S2.out.blk.alloc ob).cell o]; simp [HAS.out]
    obtain ⟨x, hx⟩ : ∃ x, (rEn qi).1 = x := ⟨_, rfl⟩
    have HXX := Lib.hid hx
    rw [hx] at B2
    clear hx
    have x1 : w2.cell? ⟨wr.heap.size, 0, none⟩ = some (.int .u64 x.nm.job) := by rw [B2.out.cell 0]; rfl
    have x2 : w2.cell? ⟨wr.heap.size, 1, none⟩ = some (.string x.nm.path) := by rw [B2.out.cell 1]; rfl
    have x3 : w2.cell? ⟨wr.heap.size, 2, none⟩ = some (.int .i64 x.kids) := by rw [B2.out.cell 2]; rfl
    have x4 : w2.cell? ⟨wr.heap.size, 3, none⟩ = some (.int .i64 x.res.val) := by rw [B2.out.cell 3]; rfl
    have x5 : w2.cell? ⟨wr.heap.size, 4, none⟩ = some (.int .i64 x.res.err) := by rw [B2.out.cell 4]; rfl
    have x1n : ∀ ob, (w2.alloc ob).cell? ⟨wr.heap.size, 0, none⟩ = some (.int .u64 x.nm.job) := fun ob => by rw [(B2.out.alloc ob).cell 0]; rfl
    have x2n : ∀ ob, (w2.alloc ob).cell? ⟨wr.heap.size, 1, none⟩ = some (.string x.nm.path) := fun ob => by rw [(B2.out.alloc ob).cell 1]; rfl
    have x3n : ∀ ob, (w2.alloc ob).cell? ⟨wr.heap.size, 2, none⟩ = some (.int .i64 x.kids) := fun ob => by rw [(B2.out.alloc ob).cell 2]; rfl
    have x4n : ∀ ob, (w2.alloc ob).cell? ⟨wr.heap.size, 3, none⟩ = some (.int .i64 x.res.val) := fun ob => by rw [(B2.out.alloc ob).cell 3]; rfl
    have x5n : ∀ ob, (w2.alloc ob).cell? ⟨wr.heap.size, 4, none⟩ = some (.int .i64 x.res.err) := fun ob => by rw [(B2.out.alloc ob).cell 4]; rfl
    have HROW : Hid (w2.drew.ownsRow w.heap.size 54 5 (.slice pv ys.length cv) ys.length (ys.flatMap (fun (x : En) => [Value.int .u64 x.nm.job, Value.string x.nm.path, Value.int .i64 x.kids, Value.int .i64 x.res.val, Value.int .i64 x.res.err]))) := Lib.hid S2.out.row
    have HLEN : Hid (ys.length < 2147483648) := Lib.hid (by have := HYL.out; have := HN2.out; omega)
    have HBS : Hid (w.heap.size ≤ w2.drew.heap.size) := Lib.hid S2.out.on.size
    have HFIN : Hid (∀ v6 w6, w6.ownsRow w.heap.size 54 5 v6 (ys.length + 1) (ys.flatMap (fun (x : En) => [Value.int .u64 x.nm.job, Value.string x.nm.path, Value.int .i64 x.kids, Value.int .i64 x.res.val, Value.int .i64 x.res.err]) ++ (fun (x : En) => [Value.int .u64 x.nm.job, Value.string x.nm.path, Value.int .i64 x.kids, Value.int .i64 x.res.val, Value.int .i64 x.res.err]) x) → Only (fun j => (Value.slice pv ys.length cv).ownBlock = some j) w2.drew w6 → (w6.cell? ⟨g, o, none⟩ = some (.slice pv ys.length cv) ∧ w6.frozen? ⟨g, o, none⟩ = false) ∧ LrRel rEn (fun (x : En) => !pathB x.nm.path || !resB x.res) (fun (x : En) => [Value.int .u64 x.nm.job, Value.string x.nm.path, Value.int .i64 x.kids, Value.int .i64 x.res.val, Value.int .i64 x.res.err]) 54 5 w k rb g T A o q1 bad n (.int .i64 ((i + 1 : Nat) : Int)) (w6.setCell ⟨g, o, none⟩ v6)) := Lib.hid fun v6 w6 h6 o6 => by
     have h := S2.out.app HG.out.1 HG.out.2 HLT.out h6 ⟨o6.os, o6.tape, o6.output, o6.size, o6.block⟩
     refine ⟨⟨by rw [h.1.cell o]; simp [HAS.out], h.1.frozen o⟩, i + 1, ys ++ [x], (rEn qi).2, v6, by omega, rfl, ?_, by rw [List.length_append]; simp [HYL.out], ?_⟩
     ·have := h.2
      first
       | (rw [HXX.out] at this; simpa only [List.any_append, List.any_cons, List.any_nil, Bool.or_false, Bool.or_assoc] using this)
       | simpa only [List.any_append, List.any_cons, List.any_nil, Bool.or_false, Bool.or_assoc] using this
     ·rw [HRD.out, show n - i = (n - (i + 1)) + 1 by omega, rdL_step (HQE.out.trans HE0.out), HXX.out]
      simp
    clear HE HONE HO HRD HXX S2 B2 HS
    go_region_law (go_loud (refine step_append_row2 (ys := (fun (x : En) => [Value.int .u64 x.nm.job, Value.string x.nm.path, Value.int .i64 x.kids, Value.int .i64 x.res.val, Value.int .i64 x.res.err]) x) (by rfl) (by rfl) (by rfl) (by rfl) Tryz.underlying26 info_en rfl rfl rfl (by decide) (by decide) HROW.out HLEN.out HBS.out (by first | rfl | simp) ?_; intro v6 w6 h6 o6; have HF6 := Lib.hid (HFIN.out _ _ h6 o6); obtain ⟨p6, c6, rfl⟩ := owns_slice h6; have d1 := HF6.out.1.1; have f1 := HF6.out.1.2; clear h6 o6))
    all_goals (go_wp2_with fail; go_roundw)
    all_goals first
     | (case rel => exact HF6.out.2)
     | (case measure => simp [intOf]; omega)
     | skip
   ·have he' : (qi.e != 0) = true := by simpa using he
    have HE0 := Lib.hid he
    clear he
    generalize hqe : qi.e = qe at *
    have HQE := Lib.hid hqe
    clear hqe
    go_wp2_with (go_at_call 109; go_loud ((with_reducible refine HE.out.mono ?_); rintro e w9 ⟨rfl, hw9⟩; subst hw9))
    refine bodyPost_ret (results_none rfl _ _ _) rfl ?_
    refine ⟨rfl, .slice pv ys.length cv, ?_⟩
    rw [HRD.out, rdL_stop (fun e => HE0.out (HQE.out.symm.trans e))]
    have := HS.out
    simpa using this
  ·have : i = n := by omega
   subst this
   go_wp2_with fail
   go_end0
   refine ⟨rfl, .slice pv ys.length cv, ?_⟩
   have h1 := HRD.out
   rw [Nat.sub_self] at h1
   rw [h1]
   have := HS.out
   simpa [rdL] using this
end Go.Proofs.YtghbjknpffiaiaaGreat

namespace Go.Proofs.YtghbjknpffiaiaaGreat
open Go.RowKit Wire Ms
set_option linter.unusedVariables false
set_option linter.unusedSimpArgs false
def Ends (Q : World → Prop) (e : Ending) (w' : World) : Prop := e = .returned (.tuple #[]) ∧ Q w'
section
variable {w : World} {k g : Nat} {Q : World → Prop}
set_option maxRecDepth 100000 in
theorem part_fuel (hg : g < w.heap.size) (h : Calls Tryz.prog 86 #[.pointer (some ⟨k, 0, none⟩), .pointer (some ⟨g, 5, none⟩), .int .u64 65536] w (Ends Q)) :
  Calls Tryz.prog 65 #[.pointer (some ⟨k, 0, none⟩), .pointer (some ⟨g, 0, none⟩)] w (Ends Q) := by
 have H := Lib.hid h
 clear h
 go_enter Tryz.func65, Tryz.ntmps65
 go_wp2_with (go_at_call 86; go_loud ((with_reducible refine H.out.mono ?_); rintro e w1 ⟨rfl, hq⟩; have HQ := Lib.hid hq; clear hq))
 go_end0
 exact ⟨rfl, HQ.out⟩
set_option maxRecDepth 100000 in
 theorem part_job (hg : g < w.heap.size) (h : Calls Tryz.prog 87 #[.pointer (some ⟨k, 0, none⟩), .pointer (some ⟨g, 1, none⟩), .int .u64 18446744073709551615] w (Ends Q)) :
   Calls Tryz.prog 66 #[.pointer (some ⟨k, 0, none⟩), .pointer (some ⟨g, 0, none⟩)] w (Ends Q) := by
  have H := Lib.hid h
  clear h
  go_enter Tryz.func66, Tryz.ntmps66
  go_wp2_with (go_at_call 87; go_loud ((with_reducible refine H.out.mono ?_); rintro e w1 ⟨rfl, hq⟩; have HQ := Lib.hid hq; clear hq))
  go_end0
  exact ⟨rfl, HQ.out⟩
set_option maxRecDepth 100000 in
  theorem part_err (hg : g < w.heap.size) (h : Calls Tryz.prog 88 #[.pointer (some ⟨k, 0, none⟩), .pointer (some ⟨g, 18, none⟩), .int .u64 9999] w (Ends Q)) :
    Calls Tryz.prog 67 #[.pointer (some ⟨k, 0, none⟩), .pointer (some ⟨g, 0, none⟩)] w (Ends Q) := by
   have H := Lib.hid h
   clear h
   go_enter Tryz.func67, Tryz.ntmps67
   go_wp2_with (go_at_call 88; go_loud ((with_reducible refine H.out.mono ?_); rintro e w1 ⟨rfl, hq⟩; have HQ := Lib.hid hq; clear hq))
   go_end0
   exact ⟨rfl, HQ.out⟩
set_option maxRecDepth 100000 in
   theorem part_program (hg : g < w.heap.size) (h : Calls Tryz.prog 93 #[.pointer (some ⟨k, 0, none⟩), .pointer (some ⟨g, 3, none⟩), .int .i64 16384] w (Ends Q)) :
     Calls Tryz.prog 70 #[.pointer (some ⟨k, 0, none⟩), .pointer (some ⟨g, 0, none⟩)] w (Ends Q) := by
    have H := Lib.hid h
    clear h
    go_enter Tryz.func70, Tryz.ntmps70
    go_wp2_with (go_at_call 93; go_loud ((with_reducible refine H.out.mono ?_); rintro e w1 ⟨rfl, hq⟩; have HQ := Lib.hid hq; clear hq))
    go_end0
    exact ⟨rfl, HQ.out⟩
set_option maxRecDepth 100000 in
    theorem part_token (hg : g < w.heap.size) (h : Calls Tryz.prog 93 #[.pointer (some ⟨k, 0, none⟩), .pointer (some ⟨g, 2, none⟩), .int .i64 32] w (Ends Q)) :
      Calls Tryz.prog 76 #[.pointer (some ⟨k, 0, none⟩), .pointer (some ⟨g, 0, none⟩)] w (Ends Q) := by
     have H := Lib.hid h
     clear h
     go_enter Tryz.func76, Tryz.ntmps76
     go_wp2_with (go_at_call 93; go_loud ((with_reducible refine H.out.mono ?_); rintro e w1 ⟨rfl, hq⟩; have HQ := Lib.hid hq; clear hq))
     go_end0
     exact ⟨rfl, HQ.out⟩
set_option maxRecDepth 100000 in
     theorem part_epoch (hg : g < w.heap.size) (h : Calls Tryz.prog 87 #[.pointer (some ⟨k, 0, none⟩), .pointer (some ⟨g, 10, none⟩), .int .u64 281474976710656] w (Ends Q)) :
       Calls Tryz.prog 72 #[.pointer (some ⟨k, 0, none⟩), .pointer (some ⟨g, 0, none⟩)] w (Ends Q) := by
      have H := Lib.hid h
      clear h
      go_enter Tryz.func72, Tryz.ntmps72
      go_wp2_with (go_at_call 87; go_loud ((with_reducible refine H.out.mono ?_); rintro e w1 ⟨rfl, hq⟩; have HQ := Lib.hid hq; clear hq))
      go_end0
      exact ⟨rfl, HQ.out⟩
set_option maxRecDepth 100000 in
      theorem part_result (hg : g < w.heap.size) (h : Calls Tryz.prog 101 #[.pointer (some ⟨k, 0, none⟩), .pointer (some ⟨g, 16, none⟩)] w (Ends Q)) :
        Calls Tryz.prog 79 #[.pointer (some ⟨k, 0, none⟩), .pointer (some ⟨g, 0, none⟩)] w (Ends Q) := by
       have H := Lib.hid h
       clear h
       go_enter Tryz.func79, Tryz.ntmps79
       go_wp2_with (go_at_call 101; go_loud ((with_reducible refine H.out.mono ?_); rintro e w1 ⟨rfl, hq⟩; have HQ := Lib.hid hq; clear hq))
       go_end0
       exact ⟨rfl, HQ.out⟩
set_option maxRecDepth 100000 in
       theorem part_names (hg : g < w.heap.size) (h : Calls Tryz.prog 97 #[.pointer (some ⟨k, 0, none⟩), .pointer (some ⟨g, 13, none⟩), .int .i64 128, .func (.func 98) #[.pointer (some ⟨k, 0, none⟩)] #[]] w (Ends Q)) :
         Calls Tryz.prog 73 #[.pointer (some ⟨k, 0, none⟩), .pointer (some ⟨g, 0, none⟩)] w (Ends Q) := by
        have H := Lib.hid h
        clear h
        go_enter Tryz.func73, Tryz.ntmps73
        go_wp2_with (go_at_call 97; go_loud ((with_reducible refine H.out.mono ?_); rintro e w1 ⟨rfl, hq⟩; have HQ := Lib.hid hq; clear hq))
        go_end0
        exact ⟨rfl, HQ.out⟩
set_option maxRecDepth 100000 in
        theorem part_entries (hg : g < w.heap.size) (h : Calls Tryz.prog 89 #[.pointer (some ⟨k, 0, none⟩), .pointer (some ⟨g, 11, none⟩), .int .i64 128, .func (.func 90) #[.pointer (some ⟨k, 0, none⟩)] #[]] w (Ends Q)) :
          Calls Tryz.prog 68 #[.pointer (some ⟨k, 0, none⟩), .pointer (some ⟨g, 0, none⟩)] w (Ends Q) := by
         have H := Lib.hid h
         clear h
         go_enter Tryz.func68, Tryz.ntmps68
         go_wp2_with (go_at_call 89; go_loud ((with_reducible refine H.out.mono ?_); rintro e w1 ⟨rfl, hq⟩; have HQ := Lib.hid hq; clear hq))
         go_end0
         exact ⟨rfl, HQ.out⟩
set_option maxRecDepth 100000 in
         theorem part_input (hg : g < w.heap.size) (h : Calls Tryz.prog 95 #[.pointer (some ⟨k, 0, none⟩), .pointer (some ⟨g, 4, none⟩), .int .i64 16, .func (.func 96) #[.pointer (some ⟨k, 0, none⟩)] #[]] w (Ends Q)) :
           Calls Tryz.prog 77 #[.pointer (some ⟨k, 0, none⟩), .pointer (some ⟨g, 0, none⟩)] w (Ends Q) := by
          have H := Lib.hid h
          clear h
          go_enter Tryz.func77, Tryz.ntmps77
          go_wp2_with (go_at_call 95; go_loud ((with_reducible refine H.out.mono ?_); rintro e w1 ⟨rfl, hq⟩; have HQ := Lib.hid hq; clear hq))
          go_end0
          exact ⟨rfl, HQ.out⟩
set_option maxRecDepth 100000 in
          theorem part_state (hg : g < w.heap.size) (h : Calls Tryz.prog 50 #[.pointer (some ⟨k, 0, none⟩), .pointer (some ⟨g, 15, none⟩), .int .u64 3] w (Ends Q)) :
            Calls Tryz.prog 78 #[.pointer (some ⟨k, 0, none⟩), .pointer (some ⟨g, 0, none⟩)] w (Ends Q) := by
           have H := Lib.hid h
           clear h
           go_enter Tryz.func78, Tryz.ntmps78
           go_wp2_with (go_at_call 50; go_loud ((with_reducible refine H.out.mono ?_); rintro e w1 ⟨rfl, hq⟩; have HQ := Lib.hid hq; clear hq))
           go_end0
           exact ⟨rfl, HQ.out⟩
           theorem clos_epochs {bx o : Nat} (hbx : w.cell? ⟨bx, 0, none⟩ = some (.pointer (some ⟨k, 0, none⟩))) (h : Calls Tryz.prog 87 #[.pointer (some ⟨k, 0, none⟩), .pointer (some ⟨g, o, none⟩), .int .u64 281474976710656] w (Ends Q)) :
             Calls Tryz.prog 92 #[.pointer (some ⟨g, o, none⟩), .pointer (some ⟨bx, 0, none⟩)] w (Ends Q) := by
            have H := Lib.hid h
            clear h
            go_enter Tryz.func92, Tryz.ntmps92
            go_wp2_with (go_at_call 87; go_loud ((with_reducible refine H.out.mono ?_); rintro e w1 ⟨rfl, hq⟩; have HQ := Lib.hid hq; clear hq))
            go_end0
            exact ⟨rfl, HQ.out⟩
            theorem clos_codes {bx o : Nat} (hbx : w.cell? ⟨bx, 0, none⟩ = some (.pointer (some ⟨k, 0, none⟩))) (h : Calls Tryz.prog 88 #[.pointer (some ⟨k, 0, none⟩), .pointer (some ⟨g, o, none⟩), .int .u64 9999] w (Ends Q)) :
              Calls Tryz.prog 100 #[.pointer (some ⟨g, o, none⟩), .pointer (some ⟨bx, 0, none⟩)] w (Ends Q) := by
             have H := Lib.hid h
             clear h
             go_enter Tryz.func100, Tryz.ntmps100
             go_wp2_with (go_at_call 88; go_loud ((with_reducible refine H.out.mono ?_); rintro e w1 ⟨rfl, hq⟩; have HQ := Lib.hid hq; clear hq))
             go_end0
             exact ⟨rfl, HQ.out⟩
end
end Go.Proofs.YtghbjknpffiaiaaGreat

namespace Go.Proofs.YtghbjknpffiaiaaGreat
open Go.RowKit Wire Ms
set_option linter.unusedVariables false
set_option linter.unusedSimpArgs false
section
variable {w : World} {k g : Nat} {Q : World → Prop}
set_option maxRecDepth 100000 in
theorem part_codes (hg : g < w.heap.size) (h : ∀ w2, Below w.heap.size w w2 → Blk w2 w.heap.size 55 #[.pointer (some ⟨k, 0, none⟩)] →
   Calls Tryz.prog 99 #[.pointer (some ⟨k, 0, none⟩), .pointer (some ⟨g, 14, none⟩), .int .i64 128, .func (.func 100) #[] #[.pointer (some ⟨w.heap.size, 0, none⟩)]] w2 (Ends Q)) :
  Calls Tryz.prog 74 #[.pointer (some ⟨k, 0, none⟩), .pointer (some ⟨g, 0, none⟩)] w (Ends Q) := by
 have H := Lib.hid h
 have HG := Lib.hid hg
 clear h hg
 go_enter Tryz.func74, Tryz.ntmps74
 go_upto_region 1 with fail
 have hc : (w.alloc (.cells #[.pointer (some ⟨k, 0, none⟩)] 55)).cell? ⟨w.heap.size, 0, none⟩ = some (.pointer (some ⟨k, 0, none⟩)) := by rw [(Blk.new w _ _).cell 0]; rfl
 have HB := Lib.hid ((Below.refl _ w).alloc (Nat.le_refl _) (.cells #[.pointer (some ⟨k, 0, none⟩)] 55)).drew
 have HC := Lib.hid (H.out _ HB.out (Blk.new w _ _).drew)
 clear H
 generalize w.alloc (.cells #[.pointer (some ⟨k, 0, none⟩)] 55) = V at *
 generalize w.heap.size = bx at *
 go_region_with (go_at_call 99; go_loud ((with_reducible refine HC.out.mono ?_); rintro e w1 ⟨rfl, hq⟩; have HQ := Lib.hid hq; clear hq))
 all_goals (go_wp2_with fail; go_end0; exact ⟨rfl, HQ.out⟩)
end
end Go.Proofs.YtghbjknpffiaiaaGreat

namespace Go.Proofs.YtghbjknpffiaiaaGreat
open Go.RowKit Wire Ms
set_option linter.unusedVariables false
set_option linter.unusedSimpArgs false
section
variable {w : World} {k g : Nat} {Q Q1 : World → Prop} {b1 : Bool} {kd : Int} {n m : Nat}
set_option maxRecDepth 100000 in
set_option maxHeartbeats 1000000 in
theorem part_epochs (hg : g < w.heap.size) (h : ∀ w2, Below w.heap.size w w2 → Blk w2 w.heap.size 55 #[.pointer (some ⟨k, 0, none⟩)] →
   Calls Tryz.prog 91 #[.pointer (some ⟨k, 0, none⟩), .pointer (some ⟨g, 12, none⟩), .int .i64 128, .func (.func 92) #[] #[.pointer (some ⟨w.heap.size, 0, none⟩)]] w2 (Ends Q1))
  (hq : ∀ w1, Q1 w1 → w1.cell? ⟨w.heap.size, 0, none⟩ = some (.pointer (some ⟨k, 0, none⟩)) ∧ w1.cell? ⟨k, 2, none⟩ = some (.bool b1) ∧ w1.frozen? ⟨k, 2, none⟩ = false ∧ w1.cell? ⟨g, 0, none⟩ = some (.int .u8 kd) ∧
   (∃ p c, w1.cell? ⟨g, 12, none⟩ = some (.slice p n c)) ∧ ∃ p c, w1.cell? ⟨g, 11, none⟩ = some (.slice p m c))
  (hf : ∀ w1 w2, Q1 w1 → Below w1.heap.size w1 w2 → Q (w2.setCell ⟨k, 2, none⟩ (.bool (b1 || (kd == 4 && n != m))))) :
  Calls Tryz.prog 69 #[.pointer (some ⟨k, 0, none⟩), .pointer (some ⟨g, 0, none⟩)] w (Ends Q) := by
 have H := Lib.hid h
 have HQQ := Lib.hid hq
 have HF := Lib.hid hf
 clear h hg hq hf
 go_enter Tryz.func69, Tryz.ntmps69
 go_upto_region 1 with fail
 have hc : (w.alloc (.cells #[.pointer (some ⟨k, 0, none⟩)] 55)).cell? ⟨w.heap.size, 0, none⟩ = some (.pointer (some ⟨k, 0, none⟩)) := by rw [(Blk.new w _ _).cell 0]; rfl
 have HB := Lib.hid ((Below.refl _ w).alloc (Nat.le_refl _) (.cells #[.pointer (some ⟨k, 0, none⟩)] 55)).drew
 have HC := Lib.hid (H.out _ HB.out (Blk.new w _ _).drew)
 clear H
 generalize w.alloc (.cells #[.pointer (some ⟨k, 0, none⟩)] 55) = V at *
 generalize w.heap.size = bx at *
 go_upto_region 2 with fail
 go_cut [2, 1] (fun a b wc => a = .pointer (some ⟨bx, 0, none⟩) ∧ b = .pointer (some ⟨g, 0, none⟩) ∧ Q1 wc)
 case first =>
  go_region_with (go_at_call 91; go_loud ((with_reducible refine HC.out.mono ?_); rintro e w1 ⟨rfl, hq⟩; have HQ := Lib.hid hq; clear hq))
  all_goals (go_wp2_with fail; go_meet)
  all_goals exact ⟨rfl, rfl, HQ.out⟩
 case rest =>
  clear HC HB hc
  obtain ⟨rfl, rfl, hq⟩ := hcut
  obtain ⟨z0, z1, z2, z3, ⟨p, c, z4⟩, ⟨p', c', z5⟩⟩ := HQQ.out _ hq
  have HR := Lib.hid (HF.out wc wc.drew hq (Below.refl _ wc).drew)
  clear hq HQQ HF
  cases b1 with
  | true =>
   rw [Bool.true_or] at HR
   go_wp2_with fail
   go_region
   all_goals (go_wp2_with fail; go_end0; exact ⟨rfl, HR.out⟩)
  | false =>
   rw [Bool.false_or] at HR
   by_cases hk : kd = 4
   ·have hk' : (kd == 4) = true := by simpa using hk
    rw [hk', Bool.true_and] at HR
    by_cases hn : n = m
    ·have hn' : ((n : Int) != (m : Int)) = false := by simp [hn]
     rw [show (n != m) = false by simp [hn]] at HR
     clear hk hn
     go_wp2_with fail
     go_region
     all_goals (go_wp2_with fail; go_end0; exact ⟨rfl, HR.out⟩)
    ·have hn' : ((n : Int) != (m : Int)) = true := by simp; omega
     rw [show (n != m) = true by simp [hn]] at HR
     clear hk hn
     go_wp2_with fail
     go_region
     all_goals (go_wp2_with fail; go_end0; exact ⟨rfl, HR.out⟩)
   ·have hk' : (kd == 4) = false := by simpa using hk
    rw [hk', Bool.false_and] at HR
    clear hk
    go_wp2_with fail
    go_region
    all_goals (go_wp2_with fail; go_end0; exact ⟨rfl, HR.out⟩)
end
end Go.Proofs.YtghbjknpffiaiaaGreat

namespace Go.Proofs.YtghbjknpffiaiaaGreat
open Go.RowKit Wire Ms
set_option linter.unusedVariables false
set_option linter.unusedSimpArgs false
section
variable {w : World} {k g : Nat} {Q Q1 : World → Prop} {b1 : Bool} {n m : Nat}
set_option maxRecDepth 100000 in
set_option maxHeartbeats 1000000 in
theorem part_dropped (h : Calls Tryz.prog 73 #[.pointer (some ⟨k, 0, none⟩), .pointer (some ⟨g, 0, none⟩)] w (Ends Q1))
  (hq : ∀ w1, Q1 w1 → w1.cell? ⟨k, 2, none⟩ = some (.bool b1) ∧ w1.frozen? ⟨k, 2, none⟩ = false ∧ (∃ p c, w1.cell? ⟨g, 12, none⟩ = some (.slice p n c)) ∧ ∃ p c, w1.cell? ⟨g, 13, none⟩ = some (.slice p m c))
  (hf : ∀ w1 w2, Q1 w1 → Below w1.heap.size w1 w2 → Q (w2.setCell ⟨k, 2, none⟩ (.bool (b1 || n != m)))) :
  Calls Tryz.prog 75 #[.pointer (some ⟨k, 0, none⟩), .pointer (some ⟨g, 0, none⟩)] w (Ends Q) := by
 have H := Lib.hid h
 have HQQ := Lib.hid hq
 have HF := Lib.hid hf
 clear h hq hf
 go_enter Tryz.func75, Tryz.ntmps75
 go_upto_region 1 with (go_at_call 73; go_loud ((with_reducible refine H.out.mono ?_); rintro e wc ⟨rfl, hq⟩; have HQ := Lib.hid hq; clear hq))
 clear H
 obtain ⟨z1, z2, ⟨p, c, z4⟩, ⟨p', c', z5⟩⟩ := HQQ.out _ HQ.out
 have HR := Lib.hid (HF.out wc wc.drew HQ.out (Below.refl _ wc).drew)
 clear HQ HQQ HF
 cases b1 with
 | true =>
  rw [Bool.true_or] at HR
  go_wp2_with fail
  go_region
  all_goals (go_wp2_with fail; go_end0; exact ⟨rfl, HR.out⟩)
 | false =>
  rw [Bool.false_or] at HR
  by_cases hn : n = m
  ·have hn' : ((n : Int) != (m : Int)) = false := by simp [hn]
   rw [show (n != m) = false by simp [hn]] at HR
   clear hn
   go_wp2_with fail
   go_region
   all_goals (go_wp2_with fail; go_end0; exact ⟨rfl, HR.out⟩)
  ·have hn' : ((n : Int) != (m : Int)) = true := by simp; omega
   rw [show (n != m) = true by simp [hn]] at HR
   clear hn
   go_wp2_with fail
   go_region
   all_goals (go_wp2_with fail; go_end0; exact ⟨rfl, HR.out⟩)
end
end Go.Proofs.YtghbjknpffiaiaaGreat

namespace Go.Proofs.YtghbjknpffiaiaaGreat
open Go.RowKit Wire Ms
set_option linter.unusedVariables false
set_option linter.unusedSimpArgs false
section
variable {w : World} {k g : Nat} {Q1 Q2 Q3 Q : World → Prop}
set_option maxRecDepth 100000 in
set_option maxHeartbeats 1000000 in
theorem part_task (h1 : Calls Tryz.prog 94 #[.pointer (some ⟨k, 0, none⟩), .pointer (some ⟨g, 6, none⟩)] w (Ends Q1))
  (h2 : ∀ w1, Q1 w1 → Calls Tryz.prog 86 #[.pointer (some ⟨k, 0, none⟩), .pointer (some ⟨g, 7, none⟩), .int .u64 15] w1 (Ends Q2))
  (h3 : ∀ w1, Q2 w1 → Calls Tryz.prog 95 #[.pointer (some ⟨k, 0, none⟩), .pointer (some ⟨g, 8, none⟩), .int .i64 16, .func (.func 96) #[.pointer (some ⟨k, 0, none⟩)] #[]] w1 (Ends Q3))
  (h4 : ∀ w1, Q3 w1 → Calls Tryz.prog 86 #[.pointer (some ⟨k, 0, none⟩), .pointer (some ⟨g, 9, none⟩), .int .u64 65536] w1 (Ends Q)) :
  Calls Tryz.prog 71 #[.pointer (some ⟨k, 0, none⟩), .pointer (some ⟨g, 0, none⟩)] w (Ends Q) := by
 have H1 := Lib.hid h1
 have H2 := Lib.hid h2
 have H3 := Lib.hid h3
 have H4 := Lib.hid h4
 clear h1 h2 h3 h4
 go_enter Tryz.func71, Tryz.ntmps71
 go_upto_region 2 with (go_at_call 94; go_loud ((with_reducible refine H1.out.mono ?_); rintro e w1 ⟨rfl, q1⟩; have G2 := Lib.hid (H2.out _ q1); clear q1))
 go_upto_region 3 with (go_at_call 86; go_loud ((with_reducible refine G2.out.mono ?_); rintro e w2 ⟨rfl, q2⟩; have G3 := Lib.hid (H3.out _ q2); clear q2))
 go_upto_region 4 with (go_at_call 95; go_loud ((with_reducible refine G3.out.mono ?_); rintro e w3 ⟨rfl, q3⟩; have G4 := Lib.hid (H4.out _ q3); clear q3))
 go_wp2_with (go_at_call 86; go_loud ((with_reducible refine G4.out.mono ?_); rintro e w4 ⟨rfl, q4⟩; have HQ := Lib.hid q4; clear q4))
 go_end0
 exact ⟨rfl, HQ.out⟩
end
end Go.Proofs.YtghbjknpffiaiaaGreat
