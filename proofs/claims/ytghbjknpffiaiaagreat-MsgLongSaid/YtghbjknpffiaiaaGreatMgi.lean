import Derived.Test.YtghbjknpffiaiaaGreatMgg
import Derived.Test.YtghbjknpffiaiaaGreatMgh
import Derived.Test.YtghbjknpffiaiaaGreatMge
import Derived.Maps.OwnOps
import Derived.DeepKeys4
import Derived.Sort.MapsRangeIn
namespace Go.Proofs.YtghbjknpffiaiaaGreat
open Go.RowKit Wire Ms
set_option linter.unusedVariables false
set_option linter.unusedSimpArgs false
section
variable {w : World} {B k g o : Nat} {out : Ls} {bad : Bool} {L : Nat}
set_option maxRecDepth 100000 in
set_option maxHeartbeats 4000000 in
theorem listw_nm {n : Nat} {pX : Option Addr} {cX : Nat} {most : Int} {OUT : Nat → Ls} {BAD : Nat → Bool} {LL : Nat → Nat} (c : KWb w B k out bad L) (hB : B ≤ w.heap.size) (hL : L ≤ 1000000000) (hx : w.cell? ⟨g, o, none⟩ = some (.slice pX n cX)) (hg : Away w B k g) (hr : n ≤ 140737488355328)
  (hz : OUT 0 = out ++ Num.leb n ∧ BAD 0 = (bad || decide (most < (n : Int))) ∧ LL 0 = L + 10) (hp : 0 < n → ∃ b off, pX = some ⟨b, off, none⟩ ∧ b < w.heap.size)
  (hone : ∀ b off, pX = some ⟨b, off, none⟩ → ∀ i, i < n → ∀ w', OnW B k w w' → KWb w' B k (OUT i) (BAD i) (LL i) → Calls Tryz.prog 98 #[.pointer (some ⟨k, 0, none⟩), .pointer (some ⟨b, off + i * 2, none⟩)] w' (WrP w' B k (OUT (i + 1)) (BAD (i + 1)) (LL (i + 1)))) :
  Calls Tryz.prog 97 #[.pointer (some ⟨k, 0, none⟩), .pointer (some ⟨g, o, none⟩), .int .i64 most, .func (.func 98) #[.pointer (some ⟨k, 0, none⟩)] #[]] w (WrP w B k (OUT n) (BAD n) (LL n)) := by
 obtain ⟨hz1, hz2, hz3⟩ := hz
 have HX := Lib.hid hx
 have HP := Lib.hid hp
 have HN := Lib.hid hone
 clear hp hone
 obtain ⟨out', c, ho, hl⟩ := c
 obtain ⟨vO, h1, h2, h3⟩ := c
 obtain ⟨pO, cO, rfl⟩ := owns_slice h2
 have c0 : w.cell? ⟨k, 0, none⟩ = some (.pointer none) := by rw [h1.cell 0]; rfl
 have c1 : w.cell? ⟨k, 1, none⟩ = some (.slice pO out'.length cO) := by rw [h1.cell 1]; rfl
 have c2 : w.cell? ⟨k, 2, none⟩ = some (.bool bad) := by rw [h1.cell 2]; rfl
 have cf := h1.frozen
 have HBK := Lib.hid h1
 have HRW := Lib.hid h2
 have HGE := Lib.hid h3
 have HG := Lib.hid hg
 have HO := Lib.hid (And.intro ho hl)
 have HL := Lib.hid hL
 have HB := Lib.hid hB
 have hyy : U64 (IntKind.u64.wrap (n : Int)) ∧ IntKind.u64.wrap (n : Int) = n := by rw [IntKind.wrap_u64]; unfold U64; omega
 obtain ⟨y, hy⟩ : ∃ y, IntKind.u64.wrap (n : Int) = y := ⟨_, rfl⟩
 rw [hy] at hyy
 have HY := Lib.hid hyy
 obtain ⟨bb, hbb⟩ : ∃ bb, (bad || decide (most < (n : Int))) = bb := ⟨_, rfl⟩
 rw [hbb] at hz2
 have HBB := Lib.hid hbb
 have HLEN : Hid (out'.length + (Num.lebS y).size ≤ 140737488355328) := Lib.hid (by have := lebS_size HY.out.1.2; have := HO.out.2; have := HL.out; omega)
 have HFB : Hid (∀ {W : World}, KWr W B k (out' ++ Ms.bl (Num.lebS y)) bb → KWb W B k (OUT 0) (BAD 0) (LL 0)) := Lib.hid fun h => by
  rw [hz1, hz2, hz3]
  exact KWr.kwb h HO.out.1 HO.out.2 (fun e => by
   have h := HBB.out
   rw [e, Bool.or_eq_false_iff] at h
   refine ⟨h.1, ?_⟩
   rw [Ms.bl_leb, HY.out.2]
   rfl) (by rw [Ms.bl_len]; exact lebS_size HY.out.1.2)
 have HW : Hid (∀ (w : World) gl, Blk w gl 22 #[.int .u64 y] → Calls Tryz.prog 64 #[.slice (some ⟨gl, 0, none⟩) 1 1] w (StPost (Num.lebS y) w)) := Lib.hid fun w gl h => uintsB HY.out.1 h
 have HNB := Lib.hid hr
 clear h1 h2 h3 hg ho hl hL hB hyy hr hz1 hz2 hz3
 cases bad with
 | true =>
  have hbt : bb = true := by rw [← hbb]; rfl
  clear hbb
  subst hbt
  go_enter Tryz.func97, Tryz.ntmps97
  go_upto_region 2 with fail
  have OV : Only (· = k) w (w.setCell ⟨k, 2, none⟩ (.bool true)) := (Only.refl _ w).set1
  have HBV : Hid (Blk (w.setCell ⟨k, 2, none⟩ (.bool true)) k 58 #[.pointer none, .slice pO out'.length cO, .bool true]) := Lib.hid (HBK.out.set 2 (.bool true))
  have HRV := Lib.hid (owns_only HRW.out OV (owns_ne HRW.out HBK.out (by decide)))
  have HOV : Hid (OnW B k w (w.setCell ⟨k, 2, none⟩ (.bool true))) := Lib.hid (OV.mono fun j _ e => .inl e)
  have y1 := HOV.out.cell HG.out hx
  have HAV := Lib.hid (HG.out.onW HOV.out (World.block_lt_of_cell? _ _ hx))
  have HBS : Hid (B ≤ ((w.setCell ⟨k, 2, none⟩ (.bool true))).heap.size) := Lib.hid (Nat.le_trans HB.out OV.size)
  clear OV c0 c1 c2 cf hx
  generalize (w.setCell ⟨k, 2, none⟩ (.bool true)) = V at *
  have HI0 : Hid (PutI V B k g o (.slice pO out'.length cO) true (.slice pX n cX) V) := Lib.hid ⟨HBV.out, y1, OnW.refl _ _ _, HAV.out⟩
  have HROW : Hid (V.drew.ownsRow B 5 1 (.slice pO out'.length cO) out'.length (Lib.byteCells out') ∧ B ≤ V.drew.heap.size) := Lib.hid ⟨HRV.out, HBS.out⟩
  have HLT : Hid (∀ j, (Value.slice pO out'.length cO).ownBlock = some j → j < V.heap.size) := Lib.hid fun j hj => (owns_type HRV.out hj).choose_spec.2.2
  clear y1
  refine Reg.wp_rely 15 (PutI V B k g o (.slice pO out'.length cO) true (.slice pX n cX)) (by kernel_rfl) (Reg.relyOk_of (by kernel_rfl)) HI0.out.drew (fun w w' h hI => hI.below h) ?_
  refine Reg.rely_plain (.pointer (some ⟨k, 0, none⟩)) rfl (fun a w hI hF => by
    have f1 : a.tmps.getD 0 undef = .pointer (some ⟨k, 0, none⟩) := hF 0 (Reg.looksB (by kernel_rfl))
    clear hF hI
    simp only [Array.getD_eq_getD_getElem?] at f1
    simp only [execOp]; go_simp) ?_
  refine Reg.rely_plain (.pointer (some ⟨k, 0, none⟩)) rfl (fun a w hI hF => by
    have f1 : a.tmps.getD 0 undef = .pointer (some ⟨k, 0, none⟩) := hF 0 (Reg.looksB (by kernel_rfl))
    clear hF hI
    simp only [Array.getD_eq_getD_getElem?] at f1
    simp only [execOp]; go_simp) ?_
  refine Reg.rely_plain (.pointer (some ⟨k, 0, none⟩)) rfl (fun a w hI hF => by
    have f1 : a.tmps.getD 31 undef = .pointer (some ⟨k, 0, none⟩) := hF 31 (Reg.looksB (by kernel_rfl))
    clear hF hI
    simp only [Array.getD_eq_getD_getElem?] at f1
    simp only [execOp]; go_simp) ?_
  refine Reg.rely_plain (.pointer (some ⟨k, 1, none⟩)) rfl (fun a w hI hF => by
    have f1 : a.tmps.getD 32 undef = .pointer (some ⟨k, 0, none⟩) := hF 32 (Reg.looksB (by kernel_rfl))
    clear hF hI
    simp only [Array.getD_eq_getD_getElem?] at f1
    simp only [execOp]; go_simp) ?_
  refine Reg.rely_plain (.slice pO out'.length cO) rfl (fun a w hI hF => by
    have f1 : a.tmps.getD 33 undef = .pointer (some ⟨k, 1, none⟩) := hF 33 (Reg.looksB (by kernel_rfl))
    have hc : w.cell? ⟨k, 1, none⟩ = some (.slice pO out'.length cO) := by rw [hI.kb.cell 1]; rfl
    clear hF hI
    simp only [Array.getD_eq_getD_getElem?] at f1
    simp only [execOp]; go_simp) ?_
  refine Reg.rely_plain (.pointer (some ⟨g, o, none⟩)) rfl (fun a w hI hF => by
    have f1 : a.tmps.getD 1 undef = .pointer (some ⟨g, o, none⟩) := hF 1 (Reg.looksB (by kernel_rfl))
    clear hF hI
    simp only [Array.getD_eq_getD_getElem?] at f1
    simp only [execOp]; go_simp) ?_
  refine Reg.rely_plain (.pointer (some ⟨g, o, none⟩)) rfl (fun a w hI hF => by
    have f1 : a.tmps.getD 35 undef = .pointer (some ⟨g, o, none⟩) := hF 35 (Reg.looksB (by kernel_rfl))
    clear hF hI
    simp only [Array.getD_eq_getD_getElem?] at f1
    simp only [execOp]; go_simp) ?_
  refine Reg.rely_plain (.slice pX n cX) rfl (fun a w hI hF => by
    have f1 : a.tmps.getD 36 undef = .pointer (some ⟨g, o, none⟩) := hF 36 (Reg.looksB (by kernel_rfl))
    have hc := hI.cell
    clear hF hI
    simp only [Array.getD_eq_getD_getElem?] at f1
    simp only [execOp]; go_simp) ?_
  refine Reg.rely_plain (.int .i64 n) rfl (fun a w hI hF => by
    have f1 : a.tmps.getD 37 undef = .slice pX n cX := hF 37 (Reg.looksB (by kernel_rfl))
    clear hF hI
    simp only [Array.getD_eq_getD_getElem?] at f1
    simp only [execOp]; go_simp) ?_
  refine Reg.rely_plain (.int .u64 y) rfl (fun a w hI hF => by
    have f1 : a.tmps.getD 38 undef = .int .i64 n := hF 38 (Reg.looksB (by kernel_rfl))
    clear hF hI
    simp only [Array.getD_eq_getD_getElem?] at f1
    simp only [execOp]; go_simp) ?_
  refine Reg.rely_rel (fun v w => ∃ gl, v = .slice (some ⟨gl, 0, none⟩) 1 1 ∧ V.heap.size ≤ gl ∧ Blk w gl 22 #[.int .u64 y]) (fun v w w' h hS => by obtain ⟨gl, h1, h2, h3⟩ := hS; exact ⟨gl, h1, h2, h3.below h⟩) (fun G hG => by cases hG) rfl (fun a w hI hF => by
   have f1 : a.tmps.getD 39 undef = .int .u64 y := hF 39 (Reg.looksB (by kernel_rfl))
   have hK := Lib.hid (Blk.new w 22 #[.int .u64 y])
   have hQ := Lib.hid hI.on.size
   have hW := Lib.hid (show Reg.Grow w (w.alloc (.cells #[.int .u64 y] 22)) from (Below.refl _ w).alloc (Nat.le_refl _) _)
   clear hF hI
   simp only [Array.getD_eq_getD_getElem?] at f1
   unfold Oper.wp
   simp only [execOp]
   go_simp
   exact ⟨_, rfl, ⟨_, rfl, hQ.out, hK.out⟩, hW.out⟩) ?_
  refine Reg.rely_call0 (Reg.Is (.string (Num.lebS y))) (Reg.stab_is _ _) (fun G hG => by cases hG) rfl (fun a w hI hF => by
   obtain ⟨gl, f1, hg1, hgl⟩ : ∃ gl, a.tmps.getD 40 undef = .slice (some ⟨gl, 0, none⟩) 1 1 ∧ V.heap.size ≤ gl ∧ Blk w gl 22 #[.int .u64 y] := hF 40 (Reg.looksB (by kernel_rfl))
   refine ⟨64, #[.slice (some ⟨gl, 0, none⟩) 1 1], ?_, (HW.out w gl hgl).mono fun e w' h => ⟨_, h.1, rfl, h.2⟩⟩
   clear hF hI hgl hg1
   simp only [Array.getD_eq_getD_getElem?] at f1
   simp only [execOp]; go_simp) ?_
  refine Reg.rely_turn (fun v w => w.ownsRow B 5 1 v (out' ++ Ms.bl (Num.lebS y)).length (Lib.byteCells (out' ++ Ms.bl (Num.lebS y)))) (PutG V.heap.size B (.slice pO out'.length cO)) (fun w => w.ownsRow B 5 1 (.slice pO out'.length cO) out'.length (Lib.byteCells out') ∧ B ≤ w.heap.size) (fun v w w' h hS => owns_below hS h) (fun G hG => by cases hG) (fun w w' h hI => hI.turn h) ?_ rfl (fun w w' h hJ => ⟨owns_below hJ.1 h, Nat.le_trans hJ.2 h.size⟩) ⟨HROW.out.1, HROW.out.2⟩ (fun G hG => by cases hG) (fun G hG => by cases hG) (fun a w hI hJ hF => ?_) ?_
  ·intro p hp
   repeat (rcases List.mem_cons.1 hp with rfl | hp; first | exact Reg.stab_is _ _ | exact fun v w w' h hS => by obtain ⟨gl, h1, h2, h3⟩ := hS; exact ⟨gl, h1, h2, h.keep h2 h3⟩)
   cases hp
  ·have f1 : a.tmps.getD 34 undef = .slice pO out'.length cO := hF 34 (Reg.looksB (by kernel_rfl))
   have f2 : a.tmps.getD 41 undef = .string (Num.lebS y) := hF 41 (Reg.looksB (by kernel_rfl))
   exact putRun (t := 48) (u := 9) (sl := .tmp 34) (x := .tmp 41) rfl Tryz.underlying48 Tryz.underlying9 info_u8 rfl f1 f2 hJ.1 HLEN.out hJ.2 HLT.out
  refine Reg.rely_is (.pointer (some ⟨k, 0, none⟩)) (fun a w hI hF => Reg.det_plain rfl ?_) ?_
  ·have f1 : a.tmps.getD 30 undef = .pointer (some ⟨k, 0, none⟩) := hF 30 (Reg.looksB (by kernel_rfl))
   clear hF hI
   simp only [Array.getD_eq_getD_getElem?] at f1
   simp only [execOp]; go_simp
  refine Reg.rely_is (.pointer (some ⟨k, 1, none⟩)) (fun a w hI hF => Reg.det_plain rfl ?_) ?_
  ·have f1 : a.tmps.getD 43 undef = .pointer (some ⟨k, 0, none⟩) := hF 43 (Reg.looksB (by kernel_rfl))
   clear hF hI
   simp only [Array.getD_eq_getD_getElem?] at f1
   simp only [execOp]; go_simp
  refine Reg.rely_nil ?_
  refine Reg.final_is ?_
  refine Reg.final_is ?_
  refine Reg.final_rel (fun v12 => ?_)
  refine Reg.final_is ?_
  refine Reg.final_rel (fun v10 => ?_)
  refine Reg.final_is ?_
  refine Reg.final_is ?_
  refine Reg.final_is ?_
  refine Reg.final_is ?_
  refine Reg.final_is ?_
  refine Reg.final_is ?_
  refine Reg.final_is ?_
  refine Reg.final_is ?_
  refine Reg.final_is ?_
  refine Reg.final_is ?_
  refine Reg.final_nil (fun w9 hF => ?_)
  have HI9 := Lib.hid hF.1.1
  have HS9 := Lib.hid hF.1.2
  clear hF
  simp only [List.drop_succ_cons, List.drop_zero]
  go_simp
  have d1 : w9.cell? ⟨k, 1, none⟩ = some (.slice pO out'.length cO) := by rw [HI9.out.kb.cell 1]; rfl
  have f1 := HI9.out.kb.frozen 1
  obtain ⟨p9, c9, rfl⟩ := owns_slice HS9.out
  generalize hl9 : (out' ++ Ms.bl (Num.lebS y)).length = l9
  have HL9 := Lib.hid hl9
  clear hl9
  go_wp2_with fail
  refine Reg.fin (by kernel_rfl) ?_
  go_upto_region 3 with fail
  have hkw := KWr.put2 HI9.out.kb HGE.out HS9.out
  rw [HL9.out] at hkw
  have HKW := Lib.hid (HFB.out hkw.1)
  have HON := Lib.hid (HOV.out.trans (HI9.out.on.trans hkw.2))
  have x3 := HON.out.cell HG.out HX.out
  clear hkw HI9 HS9 HRV HBV HOV HAV HI0 HROW HLT HW HLEN HFB d1 f1
  generalize World.setCell w9 _ _ = W at *
  have hz0 : LwRel w B k n OUT BAD LL (.int .i64 0) W := ⟨0, Nat.zero_le _, rfl, HKW.out, HON.out⟩
  clear HKW
  go_wp2
  go_loopw [49] (fun u wr => LwRel w B k n OUT BAD LL u wr) (fun u _ => ((n : Int) - intOf u).toNat)
  case atStart => exact hz0
  case round =>
   clear hz0 x3
   obtain ⟨i, hi1, rfl, hK, hO⟩ := hrel
   have HK := Lib.hid hK
   have HOi := Lib.hid hO
   have x4 := hO.cell HG.out HX.out
   clear hK hO
   by_cases hi : i < n
   ·obtain ⟨b, off, rfl, hbl⟩ := HP.out (by omega)
    have HC := Lib.hid (HN.out b off rfl i hi _ HOi.out HK.out)
    have hb9 := Nat.lt_of_lt_of_le hbl HOi.out.size
    have hki : (i : Int) < (n : Int) := by omega
    have hki0 : (0 : Int) ≤ (i : Int) := by omega
    have hn9 := HNB.out
    clear HN
    go_wp2_with (go_at_call 98; go_loud ((with_reducible refine HC.out.mono ?_); rintro e w5 ⟨rfl, h5, o5⟩; have H5 := Lib.hid h5; have O5 := Lib.hid (HOi.out.trans o5); clear h5 o5))
    go_roundw
    case rel => exact ⟨i + 1, by omega, rfl, H5.out, O5.out⟩
    case measure => simp [intOf]; omega
   ·have : i = n := by omega
    subst this
    go_wp2_with fail
    go_end0
    exact ⟨rfl, HK.out, HOi.out⟩
 | false =>
  have hbb2 : decide (most < (n : Int)) = bb := by rw [← hbb]; rfl
  clear hbb
  go_enter Tryz.func97, Tryz.ntmps97
  go_upto_region 2 with fail
  have OV : Only (· = k) w (w.setCell ⟨k, 2, none⟩ (.bool bb)) := (Only.refl _ w).set1
  have HBV : Hid (Blk (w.setCell ⟨k, 2, none⟩ (.bool bb)) k 58 #[.pointer none, .slice pO out'.length cO, .bool bb]) := Lib.hid (HBK.out.set 2 (.bool bb))
  have HRV := Lib.hid (owns_only HRW.out OV (owns_ne HRW.out HBK.out (by decide)))
  have HOV : Hid (OnW B k w (w.setCell ⟨k, 2, none⟩ (.bool bb))) := Lib.hid (OV.mono fun j _ e => .inl e)
  have y1 := HOV.out.cell HG.out hx
  have HAV := Lib.hid (HG.out.onW HOV.out (World.block_lt_of_cell? _ _ hx))
  have HBS : Hid (B ≤ ((w.setCell ⟨k, 2, none⟩ (.bool bb))).heap.size) := Lib.hid (Nat.le_trans HB.out OV.size)
  clear OV c0 c1 c2 cf hx
  generalize (w.setCell ⟨k, 2, none⟩ (.bool bb)) = V at *
  have HI0 : Hid (PutI V B k g o (.slice pO out'.length cO) bb (.slice pX n cX) V) := Lib.hid ⟨HBV.out, y1, OnW.refl _ _ _, HAV.out⟩
  have HROW : Hid (V.drew.ownsRow B 5 1 (.slice pO out'.length cO) out'.length (Lib.byteCells out') ∧ B ≤ V.drew.heap.size) := Lib.hid ⟨HRV.out, HBS.out⟩
  have HLT : Hid (∀ j, (Value.slice pO out'.length cO).ownBlock = some j → j < V.heap.size) := Lib.hid fun j hj => (owns_type HRV.out hj).choose_spec.2.2
  clear y1
  refine Reg.wp_rely 15 (PutI V B k g o (.slice pO out'.length cO) bb (.slice pX n cX)) (by kernel_rfl) (Reg.relyOk_of (by kernel_rfl)) HI0.out.drew (fun w w' h hI => hI.below h) ?_
  refine Reg.rely_plain (.pointer (some ⟨k, 0, none⟩)) rfl (fun a w hI hF => by
    have f1 : a.tmps.getD 0 undef = .pointer (some ⟨k, 0, none⟩) := hF 0 (Reg.looksB (by kernel_rfl))
    clear hF hI
    simp only [Array.getD_eq_getD_getElem?] at f1
    simp only [execOp]; go_simp) ?_
  refine Reg.rely_plain (.pointer (some ⟨k, 0, none⟩)) rfl (fun a w hI hF => by
    have f1 : a.tmps.getD 0 undef = .pointer (some ⟨k, 0, none⟩) := hF 0 (Reg.looksB (by kernel_rfl))
    clear hF hI
    simp only [Array.getD_eq_getD_getElem?] at f1
    simp only [execOp]; go_simp) ?_
  refine Reg.rely_plain (.pointer (some ⟨k, 0, none⟩)) rfl (fun a w hI hF => by
    have f1 : a.tmps.getD 31 undef = .pointer (some ⟨k, 0, none⟩) := hF 31 (Reg.looksB (by kernel_rfl))
    clear hF hI
    simp only [Array.getD_eq_getD_getElem?] at f1
    simp only [execOp]; go_simp) ?_
  refine Reg.rely_plain (.pointer (some ⟨k, 1, none⟩)) rfl (fun a w hI hF => by
    have f1 : a.tmps.getD 32 undef = .pointer (some ⟨k, 0, none⟩) := hF 32 (Reg.looksB (by kernel_rfl))
    clear hF hI
    simp only [Array.getD_eq_getD_getElem?] at f1
    simp only [execOp]; go_simp) ?_
  refine Reg.rely_plain (.slice pO out'.length cO) rfl (fun a w hI hF => by
    have f1 : a.tmps.getD 33 undef = .pointer (some ⟨k, 1, none⟩) := hF 33 (Reg.looksB (by kernel_rfl))
    have hc : w.cell? ⟨k, 1, none⟩ = some (.slice pO out'.length cO) := by rw [hI.kb.cell 1]; rfl
    clear hF hI
    simp only [Array.getD_eq_getD_getElem?] at f1
    simp only [execOp]; go_simp) ?_
  refine Reg.rely_plain (.pointer (some ⟨g, o, none⟩)) rfl (fun a w hI hF => by
    have f1 : a.tmps.getD 1 undef = .pointer (some ⟨g, o, none⟩) := hF 1 (Reg.looksB (by kernel_rfl))
    clear hF hI
    simp only [Array.getD_eq_getD_getElem?] at f1
    simp only [execOp]; go_simp) ?_
  refine Reg.rely_plain (.pointer (some ⟨g, o, none⟩)) rfl (fun a w hI hF => by
    have f1 : a.tmps.getD 35 undef = .pointer (some ⟨g, o, none⟩) := hF 35 (Reg.looksB (by kernel_rfl))
    clear hF hI
    simp only [Array.getD_eq_getD_getElem?] at f1
    simp only [execOp]; go_simp) ?_
  refine Reg.rely_plain (.slice pX n cX) rfl (fun a w hI hF => by
    have f1 : a.tmps.getD 36 undef = .pointer (some ⟨g, o, none⟩) := hF 36 (Reg.looksB (by kernel_rfl))
    have hc := hI.cell
    clear hF hI
    simp only [Array.getD_eq_getD_getElem?] at f1
    simp only [execOp]; go_simp) ?_
  refine Reg.rely_plain (.int .i64 n) rfl (fun a w hI hF => by
    have f1 : a.tmps.getD 37 undef = .slice pX n cX := hF 37 (Reg.looksB (by kernel_rfl))
    clear hF hI
    simp only [Array.getD_eq_getD_getElem?] at f1
    simp only [execOp]; go_simp) ?_
  refine Reg.rely_plain (.int .u64 y) rfl (fun a w hI hF => by
    have f1 : a.tmps.getD 38 undef = .int .i64 n := hF 38 (Reg.looksB (by kernel_rfl))
    clear hF hI
    simp only [Array.getD_eq_getD_getElem?] at f1
    simp only [execOp]; go_simp) ?_
  refine Reg.rely_rel (fun v w => ∃ gl, v = .slice (some ⟨gl, 0, none⟩) 1 1 ∧ V.heap.size ≤ gl ∧ Blk w gl 22 #[.int .u64 y]) (fun v w w' h hS => by obtain ⟨gl, h1, h2, h3⟩ := hS; exact ⟨gl, h1, h2, h3.below h⟩) (fun G hG => by cases hG) rfl (fun a w hI hF => by
   have f1 : a.tmps.getD 39 undef = .int .u64 y := hF 39 (Reg.looksB (by kernel_rfl))
   have hK := Lib.hid (Blk.new w 22 #[.int .u64 y])
   have hQ := Lib.hid hI.on.size
   have hW := Lib.hid (show Reg.Grow w (w.alloc (.cells #[.int .u64 y] 22)) from (Below.refl _ w).alloc (Nat.le_refl _) _)
   clear hF hI
   simp only [Array.getD_eq_getD_getElem?] at f1
   unfold Oper.wp
   simp only [execOp]
   go_simp
   exact ⟨_, rfl, ⟨_, rfl, hQ.out, hK.out⟩, hW.out⟩) ?_
  refine Reg.rely_call0 (Reg.Is (.string (Num.lebS y))) (Reg.stab_is _ _) (fun G hG => by cases hG) rfl (fun a w hI hF => by
   obtain ⟨gl, f1, hg1, hgl⟩ : ∃ gl, a.tmps.getD 40 undef = .slice (some ⟨gl, 0, none⟩) 1 1 ∧ V.heap.size ≤ gl ∧ Blk w gl 22 #[.int .u64 y] := hF 40 (Reg.looksB (by kernel_rfl))
   refine ⟨64, #[.slice (some ⟨gl, 0, none⟩) 1 1], ?_, (HW.out w gl hgl).mono fun e w' h => ⟨_, h.1, rfl, h.2⟩⟩
   clear hF hI hgl hg1
   simp only [Array.getD_eq_getD_getElem?] at f1
   simp only [execOp]; go_simp) ?_
  refine Reg.rely_turn (fun v w => w.ownsRow B 5 1 v (out' ++ Ms.bl (Num.lebS y)).length (Lib.byteCells (out' ++ Ms.bl (Num.lebS y)))) (PutG V.heap.size B (.slice pO out'.length cO)) (fun w => w.ownsRow B 5 1 (.slice pO out'.length cO) out'.length (Lib.byteCells out') ∧ B ≤ w.heap.size) (fun v w w' h hS => owns_below hS h) (fun G hG => by cases hG) (fun w w' h hI => hI.turn h) ?_ rfl (fun w w' h hJ => ⟨owns_below hJ.1 h, Nat.le_trans hJ.2 h.size⟩) ⟨HROW.out.1, HROW.out.2⟩ (fun G hG => by cases hG) (fun G hG => by cases hG) (fun a w hI hJ hF => ?_) ?_
  ·intro p hp
   repeat (rcases List.mem_cons.1 hp with rfl | hp; first | exact Reg.stab_is _ _ | exact fun v w w' h hS => by obtain ⟨gl, h1, h2, h3⟩ := hS; exact ⟨gl, h1, h2, h.keep h2 h3⟩)
   cases hp
  ·have f1 : a.tmps.getD 34 undef = .slice pO out'.length cO := hF 34 (Reg.looksB (by kernel_rfl))
   have f2 : a.tmps.getD 41 undef = .string (Num.lebS y) := hF 41 (Reg.looksB (by kernel_rfl))
   exact putRun (t := 48) (u := 9) (sl := .tmp 34) (x := .tmp 41) rfl Tryz.underlying48 Tryz.underlying9 info_u8 rfl f1 f2 hJ.1 HLEN.out hJ.2 HLT.out
  refine Reg.rely_is (.pointer (some ⟨k, 0, none⟩)) (fun a w hI hF => Reg.det_plain rfl ?_) ?_
  ·have f1 : a.tmps.getD 30 undef = .pointer (some ⟨k, 0, none⟩) := hF 30 (Reg.looksB (by kernel_rfl))
   clear hF hI
   simp only [Array.getD_eq_getD_getElem?] at f1
   simp only [execOp]; go_simp
  refine Reg.rely_is (.pointer (some ⟨k, 1, none⟩)) (fun a w hI hF => Reg.det_plain rfl ?_) ?_
  ·have f1 : a.tmps.getD 43 undef = .pointer (some ⟨k, 0, none⟩) := hF 43 (Reg.looksB (by kernel_rfl))
   clear hF hI
   simp only [Array.getD_eq_getD_getElem?] at f1
   simp only [execOp]; go_simp
  refine Reg.rely_nil ?_
  refine Reg.final_is ?_
  refine Reg.final_is ?_
  refine Reg.final_rel (fun v12 => ?_)
  refine Reg.final_is ?_
  refine Reg.final_rel (fun v10 => ?_)
  refine Reg.final_is ?_
  refine Reg.final_is ?_
  refine Reg.final_is ?_
  refine Reg.final_is ?_
  refine Reg.final_is ?_
  refine Reg.final_is ?_
  refine Reg.final_is ?_
  refine Reg.final_is ?_
  refine Reg.final_is ?_
  refine Reg.final_is ?_
  refine Reg.final_nil (fun w9 hF => ?_)
  have HI9 := Lib.hid hF.1.1
  have HS9 := Lib.hid hF.1.2
  clear hF
  simp only [List.drop_succ_cons, List.drop_zero]
  go_simp
  have d1 : w9.cell? ⟨k, 1, none⟩ = some (.slice pO out'.length cO) := by rw [HI9.out.kb.cell 1]; rfl
  have f1 := HI9.out.kb.frozen 1
  obtain ⟨p9, c9, rfl⟩ := owns_slice HS9.out
  generalize hl9 : (out' ++ Ms.bl (Num.lebS y)).length = l9
  have HL9 := Lib.hid hl9
  clear hl9
  go_wp2_with fail
  refine Reg.fin (by kernel_rfl) ?_
  go_upto_region 3 with fail
  have hkw := KWr.put2 HI9.out.kb HGE.out HS9.out
  rw [HL9.out] at hkw
  have HKW := Lib.hid (HFB.out hkw.1)
  have HON := Lib.hid (HOV.out.trans (HI9.out.on.trans hkw.2))
  have x3 := HON.out.cell HG.out HX.out
  clear hkw HI9 HS9 HRV HBV HOV HAV HI0 HROW HLT HW HLEN HFB d1 f1
  generalize World.setCell w9 _ _ = W at *
  have hz0 : LwRel w B k n OUT BAD LL (.int .i64 0) W := ⟨0, Nat.zero_le _, rfl, HKW.out, HON.out⟩
  clear HKW
  go_wp2
  go_loopw [49] (fun u wr => LwRel w B k n OUT BAD LL u wr) (fun u _ => ((n : Int) - intOf u).toNat)
  case atStart => exact hz0
  case round =>
   clear hz0 x3
   obtain ⟨i, hi1, rfl, hK, hO⟩ := hrel
   have HK := Lib.hid hK
   have HOi := Lib.hid hO
   have x4 := hO.cell HG.out HX.out
   clear hK hO
   by_cases hi : i < n
   ·obtain ⟨b, off, rfl, hbl⟩ := HP.out (by omega)
    have HC := Lib.hid (HN.out b off rfl i hi _ HOi.out HK.out)
    have hb9 := Nat.lt_of_lt_of_le hbl HOi.out.size
    have hki : (i : Int) < (n : Int) := by omega
    have hki0 : (0 : Int) ≤ (i : Int) := by omega
    have hn9 := HNB.out
    clear HN
    go_wp2_with (go_at_call 98; go_loud ((with_reducible refine HC.out.mono ?_); rintro e w5 ⟨rfl, h5, o5⟩; have H5 := Lib.hid h5; have O5 := Lib.hid (HOi.out.trans o5); clear h5 o5))
    go_roundw
    case rel => exact ⟨i + 1, by omega, rfl, H5.out, O5.out⟩
    case measure => simp [intOf]; omega
   ·have : i = n := by omega
    subst this
    go_wp2_with fail
    go_end0
    exact ⟨rfl, HK.out, HOi.out⟩
set_option maxRecDepth 100000 in
set_option maxHeartbeats 4000000 in
theorem listw_en {n : Nat} {pX : Option Addr} {cX : Nat} {most : Int} {OUT : Nat → Ls} {BAD : Nat → Bool} {LL : Nat → Nat} (c : KWb w B k out bad L) (hB : B ≤ w.heap.size) (hL : L ≤ 1000000000) (hx : w.cell? ⟨g, o, none⟩ = some (.slice pX n cX)) (hg : Away w B k g) (hr : n ≤ 140737488355328)
  (hz : OUT 0 = out ++ Num.leb n ∧ BAD 0 = (bad || decide (most < (n : Int))) ∧ LL 0 = L + 10) (hp : 0 < n → ∃ b off, pX = some ⟨b, off, none⟩ ∧ b < w.heap.size)
  (hone : ∀ b off, pX = some ⟨b, off, none⟩ → ∀ i, i < n → ∀ w', OnW B k w w' → KWb w' B k (OUT i) (BAD i) (LL i) → Calls Tryz.prog 90 #[.pointer (some ⟨k, 0, none⟩), .pointer (some ⟨b, off + i * 5, none⟩)] w' (WrP w' B k (OUT (i + 1)) (BAD (i + 1)) (LL (i + 1)))) :
  Calls Tryz.prog 89 #[.pointer (some ⟨k, 0, none⟩), .pointer (some ⟨g, o, none⟩), .int .i64 most, .func (.func 90) #[.pointer (some ⟨k, 0, none⟩)] #[]] w (WrP w B k (OUT n) (BAD n) (LL n)) := by
 obtain ⟨hz1, hz2, hz3⟩ := hz
 have HX := Lib.hid hx
 have HP := Lib.hid hp
 have HN := Lib.hid hone
 clear hp hone
 obtain ⟨out', c, ho, hl⟩ := c
 obtain ⟨vO, h1, h2, h3⟩ := c
 obtain ⟨pO, cO, rfl⟩ := owns_slice h2
 have c0 : w.cell? ⟨k, 0, none⟩ = some (.pointer none) := by rw [h1.cell 0]; rfl
 have c1 : w.cell? ⟨k, 1, none⟩ = some (.slice pO out'.length cO) := by rw [h1.cell 1]; rfl
 have c2 : w.cell? ⟨k, 2, none⟩ = some (.bool bad) := by rw [h1.cell 2]; rfl
 have cf := h1.frozen
 have HBK := Lib.hid h1
 have HRW := Lib.hid h2
 have HGE := Lib.hid h3
 have HG := Lib.hid hg
 have HO := Lib.hid (And.intro ho hl)
 have HL := Lib.hid hL
 have HB := Lib.hid hB
 have hyy : U64 (IntKind.u64.wrap (n : Int)) ∧ IntKind.u64.wrap (n : Int) = n := by rw [IntKind.wrap_u64]; unfold U64; omega
 obtain ⟨y, hy⟩ : ∃ y, IntKind.u64.wrap (n : Int) = y := ⟨_, rfl⟩
 rw [hy] at hyy
 have HY := Lib.hid hyy
 obtain ⟨bb, hbb⟩ : ∃ bb, (bad || decide (most < (n : Int))) = bb := ⟨_, rfl⟩
 rw [hbb] at hz2
 have HBB := Lib.hid hbb
 have HLEN : Hid (out'.length + (Num.lebS y).size ≤ 140737488355328) := Lib.hid (by have := lebS_size HY.out.1.2; have := HO.out.2; have := HL.out; omega)
 have HFB : Hid (∀ {W : World}, KWr W B k (out' ++ Ms.bl (Num.lebS y)) bb → KWb W B k (OUT 0) (BAD 0) (LL 0)) := Lib.hid fun h => by
  rw [hz1, hz2, hz3]
  exact KWr.kwb h HO.out.1 HO.out.2 (fun e => by
   have h := HBB.out
   rw [e, Bool.or_eq_false_iff] at h
   refine ⟨h.1, ?_⟩
   rw [Ms.bl_leb, HY.out.2]
   rfl) (by rw [Ms.bl_len]; exact lebS_size HY.out.1.2)
 have HW : Hid (∀ (w : World) gl, Blk w gl 22 #[.int .u64 y] → Calls Tryz.prog 64 #[.slice (some ⟨gl, 0, none⟩) 1 1] w (StPost (Num.lebS y) w)) := Lib.hid fun w gl h => uintsB HY.out.1 h
 have HNB := Lib.hid hr
 clear h1 h2 h3 hg ho hl hL hB hyy hr hz1 hz2 hz3
 cases bad with
 | true =>
  have hbt : bb = true := by rw [← hbb]; rfl
  clear hbb
  subst hbt
  go_enter Tryz.func89, Tryz.ntmps89
  go_upto_region 2 with fail
  have OV : Only (· = k) w (w.setCell ⟨k, 2, none⟩ (.bool true)) := (Only.refl _ w).set1
  have HBV : Hid (Blk (w.setCell ⟨k, 2, none⟩ (.bool true)) k 58 #[.pointer none, .slice pO out'.length cO, .bool true]) := Lib.hid (HBK.out.set 2 (.bool true))
  have HRV := Lib.hid (owns_only HRW.out OV (owns_ne HRW.out HBK.out (by decide)))
  have HOV : Hid (OnW B k w (w.setCell ⟨k, 2, none⟩ (.bool true))) := Lib.hid (OV.mono fun j _ e => .inl e)
  have y1 := HOV.out.cell HG.out hx
  have HAV := Lib.hid (HG.out.onW HOV.out (World.block_lt_of_cell? _ _ hx))
  have HBS : Hid (B ≤ ((w.setCell ⟨k, 2, none⟩ (.bool true))).heap.size) := Lib.hid (Nat.le_trans HB.out OV.size)
  clear OV c0 c1 c2 cf hx
  generalize (w.setCell ⟨k, 2, none⟩ (.bool true)) = V at *
  have HI0 : Hid (PutI V B k g o (.slice pO out'.length cO) true (.slice pX n cX) V) := Lib.hid ⟨HBV.out, y1, OnW.refl _ _ _, HAV.out⟩
  have HROW : Hid (V.drew.ownsRow B 5 1 (.slice pO out'.length cO) out'.length (Lib.byteCells out') ∧ B ≤ V.drew.heap.size) := Lib.hid ⟨HRV.out, HBS.out⟩
  have HLT : Hid (∀ j, (Value.slice pO out'.length cO).ownBlock = some j → j < V.heap.size) := Lib.hid fun j hj => (owns_type HRV.out hj).choose_spec.2.2
  clear y1
  refine Reg.wp_rely 15 (PutI V B k g o (.slice pO out'.length cO) true (.slice pX n cX)) (by kernel_rfl) (Reg.relyOk_of (by kernel_rfl)) HI0.out.drew (fun w w' h hI => hI.below h) ?_
  refine Reg.rely_plain (.pointer (some ⟨k, 0, none⟩)) rfl (fun a w hI hF => by
    have f1 : a.tmps.getD 0 undef = .pointer (some ⟨k, 0, none⟩) := hF 0 (Reg.looksB (by kernel_rfl))
    clear hF hI
    simp only [Array.getD_eq_getD_getElem?] at f1
    simp only [execOp]; go_simp) ?_
  refine Reg.rely_plain (.pointer (some ⟨k, 0, none⟩)) rfl (fun a w hI hF => by
    have f1 : a.tmps.getD 0 undef = .pointer (some ⟨k, 0, none⟩) := hF 0 (Reg.looksB (by kernel_rfl))
    clear hF hI
    simp only [Array.getD_eq_getD_getElem?] at f1
    simp only [execOp]; go_simp) ?_
  refine Reg.rely_plain (.pointer (some ⟨k, 0, none⟩)) rfl (fun a w hI hF => by
    have f1 : a.tmps.getD 31 undef = .pointer (some ⟨k, 0, none⟩) := hF 31 (Reg.looksB (by kernel_rfl))
    clear hF hI
    simp only [Array.getD_eq_getD_getElem?] at f1
    simp only [execOp]; go_simp) ?_
  refine Reg.rely_plain (.pointer (some ⟨k, 1, none⟩)) rfl (fun a w hI hF => by
    have f1 : a.tmps.getD 32 undef = .pointer (some ⟨k, 0, none⟩) := hF 32 (Reg.looksB (by kernel_rfl))
    clear hF hI
    simp only [Array.getD_eq_getD_getElem?] at f1
    simp only [execOp]; go_simp) ?_
  refine Reg.rely_plain (.slice pO out'.length cO) rfl (fun a w hI hF => by
    have f1 : a.tmps.getD 33 undef = .pointer (some ⟨k, 1, none⟩) := hF 33 (Reg.looksB (by kernel_rfl))
    have hc : w.cell? ⟨k, 1, none⟩ = some (.slice pO out'.length cO) := by rw [hI.kb.cell 1]; rfl
    clear hF hI
    simp only [Array.getD_eq_getD_getElem?] at f1
    simp only [execOp]; go_simp) ?_
  refine Reg.rely_plain (.pointer (some ⟨g, o, none⟩)) rfl (fun a w hI hF => by
    have f1 : a.tmps.getD 1 undef = .pointer (some ⟨g, o, none⟩) := hF 1 (Reg.looksB (by kernel_rfl))
    clear hF hI
    simp only [Array.getD_eq_getD_getElem?] at f1
    simp only [execOp]; go_simp) ?_
  refine Reg.rely_plain (.pointer (some ⟨g, o, none⟩)) rfl (fun a w hI hF => by
    have f1 : a.tmps.getD 35 undef = .pointer (some ⟨g, o, none⟩) := hF 35 (Reg.looksB (by kernel_rfl))
    clear hF hI
    simp only [Array.getD_eq_getD_getElem?] at f1
    simp only [execOp]; go_simp) ?_
  refine Reg.rely_plain (.slice pX n cX) rfl (fun a w hI hF => by
    have f1 : a.tmps.getD 36 undef = .pointer (some ⟨g, o, none⟩) := hF 36 (Reg.looksB (by kernel_rfl))
    have hc := hI.cell
    clear hF hI
    simp only [Array.getD_eq_getD_getElem?] at f1
    simp only [execOp]; go_simp) ?_
  refine Reg.rely_plain (.int .i64 n) rfl (fun a w hI hF => by
    have f1 : a.tmps.getD 37 undef = .slice pX n cX := hF 37 (Reg.looksB (by kernel_rfl))
    clear hF hI
    simp only [Array.getD_eq_getD_getElem?] at f1
    simp only [execOp]; go_simp) ?_
  refine Reg.rely_plain (.int .u64 y) rfl (fun a w hI hF => by
    have f1 : a.tmps.getD 38 undef = .int .i64 n := hF 38 (Reg.looksB (by kernel_rfl))
    clear hF hI
    simp only [Array.getD_eq_getD_getElem?] at f1
    simp only [execOp]; go_simp) ?_
  refine Reg.rely_rel (fun v w => ∃ gl, v = .slice (some ⟨gl, 0, none⟩) 1 1 ∧ V.heap.size ≤ gl ∧ Blk w gl 22 #[.int .u64 y]) (fun v w w' h hS => by obtain ⟨gl, h1, h2, h3⟩ := hS; exact ⟨gl, h1, h2, h3.below h⟩) (fun G hG => by cases hG) rfl (fun a w hI hF => by
   have f1 : a.tmps.getD 39 undef = .int .u64 y := hF 39 (Reg.looksB (by kernel_rfl))
   have hK := Lib.hid (Blk.new w 22 #[.int .u64 y])
   have hQ := Lib.hid hI.on.size
   have hW := Lib.hid (show Reg.Grow w (w.alloc (.cells #[.int .u64 y] 22)) from (Below.refl _ w).alloc (Nat.le_refl _) _)
   clear hF hI
   simp only [Array.getD_eq_getD_getElem?] at f1
   unfold Oper.wp
   simp only [execOp]
   go_simp
   exact ⟨_, rfl, ⟨_, rfl, hQ.out, hK.out⟩, hW.out⟩) ?_
  refine Reg.rely_call0 (Reg.Is (.string (Num.lebS y))) (Reg.stab_is _ _) (fun G hG => by cases hG) rfl (fun a w hI hF => by
   obtain ⟨gl, f1, hg1, hgl⟩ : ∃ gl, a.tmps.getD 40 undef = .slice (some ⟨gl, 0, none⟩) 1 1 ∧ V.heap.size ≤ gl ∧ Blk w gl 22 #[.int .u64 y] := hF 40 (Reg.looksB (by kernel_rfl))
   refine ⟨64, #[.slice (some ⟨gl, 0, none⟩) 1 1], ?_, (HW.out w gl hgl).mono fun e w' h => ⟨_, h.1, rfl, h.2⟩⟩
   clear hF hI hgl hg1
   simp only [Array.getD_eq_getD_getElem?] at f1
   simp only [execOp]; go_simp) ?_
  refine Reg.rely_turn (fun v w => w.ownsRow B 5 1 v (out' ++ Ms.bl (Num.lebS y)).length (Lib.byteCells (out' ++ Ms.bl (Num.lebS y)))) (PutG V.heap.size B (.slice pO out'.length cO)) (fun w => w.ownsRow B 5 1 (.slice pO out'.length cO) out'.length (Lib.byteCells out') ∧ B ≤ w.heap.size) (fun v w w' h hS => owns_below hS h) (fun G hG => by cases hG) (fun w w' h hI => hI.turn h) ?_ rfl (fun w w' h hJ => ⟨owns_below hJ.1 h, Nat.le_trans hJ.2 h.size⟩) ⟨HROW.out.1, HROW.out.2⟩ (fun G hG => by cases hG) (fun G hG => by cases hG) (fun a w hI hJ hF => ?_) ?_
  ·intro p hp
   repeat (rcases List.mem_cons.1 hp with rfl | hp; first | exact Reg.stab_is _ _ | exact fun v w w' h hS => by obtain ⟨gl, h1, h2, h3⟩ := hS; exact ⟨gl, h1, h2, h.keep h2 h3⟩)
   cases hp
  ·have f1 : a.tmps.getD 34 undef = .slice pO out'.length cO := hF 34 (Reg.looksB (by kernel_rfl))
   have f2 : a.tmps.getD 41 undef = .string (Num.lebS y) := hF 41 (Reg.looksB (by kernel_rfl))
   exact putRun (t := 48) (u := 9) (sl := .tmp 34) (x := .tmp 41) rfl Tryz.underlying48 Tryz.underlying9 info_u8 rfl f1 f2 hJ.1 HLEN.out hJ.2 HLT.out
  refine Reg.rely_is (.pointer (some ⟨k, 0, none⟩)) (fun a w hI hF => Reg.det_plain rfl ?_) ?_
  ·have f1 : a.tmps.getD 30 undef = .pointer (some ⟨k, 0, none⟩) := hF 30 (Reg.looksB (by kernel_rfl))
   clear hF hI
   simp only [Array.getD_eq_getD_getElem?] at f1
   simp only [execOp]; go_simp
  refine Reg.rely_is (.pointer (some ⟨k, 1, none⟩)) (fun a w hI hF => Reg.det_plain rfl ?_) ?_
  ·have f1 : a.tmps.getD 43 undef = .pointer (some ⟨k, 0, none⟩) := hF 43 (Reg.looksB (by kernel_rfl))
   clear hF hI
   simp only [Array.getD_eq_getD_getElem?] at f1
   simp only [execOp]; go_simp
  refine Reg.rely_nil ?_
  refine Reg.final_is ?_
  refine Reg.final_is ?_
  refine Reg.final_rel (fun v12 => ?_)
  refine Reg.final_is ?_
  refine Reg.final_rel (fun v10 => ?_)
  refine Reg.final_is ?_
  refine Reg.final_is ?_
  refine Reg.final_is ?_
  refine Reg.final_is ?_
  refine Reg.final_is ?_
  refine Reg.final_is ?_
  refine Reg.final_is ?_
  refine Reg.final_is ?_
  refine Reg.final_is ?_
  refine Reg.final_is ?_
  refine Reg.final_nil (fun w9 hF => ?_)
  have HI9 := Lib.hid hF.1.1
  have HS9 := Lib.hid hF.1.2
  clear hF
  simp only [List.drop_succ_cons, List.drop_zero]
  go_simp
  have d1 : w9.cell? ⟨k, 1, none⟩ = some (.slice pO out'.length cO) := by rw [HI9.out.kb.cell 1]; rfl
  have f1 := HI9.out.kb.frozen 1
  obtain ⟨p9, c9, rfl⟩ := owns_slice HS9.out
  generalize hl9 : (out' ++ Ms.bl (Num.lebS y)).length = l9
  have HL9 := Lib.hid hl9
  clear hl9
  go_wp2_with fail
  refine Reg.fin (by kernel_rfl) ?_
  go_upto_region 3 with fail
  have hkw := KWr.put2 HI9.out.kb HGE.out HS9.out
  rw [HL9.out] at hkw
  have HKW := Lib.hid (HFB.out hkw.1)
  have HON := Lib.hid (HOV.out.trans (HI9.out.on.trans hkw.2))
  have x3 := HON.out.cell HG.out HX.out
  clear hkw HI9 HS9 HRV HBV HOV HAV HI0 HROW HLT HW HLEN HFB d1 f1
  generalize World.setCell w9 _ _ = W at *
  have hz0 : LwRel w B k n OUT BAD LL (.int .i64 0) W := ⟨0, Nat.zero_le _, rfl, HKW.out, HON.out⟩
  clear HKW
  go_wp2
  go_loopw [49] (fun u wr => LwRel w B k n OUT BAD LL u wr) (fun u _ => ((n : Int) - intOf u).toNat)
  case atStart => exact hz0
  case round =>
   clear hz0 x3
   obtain ⟨i, hi1, rfl, hK, hO⟩ := hrel
   have HK := Lib.hid hK
   have HOi := Lib.hid hO
   have x4 := hO.cell HG.out HX.out
   clear hK hO
   by_cases hi : i < n
   ·obtain ⟨b, off, rfl, hbl⟩ := HP.out (by omega)
    have HC := Lib.hid (HN.out b off rfl i hi _ HOi.out HK.out)
    have hb9 := Nat.lt_of_lt_of_le hbl HOi.out.size
    have hki : (i : Int) < (n : Int) := by omega
    have hki0 : (0 : Int) ≤ (i : Int) := by omega
    have hn9 := HNB.out
    clear HN
    go_wp2_with (go_at_call 90; go_loud ((with_reducible refine HC.out.mono ?_); rintro e w5 ⟨rfl, h5, o5⟩; have H5 := Lib.hid h5; have O5 := Lib.hid (HOi.out.trans o5); clear h5 o5))
    go_roundw
    case rel => exact ⟨i + 1, by omega, rfl, H5.out, O5.out⟩
    case measure => simp [intOf]; omega
   ·have : i = n := by omega
    subst this
    go_wp2_with fail
    go_end0
    exact ⟨rfl, HK.out, HOi.out⟩
 | false =>
  have hbb2 : decide (most < (n : Int)) = bb := by rw [← hbb]; rfl
  clear hbb
  go_enter Tryz.func89, Tryz.ntmps89
  go_upto_region 2 with fail
  have OV : Only (· = k) w (w.setCell ⟨k, 2, none⟩ (.bool bb)) := (Only.refl _ w).set1
  have HBV : Hid (Blk (w.setCell ⟨k, 2, none⟩ (.bool bb)) k 58 #[.pointer none, .slice pO out'.length cO, .bool bb]) := Lib.hid (HBK.out.set 2 (.bool bb))
  have HRV := Lib.hid (owns_only HRW.out OV (owns_ne HRW.out HBK.out (by decide)))
  have HOV : Hid (OnW B k w (w.setCell ⟨k, 2, none⟩ (.bool bb))) := Lib.hid (OV.mono fun j _ e => .inl e)
  have y1 := HOV.out.cell HG.out hx
  have HAV := Lib.hid (HG.out.onW HOV.out (World.block_lt_of_cell? _ _ hx))
  have HBS : Hid (B ≤ ((w.setCell ⟨k, 2, none⟩ (.bool bb))).heap.size) := Lib.hid (Nat.le_trans HB.out OV.size)
  clear OV c0 c1 c2 cf hx
  generalize (w.setCell ⟨k, 2, none⟩ (.bool bb)) = V at *
  have HI0 : Hid (PutI V B k g o (.slice pO out'.length cO) bb (.slice pX n cX) V) := Lib.hid ⟨HBV.out, y1, OnW.refl _ _ _, HAV.out⟩
  have HROW : Hid (V.drew.ownsRow B 5 1 (.slice pO out'.length cO) out'.length (Lib.byteCells out') ∧ B ≤ V.drew.heap.size) := Lib.hid ⟨HRV.out, HBS.out⟩
  have HLT : Hid (∀ j, (Value.slice pO out'.length cO).ownBlock = some j → j < V.heap.size) := Lib.hid fun j hj => (owns_type HRV.out hj).choose_spec.2.2
  clear y1
  refine Reg.wp_rely 15 (PutI V B k g o (.slice pO out'.length cO) bb (.slice pX n cX)) (by kernel_rfl) (Reg.relyOk_of (by kernel_rfl)) HI0.out.drew (fun w w' h hI => hI.below h) ?_
  refine Reg.rely_plain (.pointer (some ⟨k, 0, none⟩)) rfl (fun a w hI hF => by
    have f1 : a.tmps.getD 0 undef = .pointer (some ⟨k, 0, none⟩) := hF 0 (Reg.looksB (by kernel_rfl))
    clear hF hI
    simp only [Array.getD_eq_getD_getElem?] at f1
    simp only [execOp]; go_simp) ?_
  refine Reg.rely_plain (.pointer (some ⟨k, 0, none⟩)) rfl (fun a w hI hF => by
    have f1 : a.tmps.getD 0 undef = .pointer (some ⟨k, 0, none⟩) := hF 0 (Reg.looksB (by kernel_rfl))
    clear hF hI
    simp only [Array.getD_eq_getD_getElem?] at f1
    simp only [execOp]; go_simp) ?_
  refine Reg.rely_plain (.pointer (some ⟨k, 0, none⟩)) rfl (fun a w hI hF => by
    have f1 : a.tmps.getD 31 undef = .pointer (some ⟨k, 0, none⟩) := hF 31 (Reg.looksB (by kernel_rfl))
    clear hF hI
    simp only [Array.getD_eq_getD_getElem?] at f1
    simp only [execOp]; go_simp) ?_
  refine Reg.rely_plain (.pointer (some ⟨k, 1, none⟩)) rfl (fun a w hI hF => by
    have f1 : a.tmps.getD 32 undef = .pointer (some ⟨k, 0, none⟩) := hF 32 (Reg.looksB (by kernel_rfl))
    clear hF hI
    simp only [Array.getD_eq_getD_getElem?] at f1
    simp only [execOp]; go_simp) ?_
  refine Reg.rely_plain (.slice pO out'.length cO) rfl (fun a w hI hF => by
    have f1 : a.tmps.getD 33 undef = .pointer (some ⟨k, 1, none⟩) := hF 33 (Reg.looksB (by kernel_rfl))
    have hc : w.cell? ⟨k, 1, none⟩ = some (.slice pO out'.length cO) := by rw [hI.kb.cell 1]; rfl
    clear hF hI
    simp only [Array.getD_eq_getD_getElem?] at f1
    simp only [execOp]; go_simp) ?_
  refine Reg.rely_plain (.pointer (some ⟨g, o, none⟩)) rfl (fun a w hI hF => by
    have f1 : a.tmps.getD 1 undef = .pointer (some ⟨g, o, none⟩) := hF 1 (Reg.looksB (by kernel_rfl))
    clear hF hI
    simp only [Array.getD_eq_getD_getElem?] at f1
    simp only [execOp]; go_simp) ?_
  refine Reg.rely_plain (.pointer (some ⟨g, o, none⟩)) rfl (fun a w hI hF => by
    have f1 : a.tmps.getD 35 undef = .pointer (some ⟨g, o, none⟩) := hF 35 (Reg.looksB (by kernel_rfl))
    clear hF hI
    simp only [Array.getD_eq_getD_getElem?] at f1
    simp only [execOp]; go_simp) ?_
  refine Reg.rely_plain (.slice pX n cX) rfl (fun a w hI hF => by
    have f1 : a.tmps.getD 36 undef = .pointer (some ⟨g, o, none⟩) := hF 36 (Reg.looksB (by kernel_rfl))
    have hc := hI.cell
    clear hF hI
    simp only [Array.getD_eq_getD_getElem?] at f1
    simp only [execOp]; go_simp) ?_
  refine Reg.rely_plain (.int .i64 n) rfl (fun a w hI hF => by
    have f1 : a.tmps.getD 37 undef = .slice pX n cX := hF 37 (Reg.looksB (by kernel_rfl))
    clear hF hI
    simp only [Array.getD_eq_getD_getElem?] at f1
    simp only [execOp]; go_simp) ?_
  refine Reg.rely_plain (.int .u64 y) rfl (fun a w hI hF => by
    have f1 : a.tmps.getD 38 undef = .int .i64 n := hF 38 (Reg.looksB (by kernel_rfl))
    clear hF hI
    simp only [Array.getD_eq_getD_getElem?] at f1
    simp only [execOp]; go_simp) ?_
  refine Reg.rely_rel (fun v w => ∃ gl, v = .slice (some ⟨gl, 0, none⟩) 1 1 ∧ V.heap.size ≤ gl ∧ Blk w gl 22 #[.int .u64 y]) (fun v w w' h hS => by obtain ⟨gl, h1, h2, h3⟩ := hS; exact ⟨gl, h1, h2, h3.below h⟩) (fun G hG => by cases hG) rfl (fun a w hI hF => by
   have f1 : a.tmps.getD 39 undef = .int .u64 y := hF 39 (Reg.looksB (by kernel_rfl))
   have hK := Lib.hid (Blk.new w 22 #[.int .u64 y])
   have hQ := Lib.hid hI.on.size
   have hW := Lib.hid (show Reg.Grow w (w.alloc (.cells #[.int .u64 y] 22)) from (Below.refl _ w).alloc (Nat.le_refl _) _)
   clear hF hI
   simp only [Array.getD_eq_getD_getElem?] at f1
   unfold Oper.wp
   simp only [execOp]
   go_simp
   exact ⟨_, rfl, ⟨_, rfl, hQ.out, hK.out⟩, hW.out⟩) ?_
  refine Reg.rely_call0 (Reg.Is (.string (Num.lebS y))) (Reg.stab_is _ _) (fun G hG => by cases hG) rfl (fun a w hI hF => by
   obtain ⟨gl, f1, hg1, hgl⟩ : ∃ gl, a.tmps.getD 40 undef = .slice (some ⟨gl, 0, none⟩) 1 1 ∧ V.heap.size ≤ gl ∧ Blk w gl 22 #[.int .u64 y] := hF 40 (Reg.looksB (by kernel_rfl))
   refine ⟨64, #[.slice (some ⟨gl, 0, none⟩) 1 1], ?_, (HW.out w gl hgl).mono fun e w' h => ⟨_, h.1, rfl, h.2⟩⟩
   clear hF hI hgl hg1
   simp only [Array.getD_eq_getD_getElem?] at f1
   simp only [execOp]; go_simp) ?_
  refine Reg.rely_turn (fun v w => w.ownsRow B 5 1 v (out' ++ Ms.bl (Num.lebS y)).length (Lib.byteCells (out' ++ Ms.bl (Num.lebS y)))) (PutG V.heap.size B (.slice pO out'.length cO)) (fun w => w.ownsRow B 5 1 (.slice pO out'.length cO) out'.length (Lib.byteCells out') ∧ B ≤ w.heap.size) (fun v w w' h hS => owns_below hS h) (fun G hG => by cases hG) (fun w w' h hI => hI.turn h) ?_ rfl (fun w w' h hJ => ⟨owns_below hJ.1 h, Nat.le_trans hJ.2 h.size⟩) ⟨HROW.out.1, HROW.out.2⟩ (fun G hG => by cases hG) (fun G hG => by cases hG) (fun a w hI hJ hF => ?_) ?_
  ·intro p hp
   repeat (rcases List.mem_cons.1 hp with rfl | hp; first | exact Reg.stab_is _ _ | exact fun v w w' h hS => by obtain ⟨gl, h1, h2, h3⟩ := hS; exact ⟨gl, h1, h2, h.keep h2 h3⟩)
   cases hp
  ·have f1 : a.tmps.getD 34 undef = .slice pO out'.length cO := hF 34 (Reg.looksB (by kernel_rfl))
   have f2 : a.tmps.getD 41 undef = .string (Num.lebS y) := hF 41 (Reg.looksB (by kernel_rfl))
   exact putRun (t := 48) (u := 9) (sl := .tmp 34) (x := .tmp 41) rfl Tryz.underlying48 Tryz.underlying9 info_u8 rfl f1 f2 hJ.1 HLEN.out hJ.2 HLT.out
  refine Reg.rely_is (.pointer (some ⟨k, 0, none⟩)) (fun a w hI hF => Reg.det_plain rfl ?_) ?_
  ·have f1 : a.tmps.getD 30 undef = .pointer (some ⟨k, 0, none⟩) := hF 30 (Reg.looksB (by kernel_rfl))
   clear hF hI
   simp only [Array.getD_eq_getD_getElem?] at f1
   simp only [execOp]; go_simp
  refine Reg.rely_is (.pointer (some ⟨k, 1, none⟩)) (fun a w hI hF => Reg.det_plain rfl ?_) ?_
  ·have f1 : a.tmps.getD 43 undef = .pointer (some ⟨k, 0, none⟩) := hF 43 (Reg.looksB (by kernel_rfl))
   clear hF hI
   simp only [Array.getD_eq_getD_getElem?] at f1
   simp only [execOp]; go_simp
  refine Reg.rely_nil ?_
  refine Reg.final_is ?_
  refine Reg.final_is ?_
  refine Reg.final_rel (fun v12 => ?_)
  refine Reg.final_is ?_
  refine Reg.final_rel (fun v10 => ?_)
  refine Reg.final_is ?_
  refine Reg.final_is ?_
  refine Reg.final_is ?_
  refine Reg.final_is ?_
  refine Reg.final_is ?_
  refine Reg.final_is ?_
  refine Reg.final_is ?_
  refine Reg.final_is ?_
  refine Reg.final_is ?_
  refine Reg.final_is ?_
  refine Reg.final_nil (fun w9 hF => ?_)
  have HI9 := Lib.hid hF.1.1
  have HS9 := Lib.hid hF.1.2
  clear hF
  simp only [List.drop_succ_cons, List.drop_zero]
  go_simp
  have d1 : w9.cell? ⟨k, 1, none⟩ = some (.slice pO out'.length cO) := by rw [HI9.out.kb.cell 1]; rfl
  have f1 := HI9.out.kb.frozen 1
  obtain ⟨p9, c9, rfl⟩ := owns_slice HS9.out
  generalize hl9 : (out' ++ Ms.bl (Num.lebS y)).length = l9
  have HL9 := Lib.hid hl9
  clear hl9
  go_wp2_with fail
  refine Reg.fin (by kernel_rfl) ?_
  go_upto_region 3 with fail
  have hkw := KWr.put2 HI9.out.kb HGE.out HS9.out
  rw [HL9.out] at hkw
  have HKW := Lib.hid (HFB.out hkw.1)
  have HON := Lib.hid (HOV.out.trans (HI9.out.on.trans hkw.2))
  have x3 := HON.out.cell HG.out HX.out
  clear hkw HI9 HS9 HRV HBV HOV HAV HI0 HROW HLT HW HLEN HFB d1 f1
  generalize World.setCell w9 _ _ = W at *
  have hz0 : LwRel w B k n OUT BAD LL (.int .i64 0) W := ⟨0, Nat.zero_le _, rfl, HKW.out, HON.out⟩
  clear HKW
  go_wp2
  go_loopw [49] (fun u wr => LwRel w B k n OUT BAD LL u wr) (fun u _ => ((n : Int) - intOf u).toNat)
  case atStart => exact hz0
  case round =>
   clear hz0 x3
   obtain ⟨i, hi1, rfl, hK, hO⟩ := hrel
   have HK := Lib.hid hK
   have HOi := Lib.hid hO
   have x4 := hO.cell HG.out HX.out
   clear hK hO
   by_cases hi : i < n
   ·obtain ⟨b, off, rfl, hbl⟩ := HP.out (by omega)
    have HC := Lib.hid (HN.out b off rfl i hi _ HOi.out HK.out)
    have hb9 := Nat.lt_of_lt_of_le hbl HOi.out.size
    have hki : (i : Int) < (n : Int) := by omega
    have hki0 : (0 : Int) ≤ (i : Int) := by omega
    have hn9 := HNB.out
    clear HN
    go_wp2_with (go_at_call 90; go_loud ((with_reducible refine HC.out.mono ?_); rintro e w5 ⟨rfl, h5, o5⟩; have H5 := Lib.hid h5; have O5 := Lib.hid (HOi.out.trans o5); clear h5 o5))
    go_roundw
    case rel => exact ⟨i + 1, by omega, rfl, H5.out, O5.out⟩
    case measure => simp [intOf]; omega
   ·have : i = n := by omega
    subst this
    go_wp2_with fail
    go_end0
    exact ⟨rfl, HK.out, HOi.out⟩
end
end Go.Proofs.YtghbjknpffiaiaaGreat

namespace Go.Proofs.YtghbjknpffiaiaaGreat
open Go.RowKit Wire Ms
set_option linter.unusedVariables false
set_option linter.unusedSimpArgs false
structure VS where
 i : Value
 a : Value
 n : Value
 h : Value
 m : Value
 c : Value
def mcells (m : M) (v : VS) : Array Value :=
 #[.int .u8 m.kind, .int .u64 m.job, .string m.tok, .string m.prog, v.i, .int .i64 m.fuel, .string m.task.path, .int .i64 m.task.fn, v.a, .int .i64 m.task.fuel, .int .u64 m.epoch, v.n, v.h, v.m, v.c, .int .u8 m.state, .int .i64 m.res.val, .int .i64 m.res.err, .int .i64 m.err]
def lI (x : Int) : List Value := [.int .i64 x]
def lU (x : Int) : List Value := [.int .u64 x]
def lN (n : Nm) : List Value := [.int .u64 n.job, .string n.path]
def lE (e : En) : List Value := [.int .u64 e.nm.job, .string e.nm.path, .int .i64 e.kids, .int .i64 e.res.val, .int .i64 e.res.err]
def Rw {α : Type} (sz : Nat) (LAY : α → List Value) (w : World) (B : Nat) (v : Value) (l : List α) : Prop :=
 ∃ p c, v = .slice p l.length c ∧ (0 < l.length → ∃ b off, p = some ⟨b, off, none⟩ ∧ b < B ∧ ∀ i (h : i < l.length) j x, (LAY l[i])[j]? = some x → w.cell? ⟨b, off + i * sz + j, none⟩ = some x)
structure MR (w : World) (B : Nat) (m : M) (v : VS) : Prop where
 ri : Rw 1 lI w B v.i m.input
 ra : Rw 1 lI w B v.a m.task.args
 rn : Rw 5 lE w B v.n m.ents
 rh : Rw 1 lU w B v.h m.epochs
 rm : Rw 2 lN w B v.m m.names
 rc : Rw 1 lI w B v.c m.codes
def MB (w : World) (B g : Nat) (m : M) (v : VS) : Prop := Blk w g 34 (mcells m v) ∧ MR w B m v
structure Lite (m : M) : Prop where
 tok : m.tok.size ≤ 1000000
 prog : m.prog.size ≤ 1000000
 path : m.task.path.size ≤ 1000000
 input : m.input.length ≤ 1000
 args : m.task.args.length ≤ 1000
 ents : m.ents.length ≤ 1000 ∧ ∀ e ∈ m.ents, e.nm.path.size ≤ 2000
 epochs : m.epochs.length ≤ 1000
 names : m.names.length ≤ 1000 ∧ ∀ n ∈ m.names, n.path.size ≤ 2000
 codes : m.codes.length ≤ 1000
theorem Rw.keep {α : Type} {sz : Nat} {LAY : α → List Value} {w w' : World} {B : Nat} {v : Value} {l : List α} (h : Rw sz LAY w B v l) (hk : ∀ b o x, b < B → w.cell? ⟨b, o, none⟩ = some x → w'.cell? ⟨b, o, none⟩ = some x) : Rw sz LAY w' B v l := by
 obtain ⟨p, c, h1, h2⟩ := h
 refine ⟨p, c, h1, fun h => ?_⟩
 obtain ⟨b, off, h3, h4, h5⟩ := h2 h
 exact ⟨b, off, h3, h4, fun i hi j x hx => hk _ _ _ h4 (h5 i hi j x hx)⟩
theorem MR.keep {w w' : World} {B : Nat} {m : M} {v : VS} (h : MR w B m v) (hk : ∀ b o x, b < B → w.cell? ⟨b, o, none⟩ = some x → w'.cell? ⟨b, o, none⟩ = some x) : MR w' B m v :=
 ⟨h.ri.keep hk, h.ra.keep hk, h.rn.keep hk, h.rh.keep hk, h.rm.keep hk, h.rc.keep hk⟩
theorem Below.cellq {w w' : World} {B b o : Nat} {x : Value} (h : Below B w w') (hb : b < B) (hc : w.cell? ⟨b, o, none⟩ = some x) : w'.cell? ⟨b, o, none⟩ = some x := by
 rw [← hc]; unfold World.cell?; dsimp only; rw [h.block b hb]
theorem MR.below {w w' : World} {B : Nat} {m : M} {v : VS} (h : MR w B m v) (hb : Below B w w') : MR w' B m v := h.keep fun b o x h1 h2 => Below.cellq hb h1 h2
theorem Rw.mono {α : Type} {sz : Nat} {LAY : α → List Value} {w : World} {B B' : Nat} {v : Value} {l : List α} (h : Rw sz LAY w B v l) (hB : B ≤ B') : Rw sz LAY w B' v l := by
 obtain ⟨p, c, h1, h2⟩ := h
 refine ⟨p, c, h1, fun h => ?_⟩
 obtain ⟨b, off, h3, h4, h5⟩ := h2 h
 exact ⟨b, off, h3, Nat.lt_of_lt_of_le h4 hB, h5⟩
theorem MR.mono {w : World} {B B' : Nat} {m : M} {v : VS} (h : MR w B m v) (hB : B ≤ B') : MR w B' m v :=
 ⟨h.ri.mono hB, h.ra.mono hB, h.rn.mono hB, h.rh.mono hB, h.rm.mono hB, h.rc.mono hB⟩
theorem KWb.away {w : World} {B k g : Nat} {out : Ls} {bad : Bool} {L : Nat} {T : TypeId} {A : Array Value} (c : KWb w B k out bad L) (hb : Blk w g T A) (h1 : T ≠ 58) (h2 : T ≠ 5) : Away w B k g := fun e => by
 obtain ⟨out', ⟨vO, hk, h3, h4⟩, h5, h6⟩ := c
 rcases e with e | ⟨_, A', e⟩
 ·rw [e] at hb; exact h1 (blk_ne hb hk)
 ·exact h2 (blk_ne hb e)
theorem KWb.awayB {w : World} {B k g : Nat} {out : Ls} {bad : Bool} {L : Nat} (c : KWb w B k out bad L) (hb : g < B) : Away w B k g := fun e => by
 have := c.ge
 rcases e with e | ⟨e, _⟩ <;> omega
theorem KWb.mono {w : World} {B k : Nat} {out : Ls} {bad : Bool} {L L' : Nat} (c : KWb w B k out bad L) (h : L ≤ L') : KWb w B k out bad L' := by
 obtain ⟨out', h1, h2, h3⟩ := c
 exact ⟨out', h1, h2, Nat.le_trans h3 h⟩
theorem WrP.mono {w : World} {B k : Nat} {out out' : Ls} {bad bad' : Bool} {L L' : Nat} {e : Ending} {w' : World} (c : WrP w B k out bad L e w') (h : L ≤ L') (ho : out = out') (hb : bad = bad') : WrP w B k out' bad' L' e w' := by
 subst ho hb
 exact ⟨c.1, c.2.1.mono h, c.2.2⟩
def outI {α : Type} (out : Ls) (w : α → Ls) (l : List α) (i : Nat) : Ls := out ++ (Num.leb l.length ++ wL w (l.take i))
def badI {α : Type} (bad : Bool) (most : Int) (f : α → Bool) (l : List α) (i : Nat) : Bool := (bad || decide (most < (l.length : Int))) || (l.take i).any f
theorem outI_succ {α : Type} {out : Ls} {w : α → Ls} {l : List α} {i : Nat} (h : i < l.length) : outI out w l i ++ w l[i] = outI out w l (i + 1) := by
 unfold outI wL
 rw [List.take_succ_eq_append_getElem h, List.flatMap_append]
 simp
theorem badI_succ {α : Type} {bad : Bool} {most : Int} {f : α → Bool} {l : List α} {i : Nat} (h : i < l.length) : (badI bad most f l i || f l[i]) = badI bad most f l (i + 1) := by
 unfold badI
 rw [List.take_succ_eq_append_getElem h, List.any_append, Bool.or_assoc]
 simp
theorem outI_zero {α : Type} (out : Ls) (w : α → Ls) (l : List α) : outI out w l 0 = out ++ Num.leb l.length := by unfold outI wL; simp
theorem badI_zero {α : Type} (bad : Bool) (most : Int) (f : α → Bool) (l : List α) : badI bad most f l 0 = (bad || decide (most < (l.length : Int))) := by unfold badI; simp
theorem outI_end {α : Type} (out : Ls) (w : α → Ls) (l : List α) : outI out w l l.length = out ++ wLs w l := by unfold outI wLs; rw [List.take_length]
theorem badI_end {α : Type} (bad : Bool) (most : Int) (f : α → Bool) (l : List α) : badI bad most f l l.length = (bad || (decide (most < (l.length : Int)) || l.any f)) := by unfold badI; rw [List.take_length, Bool.or_assoc]
theorem Rw.at {α : Type} {sz : Nat} {LAY : α → List Value} {w : World} {B : Nat} {p : Option Addr} {c : Nat} {l : List α} (h : Rw sz LAY w B (.slice p l.length c) l) {b off i : Nat} (hp : p = some ⟨b, off, none⟩) (hi : i < l.length) :
  b < B ∧ ∀ j x, (LAY l[i])[j]? = some x → w.cell? ⟨b, off + i * sz + j, none⟩ = some x := by
 obtain ⟨p', c', h1, h2⟩ := h
 injection h1 with h1 _ _
 subst h1
 obtain ⟨b', off', h3, h4, h5⟩ := h2 (by omega)
 rw [hp] at h3
 injection h3 with h3
 injection h3 with e1 e2 _
 subst e1 e2
 exact ⟨h4, fun j x hx => h5 i hi j x hx⟩
section
variable {w : World} {B k g o L : Nat} {out : Ls} {bad : Bool} {v : Value}
theorem lw_i64 {l : List Int} {most : Int}  (c : KWb w B k out bad L) (hB : B ≤ w.heap.size) (hL : L ≤ 500000000) (hx : w.cell? ⟨g, o, none⟩ = some v) (hg : Away w B k g) (hr : Rw 1 lI w B v l) (hl : l.length ≤ 1000) (ht : ∀ x ∈ l, I64 x) (hs : ∀ x ∈ l, True)  :
  Calls Tryz.prog 95 #[.pointer (some ⟨k, 0, none⟩), .pointer (some ⟨g, o, none⟩), .int .i64 most, .func (.func 96) #[.pointer (some ⟨k, 0, none⟩)] #[]] w (WrP w B k (out ++ wLs wI l) (bad || (decide (most < (l.length : Int)) || l.any (fun _ => false))) (L + 3000000)) := by
 have hr' := hr
 obtain ⟨p, cp, rfl, h2⟩ := hr'
 refine Calls.mono (listw_i64 (OUT := outI out wI l) (BAD := badI bad most (fun _ => false) l) (LL := fun i => L + 10 + i * 2100) c hB (by omega) hx hg (by omega) ⟨outI_zero _ _ _, badI_zero _ _ _ _, by simp⟩ (fun h => ?_) (fun b off hp i hi w' ho c' => ?_)) ?_
 ·obtain ⟨b, off, h3, h4, _⟩ := h2 h
  exact ⟨b, off, h3, by omega⟩
 ·obtain ⟨h3, h4⟩ := hr.at hp hi
  have hm := List.getElem_mem hi
  have haw : Away w B k b := c.awayB h3
  have hc := fun j x h => ho.cell haw (h4 j x h)
  have hB' : B ≤ w'.heap.size := Nat.le_trans hB ho.size
  have hLL : L + 10 + i * 2100 ≤ 600000000 := by omega
  have hw' := c'.awayB h3
  have tt := ht _ hm
  have ss := hs _ hm
  exact Calls.mono (wholew_any c' hB' (by omega) (by have h0 := hc 0 _ rfl; rw [Nat.mul_one] at h0; exact h0) hw' tt) fun e w2 h => h.mono (by omega) (outI_succ hi) ((Bool.or_false _).symm.trans (badI_succ (f := fun _ => false) hi))
 ·intro e w' h
  exact h.mono (by omega) (outI_end _ _ _) (badI_end _ _ _ _)
theorem lw_nm {l : List Nm} {most : Int}  (c : KWb w B k out bad L) (hB : B ≤ w.heap.size) (hL : L ≤ 500000000) (hx : w.cell? ⟨g, o, none⟩ = some v) (hg : Away w B k g) (hr : Rw 2 lN w B v l) (hl : l.length ≤ 1000) (ht : ∀ x ∈ l, U64 x.job) (hs : ∀ x ∈ l, x.path.size ≤ 2000)  :
    Calls Tryz.prog 97 #[.pointer (some ⟨k, 0, none⟩), .pointer (some ⟨g, o, none⟩), .int .i64 most, .func (.func 98) #[.pointer (some ⟨k, 0, none⟩)] #[]] w (WrP w B k (out ++ wLs wNm l) (bad || (decide (most < (l.length : Int)) || l.any nmW)) (L + 3000000)) := by
   have hr' := hr
   obtain ⟨p, cp, rfl, h2⟩ := hr'
   refine Calls.mono (listw_nm (OUT := outI out wNm l) (BAD := badI bad most nmW l) (LL := fun i => L + 10 + i * 2100) c hB (by omega) hx hg (by omega) ⟨outI_zero _ _ _, badI_zero _ _ _ _, by simp⟩ (fun h => ?_) (fun b off hp i hi w' ho c' => ?_)) ?_
   ·obtain ⟨b, off, h3, h4, _⟩ := h2 h
    exact ⟨b, off, h3, by omega⟩
   ·obtain ⟨h3, h4⟩ := hr.at hp hi
    have hm := List.getElem_mem hi
    have haw : Away w B k b := c.awayB h3
    have hc := fun j x h => ho.cell haw (h4 j x h)
    have hB' : B ≤ w'.heap.size := Nat.le_trans hB ho.size
    have hLL : L + 10 + i * 2100 ≤ 600000000 := by omega
    have hw' := c'.awayB h3
    have tt := ht _ hm
    have ss := hs _ hm
    exact Calls.mono (namew_any c' hB' (by omega) (hc 0 _ rfl) (hc 1 _ rfl) hw' tt (by omega)) fun e w2 h => h.mono (by omega) (outI_succ hi) (badI_succ hi)
   ·intro e w' h
    exact h.mono (by omega) (outI_end _ _ _) (badI_end _ _ _ _)
theorem lw_en {l : List En} {most : Int}  (c : KWb w B k out bad L) (hB : B ≤ w.heap.size) (hL : L ≤ 500000000) (hx : w.cell? ⟨g, o, none⟩ = some v) (hg : Away w B k g) (hr : Rw 5 lE w B v l) (hl : l.length ≤ 1000) (ht : ∀ x ∈ l, U64 x.nm.job ∧ I64 x.kids ∧ I64 x.res.val ∧ I64 x.res.err) (hs : ∀ x ∈ l, x.nm.path.size ≤ 2000)  :
      Calls Tryz.prog 89 #[.pointer (some ⟨k, 0, none⟩), .pointer (some ⟨g, o, none⟩), .int .i64 most, .func (.func 90) #[.pointer (some ⟨k, 0, none⟩)] #[]] w (WrP w B k (out ++ wLs wEn l) (bad || (decide (most < (l.length : Int)) || l.any enW)) (L + 3000000)) := by
     have hr' := hr
     obtain ⟨p, cp, rfl, h2⟩ := hr'
     refine Calls.mono (listw_en (OUT := outI out wEn l) (BAD := badI bad most enW l) (LL := fun i => L + 10 + i * 2100) c hB (by omega) hx hg (by omega) ⟨outI_zero _ _ _, badI_zero _ _ _ _, by simp⟩ (fun h => ?_) (fun b off hp i hi w' ho c' => ?_)) ?_
     ·obtain ⟨b, off, h3, h4, _⟩ := h2 h
      exact ⟨b, off, h3, by omega⟩
     ·obtain ⟨h3, h4⟩ := hr.at hp hi
      have hm := List.getElem_mem hi
      have haw : Away w B k b := c.awayB h3
      have hc := fun j x h => ho.cell haw (h4 j x h)
      have hB' : B ≤ w'.heap.size := Nat.le_trans hB ho.size
      have hLL : L + 10 + i * 2100 ≤ 600000000 := by omega
      have hw' := c'.awayB h3
      have tt := ht _ hm
      have ss := hs _ hm
      exact Calls.mono (entw_any c' hB' (by omega) (hc 0 _ rfl) (hc 1 _ rfl) (hc 2 _ rfl) (hc 3 _ rfl) (hc 4 _ rfl) hw' tt (by omega)) fun e w2 h => h.mono (by omega) (outI_succ hi) (badI_succ hi)
     ·intro e w' h
      exact h.mono (by omega) (outI_end _ _ _) (badI_end _ _ _ _)
theorem lw_u64 {l : List Int} {most : Int} {bx : Nat} (c : KWb w B k out bad L) (hB : B ≤ w.heap.size) (hL : L ≤ 500000000) (hx : w.cell? ⟨g, o, none⟩ = some v) (hg : Away w B k g) (hr : Rw 1 lU w B v l) (hl : l.length ≤ 1000) (ht : ∀ x ∈ l, U64 x) (hs : ∀ x ∈ l, True) (hxc : w.cell? ⟨bx, 0, none⟩ = some (.pointer (some ⟨k, 0, none⟩))) (hxa : Away w B k bx) :
        Calls Tryz.prog 91 #[.pointer (some ⟨k, 0, none⟩), .pointer (some ⟨g, o, none⟩), .int .i64 most, .func (.func 92) #[] #[.pointer (some ⟨bx, 0, none⟩)]] w (WrP w B k (out ++ wLs wU l) (bad || (decide (most < (l.length : Int)) || l.any (fun x => nb x 281474976710656))) (L + 3000000)) := by
       have hr' := hr
       obtain ⟨p, cp, rfl, h2⟩ := hr'
       refine Calls.mono (listw_u64 (OUT := outI out wU l) (BAD := badI bad most (fun x => nb x 281474976710656) l) (LL := fun i => L + 10 + i * 2100) c hB (by omega) hx hg (by omega) ⟨outI_zero _ _ _, badI_zero _ _ _ _, by simp⟩ (fun h => ?_) (fun b off hp i hi w' ho c' => ?_)) ?_
       ·obtain ⟨b, off, h3, h4, _⟩ := h2 h
        exact ⟨b, off, h3, by omega⟩
       ·obtain ⟨h3, h4⟩ := hr.at hp hi
        have hm := List.getElem_mem hi
        have haw : Away w B k b := c.awayB h3
        have hc := fun j x h => ho.cell haw (h4 j x h)
        have hB' : B ≤ w'.heap.size := Nat.le_trans hB ho.size
        have hLL : L + 10 + i * 2100 ≤ 600000000 := by omega
        have hw' := c'.awayB h3
        have tt := ht _ hm
        have ss := hs _ hm
        exact Calls.mono (clos_epochs (ho.cell hxa hxc) (numw_u64 c' hB' (by omega) (by have h0 := hc 0 _ rfl; rw [Nat.mul_one] at h0; exact h0) hw' tt)) fun e w2 h => WrP.mono h (by omega) (outI_succ hi) (badI_succ hi)
       ·intro e w' h
        exact h.mono (by omega) (outI_end _ _ _) (badI_end _ _ _ _)
theorem lw_err {l : List Int} {most : Int} {bx : Nat} (c : KWb w B k out bad L) (hB : B ≤ w.heap.size) (hL : L ≤ 500000000) (hx : w.cell? ⟨g, o, none⟩ = some v) (hg : Away w B k g) (hr : Rw 1 lI w B v l) (hl : l.length ≤ 1000) (ht : ∀ x ∈ l, I64 x) (hs : ∀ x ∈ l, True) (hxc : w.cell? ⟨bx, 0, none⟩ = some (.pointer (some ⟨k, 0, none⟩))) (hxa : Away w B k bx) :
          Calls Tryz.prog 99 #[.pointer (some ⟨k, 0, none⟩), .pointer (some ⟨g, o, none⟩), .int .i64 most, .func (.func 100) #[] #[.pointer (some ⟨bx, 0, none⟩)]] w (WrP w B k (out ++ wLs wU l) (bad || (decide (most < (l.length : Int)) || l.any (fun x => nb x 9999))) (L + 3000000)) := by
         have hr' := hr
         obtain ⟨p, cp, rfl, h2⟩ := hr'
         refine Calls.mono (listw_err (OUT := outI out wU l) (BAD := badI bad most (fun x => nb x 9999) l) (LL := fun i => L + 10 + i * 2100) c hB (by omega) hx hg (by omega) ⟨outI_zero _ _ _, badI_zero _ _ _ _, by simp⟩ (fun h => ?_) (fun b off hp i hi w' ho c' => ?_)) ?_
         ·obtain ⟨b, off, h3, h4, _⟩ := h2 h
          exact ⟨b, off, h3, by omega⟩
         ·obtain ⟨h3, h4⟩ := hr.at hp hi
          have hm := List.getElem_mem hi
          have haw : Away w B k b := c.awayB h3
          have hc := fun j x h => ho.cell haw (h4 j x h)
          have hB' : B ≤ w'.heap.size := Nat.le_trans hB ho.size
          have hLL : L + 10 + i * 2100 ≤ 600000000 := by omega
          have hw' := c'.awayB h3
          have tt := ht _ hm
          have ss := hs _ hm
          exact Calls.mono (clos_codes (ho.cell hxa hxc) (numw_err c' hB' (by omega) (by have h0 := hc 0 _ rfl; rw [Nat.mul_one] at h0; exact h0) hw' tt)) fun e w2 h => WrP.mono h (by omega) (outI_succ hi) (badI_succ hi)
         ·intro e w' h
          exact h.mono (by omega) (outI_end _ _ _) (badI_end _ _ _ _)
end
end Go.Proofs.YtghbjknpffiaiaaGreat

namespace Go.Proofs.YtghbjknpffiaiaaGreat
open Go.RowKit Wire Ms
set_option linter.unusedVariables false
set_option linter.unusedSimpArgs false
def PartW (f : FuncId) (s : M → Ls) (b : M → Bool) : Prop :=
 ∀ (w : World) (B k g L : Nat) (m : M) (v : VS) (out : Ls) (bad : Bool), KWb w B k out bad L → B ≤ w.heap.size → L ≤ 400000000 → MB w B g m v → TyM m → Lite m →
  Calls Tryz.prog f #[.pointer (some ⟨k, 0, none⟩), .pointer (some ⟨g, 0, none⟩)] w (WrP w B k (out ++ s m) (bad || b m) (L + 6000000))
theorem MB.away {w : World} {B k g L : Nat} {m : M} {v : VS} {out : Ls} {bad : Bool} (h : MB w B g m v) (c : KWb w B k out bad L) : Away w B k g := c.away h.1 (by decide) (by decide)
theorem MB.on {w w' : World} {B k g L : Nat} {m : M} {v : VS} {out : Ls} {bad : Bool} (h : MB w B g m v) (c : KWb w B k out bad L) (hB : B ≤ w.heap.size) (ho : OnW B k w w') : MB w' B g m v :=
 ⟨h.1.only ho (h.away c), h.2.below (ho.below hB c.ge)⟩
theorem MB.cell {w : World} {B g : Nat} {m : M} {v : VS} (h : MB w B g m v) (o : Nat) : w.cell? ⟨g, o, none⟩ = (mcells m v)[o]? := h.1.cell o
theorem MB.below {w w' : World} {B g : Nat} {m : M} {v : VS} (h : MB w B g m v) (hB : B ≤ w.heap.size) (hb : Below w.heap.size w w') : MB w' B g m v :=
 ⟨h.1.below hb, h.2.keep fun b o x h1 h2 => Below.cellq hb (by omega) h2⟩
theorem lt_len (k n : Nat) : decide ((k : Int) < (n : Int)) = decide (k < n) := intLt k n
theorem any_none {α : Type} (l : List α) : l.any (fun _ => false) = false := by induction l with
 | nil => rfl
 | cons a l ih => rw [List.any_cons, ih]; rfl
theorem pw_job : PartW 66 (wp .J) (wbad .J) := fun w B k g L m v out bad c hB hL h t l => by
  have haw := h.away c
  have hc := fun o => h.cell o
  have lt := l.tok
  have lp := l.prog
  exact Calls.mono (part_job (Q := fun w' => KWb w' B k _ _ _ ∧ OnW B k w w') h.1.lt (numw_u64 c hB (by omega) (hc 1) haw t.job)) fun e w' h => WrP.mono h (by omega) rfl rfl
theorem pw_fuel : PartW 65 (wp .F) (wbad .F) := fun w B k g L m v out bad c hB hL h t l => by
   have haw := h.away c
   have hc := fun o => h.cell o
   have lt := l.tok
   have lp := l.prog
   exact Calls.mono (part_fuel (Q := fun w' => KWb w' B k _ _ _ ∧ OnW B k w w') h.1.lt (numw_int c hB (by omega) (hc 5) haw t.fuel)) fun e w' h => WrP.mono h (by omega) rfl rfl
theorem pw_err : PartW 67 (wp .X) (wbad .X) := fun w B k g L m v out bad c hB hL h t l => by
    have haw := h.away c
    have hc := fun o => h.cell o
    have lt := l.tok
    have lp := l.prog
    exact Calls.mono (part_err (Q := fun w' => KWb w' B k _ _ _ ∧ OnW B k w w') h.1.lt (numw_err c hB (by omega) (hc 18) haw t.err)) fun e w' h => WrP.mono h (by omega) rfl rfl
theorem pw_epoch : PartW 72 (wp .E) (wbad .E) := fun w B k g L m v out bad c hB hL h t l => by
     have haw := h.away c
     have hc := fun o => h.cell o
     have lt := l.tok
     have lp := l.prog
     exact Calls.mono (part_epoch (Q := fun w' => KWb w' B k _ _ _ ∧ OnW B k w w') h.1.lt (numw_u64 c hB (by omega) (hc 10) haw t.epoch)) fun e w' h => WrP.mono h (by omega) rfl rfl
theorem pw_state : PartW 78 (wp .S) (wbad .S) := fun w B k g L m v out bad c hB hL h t l => by
      have haw := h.away c
      have hc := fun o => h.cell o
      have lt := l.tok
      have lp := l.prog
      exact Calls.mono (part_state (Q := fun w' => KWb w' B k _ _ _ ∧ OnW B k w w') h.1.lt (numw_u8 c hB (by omega) (hc 15) haw t.state)) fun e w' h => WrP.mono h (by omega) rfl rfl
theorem pw_result : PartW 79 (wp .R) (wbad .R) := fun w B k g L m v out bad c hB hL h t l => by
       have haw := h.away c
       have hc := fun o => h.cell o
       have lt := l.tok
       have lp := l.prog
       exact Calls.mono (part_result (Q := fun w' => KWb w' B k _ _ _ ∧ OnW B k w w') h.1.lt (resw_any (r := m.res) c hB (by omega) (hc 16) (hc 17) haw t.res)) fun e w' h => WrP.mono h (by omega) rfl rfl
theorem pw_token : PartW 76 (wp .T) (wbad .T) := fun w B k g L m v out bad c hB hL h t l => by
        have haw := h.away c
        have hc := fun o => h.cell o
        have lt := l.tok
        have lp := l.prog
        exact Calls.mono (part_token (Q := fun w' => KWb w' B k _ _ _ ∧ OnW B k w w') h.1.lt (textw_any c hB (by omega) (hc 2) haw (by omega))) fun e w' h => WrP.mono h (by omega) rfl (congrArg (bad || ·) (lt_len 32 m.tok.size))
theorem pw_program : PartW 70 (wp .P) (wbad .P) := fun w B k g L m v out bad c hB hL h t l => by
         have haw := h.away c
         have hc := fun o => h.cell o
         have lt := l.tok
         have lp := l.prog
         exact Calls.mono (part_program (Q := fun w' => KWb w' B k _ _ _ ∧ OnW B k w w') h.1.lt (textw_any c hB (by omega) (hc 3) haw (by omega))) fun e w' h => WrP.mono h (by omega) rfl (congrArg (bad || ·) (lt_len 16384 m.prog.size))
theorem pw_input : PartW 77 (wp .I) (wbad .I) := fun w B k g L m v out bad c hB hL h t l => by
          have haw := h.away c
          have hc := fun o => h.cell o
          have lt := l.tok
          have lp := l.prog
          exact Calls.mono (part_input (Q := fun w' => KWb w' B k _ _ _ ∧ OnW B k w w') h.1.lt (lw_i64 c hB (by omega) (hc 4) haw h.2.ri l.input t.input (fun _ _ => trivial))) fun e w' h => WrP.mono h (by omega) rfl (congrArg (bad || ·) (show (decide ((16 : Int) < (m.input.length : Int)) || m.input.any fun _ => false) = decide (16 < m.input.length) by rw [any_none, Bool.or_false]; exact lt_len 16 _))
theorem pw_entries : PartW 68 (wp .N) (wbad .N) := fun w B k g L m v out bad c hB hL h t l => by
           have haw := h.away c
           have hc := fun o => h.cell o
           have lt := l.tok
           have lp := l.prog
           exact Calls.mono (part_entries (Q := fun w' => KWb w' B k _ _ _ ∧ OnW B k w w') h.1.lt (lw_en c hB (by omega) (hc 11) haw h.2.rn l.ents.1 t.ents l.ents.2)) fun e w' h => WrP.mono h (by omega) rfl (congrArg (bad || ·) (show (decide ((128 : Int) < (m.ents.length : Int)) || m.ents.any enW) = (decide (128 < m.ents.length) || m.ents.any enW) from congrArg (· || m.ents.any enW) (lt_len 128 _)))
theorem pw_names : PartW 73 (wp .A) (fun m => decide (128 < m.names.length) || m.names.any nmW) := fun w B k g L m v out bad c hB hL h t l => by
 have haw := h.away c
 exact Calls.mono (part_names (Q := fun w' => KWb w' B k _ _ _ ∧ OnW B k w w') h.1.lt (lw_nm c hB (by omega) (h.cell 13) haw h.2.rm l.names.1 t.names l.names.2)) fun e w' h => WrP.mono h (by omega) rfl (congrArg (bad || ·) (show (decide ((128 : Int) < (m.names.length : Int)) || m.names.any nmW) = (decide (128 < m.names.length) || m.names.any nmW) from congrArg (· || m.names.any nmW) (lt_len 128 _)))
theorem Rw.slice {α : Type} {sz : Nat} {LAY : α → List Value} {w : World} {B : Nat} {v : Value} {l : List α} (h : Rw sz LAY w B v l) : ∃ p c, v = .slice p l.length c := by
 obtain ⟨p, c, h1, _⟩ := h
 exact ⟨p, c, h1⟩
theorem MB.sl {w : World} {B g : Nat} {m : M} {v : VS} (h : MB w B g m v) : (∃ p c, w.cell? ⟨g, 11, none⟩ = some (.slice p m.ents.length c)) ∧ (∃ p c, w.cell? ⟨g, 12, none⟩ = some (.slice p m.epochs.length c)) ∧ (∃ p c, w.cell? ⟨g, 13, none⟩ = some (.slice p m.names.length c)) := by
 obtain ⟨p1, c1, e1⟩ := h.2.rn.slice
 obtain ⟨p2, c2, e2⟩ := h.2.rh.slice
 obtain ⟨p3, c3, e3⟩ := h.2.rm.slice
 exact ⟨⟨p1, c1, by rw [h.cell 11, ← e1]; rfl⟩, ⟨p2, c2, by rw [h.cell 12, ← e2]; rfl⟩, ⟨p3, c3, by rw [h.cell 13, ← e3]; rfl⟩⟩
theorem pw_dropped : PartW 75 (wp .A) (fun m => (decide (128 < m.names.length) || m.names.any nmW) || m.epochs.length != m.names.length) := fun w B k g L m v out bad c hB hL h t l => by
 have key := pw_names w B k g L m v out bad c hB hL h t l
 refine Calls.mono (part_dropped (n := m.epochs.length) (m := m.names.length) (b1 := bad || (decide (128 < m.names.length) || m.names.any nmW)) (Q1 := fun w' => KWb w' B k (out ++ wp .A m) (bad || (decide (128 < m.names.length) || m.names.any nmW)) (L + 6000000) ∧ OnW B k w w')
  (Q := fun w' => KWb w' B k (out ++ wp .A m) ((bad || (decide (128 < m.names.length) || m.names.any nmW)) || m.epochs.length != m.names.length) (L + 6000000) ∧ OnW B k w w') key (fun w1 hq => ?_) (fun w1 w2 hq hb => ?_)) fun e w' h => WrP.mono h (by omega) rfl (Bool.or_assoc _ _ _)
 ·have h1 := (h.on c hB hq.2).sl
  exact ⟨hq.1.c2, hq.1.fz 2, h1.2.1, h1.2.2⟩
 ·have c2 := (hq.1.below hb).flag ((bad || (decide (128 < m.names.length) || m.names.any nmW)) || m.epochs.length != m.names.length) (fun e => (Bool.or_eq_false_iff.1 e).1)
  exact ⟨c2.1, (hq.2.step hb).trans c2.2⟩
theorem pw_codes : PartW 74 (wp .C) (wbad .C) := fun w B k g L m v out bad c hB hL h t l => by
 refine Calls.mono (part_codes (Q := fun w' => KWb w' B k (out ++ wp .C m) (bad || (decide ((128 : Int) < (m.codes.length : Int)) || m.codes.any fun x => nb x 9999)) (L + 3000000) ∧ OnW B k w w') h.1.lt fun w2 hb hx => ?_) fun e w' h => WrP.mono h (by omega) rfl (congrArg (bad || ·) (congrArg (· || m.codes.any fun x => nb x 9999) (lt_len 128 _)))
 have c2 := c.below hb
 have h2 := h.below hB hb
 exact Calls.mono (lw_err c2 (Nat.le_trans hB hb.size) (by omega) (h2.cell 14) (h2.away c2) h2.2.rc l.codes t.codes (fun _ _ => trivial) (hx.cell 0) (c2.away hx (by decide) (by decide))) fun e w' h => ⟨h.1, h.2.1, OnW.trans (.of_below hb) h.2.2⟩
theorem pw_epochs : PartW 69 (wp .H) (wbad .H) := fun w B k g L m v out bad c hB hL h t l => by
 refine Calls.mono (part_epochs (kd := m.kind) (n := m.epochs.length) (m := m.ents.length) (b1 := bad || (decide ((128 : Int) < (m.epochs.length : Int)) || m.epochs.any fun x => nb x 281474976710656))
  (Q1 := fun w' => KWb w' B k (out ++ wp .H m) (bad || (decide ((128 : Int) < (m.epochs.length : Int)) || m.epochs.any fun x => nb x 281474976710656)) (L + 3000000) ∧ OnW B k w w' ∧ Blk w' w.heap.size 55 #[.pointer (some ⟨k, 0, none⟩)])
  (Q := fun w' => KWb w' B k (out ++ wp .H m) ((bad || (decide ((128 : Int) < (m.epochs.length : Int)) || m.epochs.any fun x => nb x 281474976710656)) || (m.kind == 4 && m.epochs.length != m.ents.length)) (L + 3000000) ∧ OnW B k w w') h.1.lt (fun w2 hb hx => ?_) (fun w1 hq => ?_) (fun w1 w2 hq hb => ?_)) fun e w' h => WrP.mono h (by omega) rfl ((Bool.or_assoc _ _ _).trans (congrArg (bad || ·) (congrArg (· || (m.kind == 4 && m.epochs.length != m.ents.length)) (congrArg (· || m.epochs.any fun x => nb x 281474976710656) (lt_len 128 _)))))
 ·have c2 := c.below hb
  have h2 := h.below hB hb
  exact Calls.mono (lw_u64 c2 (Nat.le_trans hB hb.size) (by omega) (h2.cell 12) (h2.away c2) h2.2.rh l.epochs t.epochs (fun _ _ => trivial) (hx.cell 0) (c2.away hx (by decide) (by decide))) fun e w' h => ⟨h.1, h.2.1, OnW.trans (.of_below hb) h.2.2, hx.only h.2.2 (c2.away hx (by decide) (by decide))⟩
 ·have h1 := h.on c hB hq.2.1
  exact ⟨hq.2.2.cell 0, hq.1.c2, hq.1.fz 2, h1.cell 0, h1.sl.2.1, h1.sl.1⟩
 ·have c2 := (hq.1.below hb).flag ((bad || (decide ((128 : Int) < (m.epochs.length : Int)) || m.epochs.any fun x => nb x 281474976710656)) || (m.kind == 4 && m.epochs.length != m.ents.length)) (fun e => (Bool.or_eq_false_iff.1 e).1)
  exact ⟨c2.1, (hq.2.1.step hb).trans c2.2⟩
theorem pw_task : PartW 71 (wp .K) (wbad .K) := fun w B k g L m v out bad c hB hL h t l => by
 have l1 := l.path
 have hs := fun {w' : World} (ho : OnW B k w w') => Nat.le_trans hB ho.size
 refine Calls.mono (part_task
  (Q1 := fun w' => KWb w' B k (out ++ wT m.task.path) (bad || (decide (12 < m.task.path.size) || !pathB m.task.path)) (L + 1000010) ∧ OnW B k w w')
  (Q2 := fun w' => KWb w' B k ((out ++ wT m.task.path) ++ wU m.task.fn) ((bad || (decide (12 < m.task.path.size) || !pathB m.task.path)) || nb m.task.fn 15) (L + 1000020) ∧ OnW B k w w')
  (Q3 := fun w' => KWb w' B k (((out ++ wT m.task.path) ++ wU m.task.fn) ++ wLs wI m.task.args) (((bad || (decide (12 < m.task.path.size) || !pathB m.task.path)) || nb m.task.fn 15) || (decide ((16 : Int) < (m.task.args.length : Int)) || m.task.args.any fun _ => false)) (L + 4000020) ∧ OnW B k w w')
  (Q := fun w' => KWb w' B k ((((out ++ wT m.task.path) ++ wU m.task.fn) ++ wLs wI m.task.args) ++ wU m.task.fuel) ((((bad || (decide (12 < m.task.path.size) || !pathB m.task.path)) || nb m.task.fn 15) || (decide ((16 : Int) < (m.task.args.length : Int)) || m.task.args.any fun _ => false)) || nb m.task.fuel 65536) (L + 4000030) ∧ OnW B k w w')
  ?_ (fun w1 q => ?_) (fun w1 q => ?_) (fun w1 q => ?_)) fun e w' h => WrP.mono h (by omega) ?_ ?_
 ·exact Calls.mono (pathw_any c hB (by omega) (h.cell 6) (h.away c) (by omega)) fun e w' h => ⟨h.1, h.2.1.mono (by omega), h.2.2⟩
 ·have h1 := h.on c hB q.2
  exact Calls.mono (numw_int q.1 (hs q.2) (by omega) (h1.cell 7) (h1.away q.1) t.fn) fun e w' h => ⟨h.1, h.2.1.mono (by omega), q.2.trans h.2.2⟩
 ·have h1 := h.on c hB q.2
  exact Calls.mono (lw_i64 q.1 (hs q.2) (by omega) (h1.cell 8) (h1.away q.1) h1.2.ra l.args t.args (fun _ _ => trivial)) fun e w' h => ⟨h.1, h.2.1.mono (by omega), q.2.trans h.2.2⟩
 ·have h1 := h.on c hB q.2
  exact Calls.mono (numw_int q.1 (hs q.2) (by omega) (h1.cell 9) (h1.away q.1) t.tfuel) fun e w' h => ⟨h.1, h.2.1.mono (by omega), q.2.trans h.2.2⟩
 ·show _ = out ++ wTk m.task
  unfold wTk
  simp only [List.append_assoc]
 ·show _ = (bad || ((decide (12 < m.task.path.size) || !pathB m.task.path) || (nb m.task.fn 15 || (decide (16 < m.task.args.length) || nb m.task.fuel 65536))))
  rw [any_none, Bool.or_false, show decide ((16 : Int) < (m.task.args.length : Int)) = decide (16 < m.task.args.length) from lt_len 16 _]
  simp only [Bool.or_assoc]
end Go.Proofs.YtghbjknpffiaiaaGreat

namespace Go.Proofs.YtghbjknpffiaiaaGreat
open Go.RowKit Wire Ms
set_option linter.unusedVariables false
set_option linter.unusedSimpArgs false
def RwD {α : Type} (sz : Nat) (LAY : α → List Value) (w : World) (D : Nat) (v : Value) (l : List α) : Prop :=
 ∃ p c, v = .slice p l.length c ∧ (0 < l.length → ∃ b off, p = some ⟨b, off, none⟩ ∧ (D ≤ b ∧ b < w.heap.size) ∧ ∀ i (h : i < l.length) j x, (LAY l[i])[j]? = some x → w.cell? ⟨b, off + i * sz + j, none⟩ = some x)
structure MRD (w : World) (D : Nat) (m : M) (v : VS) : Prop where
 ri : RwD 1 lI w D v.i m.input
 ra : RwD 1 lI w D v.a m.task.args
 rn : RwD 5 lE w D v.n m.ents
 rh : RwD 1 lU w D v.h m.epochs
 rm : RwD 2 lN w D v.m m.names
 rc : RwD 1 lI w D v.c m.codes
section
variable {w w' : World} {k rb g D o : Nat} {m t : M} {v : VS} {q : RS} {bad : Bool}
theorem RwD.rw {α : Type} {sz : Nat} {LAY : α → List Value} {v : Value} {l : List α} (h : RwD sz LAY w D v l) : Rw sz LAY w w.heap.size v l := by
 obtain ⟨p, c, h1, h2⟩ := h
 refine ⟨p, c, h1, fun h => ?_⟩
 obtain ⟨b, off, h3, h4, h5⟩ := h2 h
 exact ⟨b, off, h3, h4.2, h5⟩
theorem MRD.mr (h : MRD w D m v) : MR w w.heap.size m v := ⟨h.ri.rw, h.ra.rw, h.rn.rw, h.rh.rw, h.rm.rw, h.rc.rw⟩
theorem RwD.keep {α : Type} {sz : Nat} {LAY : α → List Value} {v : Value} {l : List α} (h : RwD sz LAY w D v l) (hk : ∀ b o x, D ≤ b → w.cell? ⟨b, o, none⟩ = some x → w'.cell? ⟨b, o, none⟩ = some x) (hs : w.heap.size ≤ w'.heap.size) : RwD sz LAY w' D v l := by
 obtain ⟨p, c, h1, h2⟩ := h
 refine ⟨p, c, h1, fun h => ?_⟩
 obtain ⟨b, off, h3, h4, h5⟩ := h2 h
 exact ⟨b, off, h3, ⟨h4.1, by omega⟩, fun i hi j x hx => hk _ _ _ h4.1 (h5 i hi j x hx)⟩
theorem MRD.keep (h : MRD w D m v) (hk : ∀ b o x, D ≤ b → w.cell? ⟨b, o, none⟩ = some x → w'.cell? ⟨b, o, none⟩ = some x) (hs : w.heap.size ≤ w'.heap.size) : MRD w' D m v :=
 ⟨h.ri.keep hk hs, h.ra.keep hk hs, h.rn.keep hk hs, h.rh.keep hk hs, h.rm.keep hk hs, h.rc.keep hk hs⟩
theorem MRD.on (h : MRD w D m v) (ho : OnRd k rb g w w') (h1 : k < D ∧ rb < D ∧ g < D) : MRD w' D m v := h.keep (fun b o x hb hx => Only.cellq ho hx fun e => by rcases e with e | e | e <;> omega) ho.size
theorem RwD.nil {α : Type} {sz : Nat} {LAY : α → List Value} : RwD sz LAY w D (.slice none 0 0) ([] : List α) := ⟨none, 0, rfl, fun h => absurd h (Nat.lt_irrefl _)⟩
theorem RwD.own {α : Type} {sz : Nat} {LAY : α → List Value} {TX : TypeId} {v : Value} {l : List α} {base : Nat} (hsz : ∀ x, (LAY x).length = sz) (h : w.ownsRow base TX sz v l.length (l.flatMap LAY)) (hD : D ≤ base) : RwD sz LAY w D v l := by
 obtain ⟨p, c, h1⟩ := owns_slice h
 refine ⟨p, c, h1, fun hn => ?_⟩
 obtain ⟨b, cap, h2, h3, h4, _, h6⟩ := owns_cells h hn
 rw [h1] at h2
 injection h2 with h2 _ _
 refine ⟨b, 0, h2, ⟨by omega, h4⟩, fun i hi j x hx => ?_⟩
 have hj : j < sz := by
  rw [← hsz l[i]]
  exact (List.getElem?_eq_some_iff.1 hx).1
 have hlt : i * sz + j < l.length * sz := by
  have h7 := Nat.mul_le_mul_right sz (show i + 1 ≤ l.length from hi)
  rw [Nat.succ_mul] at h7
  omega
 rw [Nat.zero_add, h6 _ hlt, flat_at LAY sz hsz l i j hi hj, hx]
theorem KRd.lt (c : KRd w k rb q bad) : k < w.heap.size ∧ rb < w.heap.size := ⟨c.1.lt, c.2.blk.lt⟩
theorem lr_i64 {T : TypeId} {A : Array Value} {most : Int}  (c : KRd w k rb q bad) (hb : Blk w g T A) (ho : A[o]? = some (.slice none 0 0)) (hgk : g ≠ k) (hgr : g ≠ rb) (hm : I64 most) (hm2 : most ≤ 1000000) (hD : D ≤ w.heap.size)  :
  Calls Tryz.prog 95 #[.pointer (some ⟨k, 0, none⟩), .pointer (some ⟨g, o, none⟩), .int .i64 most, .func (.func 96) #[.pointer (some ⟨k, 0, none⟩)] #[]] w
   (fun e w' => e = .returned (.tuple #[]) ∧ ∃ v, KRd w' k rb (rL most rI q).2 (bad || (rL most rI q).1.any (fun (_ : Int) => false)) ∧ Blk w' g T (A.setIfInBounds o v) ∧ RwD 1 lI w' D v (rL most rI q).1 ∧ OnRd k rb g w w') := by
 have hlt := c.lt
 refine Calls.mono (listr_i64 c hb ho hgk hgr hm hm2 fun w1 q' b' gx c1 b1 hx ho1 => ?_) fun e w' h => ?_
 ·have h1 : gx ≠ k := by omega
  have h2 : gx ≠ rb := by omega
  exact Calls.mono (wholer_any c1 b1 (by decide) h1 h2) fun e w' h => ⟨h.1, h.2.1, by rw [Bool.or_false]; exact h.2.2.1, h.2.2.2⟩
 ·obtain ⟨h1, v, h2⟩ := h
  exact ⟨h1, v, h2.kr, h2.blk, RwD.own (fun _ => rfl) h2.row hD, h2.on⟩
theorem lr_nm {T : TypeId} {A : Array Value} {most : Int}  (c : KRd w k rb q bad) (hb : Blk w g T A) (ho : A[o]? = some (.slice none 0 0)) (hgk : g ≠ k) (hgr : g ≠ rb) (hm : I64 most) (hm2 : most ≤ 1000000) (hD : D ≤ w.heap.size)  :
    Calls Tryz.prog 97 #[.pointer (some ⟨k, 0, none⟩), .pointer (some ⟨g, o, none⟩), .int .i64 most, .func (.func 98) #[.pointer (some ⟨k, 0, none⟩)] #[]] w
     (fun e w' => e = .returned (.tuple #[]) ∧ ∃ v, KRd w' k rb (rL most rNm q).2 (bad || (rL most rNm q).1.any (fun (x : Nm) => !pathB x.path)) ∧ Blk w' g T (A.setIfInBounds o v) ∧ RwD 2 lN w' D v (rL most rNm q).1 ∧ OnRd k rb g w w') := by
   have hlt := c.lt
   refine Calls.mono (listr_nm c hb ho hgk hgr hm hm2 fun w1 q' b' gx c1 b1 hx ho1 => ?_) fun e w' h => ?_
   ·have h1 : gx ≠ k := by omega
    have h2 : gx ≠ rb := by omega
    exact Calls.mono (namer_any c1 b1 (by decide) h1 h2) fun e w' h => ⟨h.1, h.2.1, h.2.2.1, h.2.2.2⟩
   ·obtain ⟨h1, v, h2⟩ := h
    exact ⟨h1, v, h2.kr, h2.blk, RwD.own (fun _ => rfl) h2.row hD, h2.on⟩
theorem lr_en {T : TypeId} {A : Array Value} {most : Int}  (c : KRd w k rb q bad) (hb : Blk w g T A) (ho : A[o]? = some (.slice none 0 0)) (hgk : g ≠ k) (hgr : g ≠ rb) (hm : I64 most) (hm2 : most ≤ 1000000) (hD : D ≤ w.heap.size)  :
      Calls Tryz.prog 89 #[.pointer (some ⟨k, 0, none⟩), .pointer (some ⟨g, o, none⟩), .int .i64 most, .func (.func 90) #[.pointer (some ⟨k, 0, none⟩)] #[]] w
       (fun e w' => e = .returned (.tuple #[]) ∧ ∃ v, KRd w' k rb (rL most rEn q).2 (bad || (rL most rEn q).1.any (fun (x : En) => !pathB x.nm.path || !resB x.res)) ∧ Blk w' g T (A.setIfInBounds o v) ∧ RwD 5 lE w' D v (rL most rEn q).1 ∧ OnRd k rb g w w') := by
     have hlt := c.lt
     refine Calls.mono (listr_en c hb ho hgk hgr hm hm2 fun w1 q' b' gx c1 b1 hx ho1 => ?_) fun e w' h => ?_
     ·have h1 : gx ≠ k := by omega
      have h2 : gx ≠ rb := by omega
      exact Calls.mono (entr_any c1 b1 (by decide) h1 h2) fun e w' h => ⟨h.1, h.2.1, h.2.2.1, h.2.2.2⟩
     ·obtain ⟨h1, v, h2⟩ := h
      exact ⟨h1, v, h2.kr, h2.blk, RwD.own (fun _ => rfl) h2.row hD, h2.on⟩
theorem lr_u64 {T : TypeId} {A : Array Value} {most : Int} {bx : Nat} (c : KRd w k rb q bad) (hb : Blk w g T A) (ho : A[o]? = some (.slice none 0 0)) (hgk : g ≠ k) (hgr : g ≠ rb) (hm : I64 most) (hm2 : most ≤ 1000000) (hD : D ≤ w.heap.size) (hxb : Blk w bx 55 #[.pointer (some ⟨k, 0, none⟩)]) (hxn : bx ≠ k ∧ bx ≠ rb ∧ bx ≠ g) :
        Calls Tryz.prog 91 #[.pointer (some ⟨k, 0, none⟩), .pointer (some ⟨g, o, none⟩), .int .i64 most, .func (.func 92) #[] #[.pointer (some ⟨bx, 0, none⟩)]] w
         (fun e w' => e = .returned (.tuple #[]) ∧ ∃ v, KRd w' k rb (rL most (rU 281474976710656) q).2 (bad || (rL most (rU 281474976710656) q).1.any (fun (_ : Int) => false)) ∧ Blk w' g T (A.setIfInBounds o v) ∧ RwD 1 lU w' D v (rL most (rU 281474976710656) q).1 ∧ OnRd k rb g w w') := by
       have hlt := c.lt
       refine Calls.mono (listr_u64 c hb ho hgk hgr hm hm2 fun w1 q' b' gx c1 b1 hx ho1 => ?_) fun e w' h => ?_
       ·have h1 : gx ≠ k := by omega
        have h2 : gx ≠ rb := by omega
        exact Calls.mono (clos_epochs (Q := fun w' => Blk w' gx _ _ ∧ KRd w' k rb _ _ ∧ Only (fun j => j = k ∨ j = rb ∨ j = gx) w1 w') ((hxb.only ho1 (fun e => by rcases e with e | e | e <;> omega)).cell 0) (numr_u64 c1 b1 (by decide) h1 h2)) fun e w' h => ⟨h.1, h.2.1, by rw [Bool.or_false]; exact h.2.2.1, h.2.2.2⟩
       ·obtain ⟨h1, v, h2⟩ := h
        exact ⟨h1, v, h2.kr, h2.blk, RwD.own (fun _ => rfl) h2.row hD, h2.on⟩
theorem lr_err {T : TypeId} {A : Array Value} {most : Int} {bx : Nat} (c : KRd w k rb q bad) (hb : Blk w g T A) (ho : A[o]? = some (.slice none 0 0)) (hgk : g ≠ k) (hgr : g ≠ rb) (hm : I64 most) (hm2 : most ≤ 1000000) (hD : D ≤ w.heap.size) (hxb : Blk w bx 55 #[.pointer (some ⟨k, 0, none⟩)]) (hxn : bx ≠ k ∧ bx ≠ rb ∧ bx ≠ g) :
          Calls Tryz.prog 99 #[.pointer (some ⟨k, 0, none⟩), .pointer (some ⟨g, o, none⟩), .int .i64 most, .func (.func 100) #[] #[.pointer (some ⟨bx, 0, none⟩)]] w
           (fun e w' => e = .returned (.tuple #[]) ∧ ∃ v, KRd w' k rb (rL most (rU 9999) q).2 (bad || (rL most (rU 9999) q).1.any (fun (_ : Int) => false)) ∧ Blk w' g T (A.setIfInBounds o v) ∧ RwD 1 lI w' D v (rL most (rU 9999) q).1 ∧ OnRd k rb g w w') := by
         have hlt := c.lt
         refine Calls.mono (listr_err c hb ho hgk hgr hm hm2 fun w1 q' b' gx c1 b1 hx ho1 => ?_) fun e w' h => ?_
         ·have h1 : gx ≠ k := by omega
          have h2 : gx ≠ rb := by omega
          exact Calls.mono (clos_codes (Q := fun w' => Blk w' gx _ _ ∧ KRd w' k rb _ _ ∧ Only (fun j => j = k ∨ j = rb ∨ j = gx) w1 w') ((hxb.only ho1 (fun e => by rcases e with e | e | e <;> omega)).cell 0) (numr_err c1 b1 (by decide) h1 h2 (by decide))) fun e w' h => ⟨h.1, h.2.1, by rw [Bool.or_false]; exact h.2.2.1, h.2.2.2⟩
         ·obtain ⟨h1, v, h2⟩ := h
          exact ⟨h1, v, h2.kr, h2.blk, RwD.own (fun _ => rfl) h2.row hD, h2.on⟩
end
def nilV : Value := .slice none 0 0
def vp : Pt → VS → Value
 | .I, v => v.i
 | .K, v => v.a
 | .N, v => v.n
 | .H, v => v.h
 | .A, v => v.m
 | .C, v => v.c
 | _, _ => nilV
structure RdSt (w : World) (k rb g D : Nat) (t : M) (v : VS) (q : RS) (bad : Bool) : Prop where
 kr : KRd w k rb q bad
 blk : Blk w g 34 (mcells t v)
 rows : MRD w D t v
 lt : k < D ∧ rb < D ∧ g < D
 size : D ≤ w.heap.size
 gk : g ≠ k
 gr : g ≠ rb
def PartR (f : FuncId) (p : Pt) (x : M → Bool) : Prop :=
 ∀ (w : World) (k rb g D : Nat) (t : M) (v : VS) (q : RS) (bad : Bool), RdSt w k rb g D t v q bad → vp p v = nilV →
  Calls Tryz.prog f #[.pointer (some ⟨k, 0, none⟩), .pointer (some ⟨g, 0, none⟩)] w (fun e w' => e = .returned (.tuple #[]) ∧ ∃ v', RdSt w' k rb g D (rp p t q).1 v' (rp p t q).2 (bad || x (rp p t q).1) ∧ OnRd k rb g w w' ∧ ∀ p', p' ≠ p → vp p' v' = vp p' v)
section
variable {w w' : World} {k rb g D : Nat} {t t' : M} {v v' : VS} {q q' : RS} {bad bad' : Bool}
theorem RdSt.next (s : RdSt w k rb g D t v q bad) (hb : Blk w' g 34 (mcells t' v')) (hk : KRd w' k rb q' bad') (ho : OnRd k rb g w w') (hr : MRD w' D t' v') : RdSt w' k rb g D t' v' q' bad' :=
 ⟨hk, hb, hr, s.lt, Nat.le_trans s.size ho.size, s.gk, s.gr⟩
theorem RdSt.below (s : RdSt w k rb g D t v q bad) (hb : Below w.heap.size w w') : RdSt w' k rb g D t v q bad :=
 s.next (s.blk.below hb) (s.kr.below hb) (.of_below hb) (s.rows.on (.of_below hb : OnRd k rb g w w') s.lt)
theorem RdSt.flag (s : RdSt w k rb g D t v q bad) (b : Bool) : RdSt (w.setCell ⟨k, 2, none⟩ (.bool b)) k rb g D t v q b ∧ OnRd k rb g w (w.setCell ⟨k, 2, none⟩ (.bool b)) := by
 obtain ⟨h1, h2, h3⟩ := s.kr.flag2 s.blk s.gk b
 exact ⟨s.next h1 h2 h3 (s.rows.on h3 s.lt), h3⟩
end
theorem mlt {t : M} {v : VS} {n : Nat} (h : n < 19) : n < (mcells t v).size := h
theorem pr_job : PartR 66 .J (fun _ => false) := fun w k rb g D t v q bad s hv => by
 refine Calls.mono (part_job (Q := fun w' => Blk w' g _ _ ∧ KRd w' k rb _ _ ∧ OnRd k rb g w w') s.blk.lt (numr_u64 s.kr s.blk (mlt (by decide)) s.gk s.gr)) fun e w' h => ⟨h.1, v, s.next h.2.1 ?_ h.2.2.2 ?_, h.2.2.2, fun p' _ => rfl⟩
 ·exact (by rw [Bool.or_false]; exact h.2.2.1)
 ·have r := s.rows.on h.2.2.2 s.lt
  exact ⟨r.ri, r.ra, r.rn, r.rh, r.rm, r.rc⟩
theorem pr_fuel : PartR 65 .F (fun _ => false) := fun w k rb g D t v q bad s hv => by
   refine Calls.mono (part_fuel (Q := fun w' => Blk w' g _ _ ∧ KRd w' k rb _ _ ∧ OnRd k rb g w w') s.blk.lt (numr_int s.kr s.blk (mlt (by decide)) s.gk s.gr (by decide))) fun e w' h => ⟨h.1, v, s.next h.2.1 ?_ h.2.2.2 ?_, h.2.2.2, fun p' _ => rfl⟩
   ·exact (by rw [Bool.or_false]; exact h.2.2.1)
   ·have r := s.rows.on h.2.2.2 s.lt
    exact ⟨r.ri, r.ra, r.rn, r.rh, r.rm, r.rc⟩
theorem pr_err : PartR 67 .X (fun _ => false) := fun w k rb g D t v q bad s hv => by
     refine Calls.mono (part_err (Q := fun w' => Blk w' g _ _ ∧ KRd w' k rb _ _ ∧ OnRd k rb g w w') s.blk.lt (numr_err s.kr s.blk (mlt (by decide)) s.gk s.gr (by decide))) fun e w' h => ⟨h.1, v, s.next h.2.1 ?_ h.2.2.2 ?_, h.2.2.2, fun p' _ => rfl⟩
     ·exact (by rw [Bool.or_false]; exact h.2.2.1)
     ·have r := s.rows.on h.2.2.2 s.lt
      exact ⟨r.ri, r.ra, r.rn, r.rh, r.rm, r.rc⟩
theorem pr_epoch : PartR 72 .E (fun _ => false) := fun w k rb g D t v q bad s hv => by
       refine Calls.mono (part_epoch (Q := fun w' => Blk w' g _ _ ∧ KRd w' k rb _ _ ∧ OnRd k rb g w w') s.blk.lt (numr_u64 s.kr s.blk (mlt (by decide)) s.gk s.gr)) fun e w' h => ⟨h.1, v, s.next h.2.1 ?_ h.2.2.2 ?_, h.2.2.2, fun p' _ => rfl⟩
       ·exact (by rw [Bool.or_false]; exact h.2.2.1)
       ·have r := s.rows.on h.2.2.2 s.lt
        exact ⟨r.ri, r.ra, r.rn, r.rh, r.rm, r.rc⟩
theorem pr_state : PartR 78 .S (fun _ => false) := fun w k rb g D t v q bad s hv => by
         refine Calls.mono (part_state (Q := fun w' => Blk w' g _ _ ∧ KRd w' k rb _ _ ∧ OnRd k rb g w w') s.blk.lt (numr_u8 s.kr s.blk (mlt (by decide)) s.gk s.gr (by decide))) fun e w' h => ⟨h.1, v, s.next h.2.1 ?_ h.2.2.2 ?_, h.2.2.2, fun p' _ => rfl⟩
         ·exact (by rw [Bool.or_false]; exact h.2.2.1)
         ·have r := s.rows.on h.2.2.2 s.lt
          exact ⟨r.ri, r.ra, r.rn, r.rh, r.rm, r.rc⟩
theorem pr_result : PartR 79 .R (rbad .R) := fun w k rb g D t v q bad s hv => by
           refine Calls.mono (part_result (Q := fun w' => Blk w' g _ _ ∧ KRd w' k rb _ _ ∧ OnRd k rb g w w') s.blk.lt (resr_any s.kr s.blk (mlt (by decide)) s.gk s.gr)) fun e w' h => ⟨h.1, v, s.next h.2.1 ?_ h.2.2.2 ?_, h.2.2.2, fun p' _ => rfl⟩
           ·exact (h.2.2.1)
           ·have r := s.rows.on h.2.2.2 s.lt
            exact ⟨r.ri, r.ra, r.rn, r.rh, r.rm, r.rc⟩
theorem pr_token : PartR 76 .T (fun _ => false) := fun w k rb g D t v q bad s hv => by
             refine Calls.mono (part_token (Q := fun w' => Blk w' g _ _ ∧ KRd w' k rb _ _ ∧ OnRd k rb g w w') s.blk.lt (textr_any s.kr s.blk (mlt (by decide)) s.gk s.gr (by unfold I64; decide))) fun e w' h => ⟨h.1, v, s.next h.2.1 ?_ h.2.2.2 ?_, h.2.2.2, fun p' _ => rfl⟩
             ·exact (by rw [Bool.or_false]; exact h.2.2.1)
             ·have r := s.rows.on h.2.2.2 s.lt
              exact ⟨r.ri, r.ra, r.rn, r.rh, r.rm, r.rc⟩
theorem pr_program : PartR 70 .P (fun _ => false) := fun w k rb g D t v q bad s hv => by
               refine Calls.mono (part_program (Q := fun w' => Blk w' g _ _ ∧ KRd w' k rb _ _ ∧ OnRd k rb g w w') s.blk.lt (textr_any s.kr s.blk (mlt (by decide)) s.gk s.gr (by unfold I64; decide))) fun e w' h => ⟨h.1, v, s.next h.2.1 ?_ h.2.2.2 ?_, h.2.2.2, fun p' _ => rfl⟩
               ·exact (by rw [Bool.or_false]; exact h.2.2.1)
               ·have r := s.rows.on h.2.2.2 s.lt
                exact ⟨r.ri, r.ra, r.rn, r.rh, r.rm, r.rc⟩
theorem RwD.slice {α : Type} {sz : Nat} {LAY : α → List Value} {w : World} {D : Nat} {v : Value} {l : List α} (h : RwD sz LAY w D v l) : ∃ p c, v = .slice p l.length c := by
 obtain ⟨p, c, h1, _⟩ := h
 exact ⟨p, c, h1⟩
theorem RdSt.sl {w : World} {k rb g D : Nat} {t : M} {v : VS} {q : RS} {bad : Bool} (h : RdSt w k rb g D t v q bad) : (∃ p c, w.cell? ⟨g, 11, none⟩ = some (.slice p t.ents.length c)) ∧ (∃ p c, w.cell? ⟨g, 12, none⟩ = some (.slice p t.epochs.length c)) ∧ (∃ p c, w.cell? ⟨g, 13, none⟩ = some (.slice p t.names.length c)) := by
 obtain ⟨p1, c1, e1⟩ := h.rows.rn.slice
 obtain ⟨p2, c2, e2⟩ := h.rows.rh.slice
 obtain ⟨p3, c3, e3⟩ := h.rows.rm.slice
 exact ⟨⟨p1, c1, by rw [h.blk.cell 11, ← e1]; rfl⟩, ⟨p2, c2, by rw [h.blk.cell 12, ← e2]; rfl⟩, ⟨p3, c3, by rw [h.blk.cell 13, ← e3]; rfl⟩⟩
theorem i16 : I64 16 := by unfold I64; decide
theorem i128 : I64 128 := by unfold I64; decide
theorem pr_input : PartR 77 .I (fun _ => false) := fun w k rb g D t v q bad s hv => by
 have ho : (mcells t v)[4]? = some (.slice none 0 0) := (show (mcells t v)[4]? = some v.i from rfl).trans (congrArg some hv)
 refine Calls.mono (part_input (Q := fun w' => ∃ v1, KRd w' k rb _ _ ∧ Blk w' g _ _ ∧ RwD 1 lI w' D v1 _ ∧ OnRd k rb g w w') s.blk.lt (lr_i64 s.kr s.blk ho s.gk s.gr i16 (by decide) s.size)) fun e w' h => ?_
 obtain ⟨h1, v1, h2, h3, h4, h5⟩ := h
 have r := s.rows.on h5 s.lt
 refine ⟨h1, ⟨v1, v.a, v.n, v.h, v.m, v.c⟩, s.next h3 ?_ h5 ⟨h4, r.ra, r.rn, r.rh, r.rm, r.rc⟩, h5, fun p' hp => ?_⟩
 ·rw [any_none] at h2; exact h2
 ·cases p' <;> first | rfl | exact absurd rfl hp
theorem pr_entries : PartR 68 .N (rbad .N) := fun w k rb g D t v q bad s hv => by
  have ho : (mcells t v)[11]? = some (.slice none 0 0) := (show (mcells t v)[11]? = some v.n from rfl).trans (congrArg some hv)
  refine Calls.mono (part_entries (Q := fun w' => ∃ v1, KRd w' k rb _ _ ∧ Blk w' g _ _ ∧ RwD 5 lE w' D v1 _ ∧ OnRd k rb g w w') s.blk.lt (lr_en s.kr s.blk ho s.gk s.gr i128 (by decide) s.size)) fun e w' h => ?_
  obtain ⟨h1, v1, h2, h3, h4, h5⟩ := h
  have r := s.rows.on h5 s.lt
  refine ⟨h1, ⟨v.i, v.a, v1, v.h, v.m, v.c⟩, s.next h3 ?_ h5 ⟨r.ri, r.ra, h4, r.rh, r.rm, r.rc⟩, h5, fun p' hp => ?_⟩
  ·exact h2
  ·cases p' <;> first | rfl | exact absurd rfl hp
theorem pr_names : PartR 73 .A (fun m => m.names.any fun n => !pathB n.path) := fun w k rb g D t v q bad s hv => by
   have ho : (mcells t v)[13]? = some (.slice none 0 0) := (show (mcells t v)[13]? = some v.m from rfl).trans (congrArg some hv)
   refine Calls.mono (part_names (Q := fun w' => ∃ v1, KRd w' k rb _ _ ∧ Blk w' g _ _ ∧ RwD 2 lN w' D v1 _ ∧ OnRd k rb g w w') s.blk.lt (lr_nm s.kr s.blk ho s.gk s.gr i128 (by decide) s.size)) fun e w' h => ?_
   obtain ⟨h1, v1, h2, h3, h4, h5⟩ := h
   have r := s.rows.on h5 s.lt
   refine ⟨h1, ⟨v.i, v.a, v.n, v.h, v1, v.c⟩, s.next h3 ?_ h5 ⟨r.ri, r.ra, r.rn, r.rh, h4, r.rc⟩, h5, fun p' hp => ?_⟩
   ·exact h2
   ·cases p' <;> first | rfl | exact absurd rfl hp
theorem pr_dropped : PartR 75 .A (fun m => (m.names.any fun n => !pathB n.path) || m.epochs.length != m.names.length) := fun w k rb g D t v q bad s hv => by
 have key := pr_names w k rb g D t v q bad s hv
 refine Calls.mono (part_dropped (n := (rp .A t q).1.epochs.length) (m := (rp .A t q).1.names.length) (b1 := bad || ((rp .A t q).1.names.any fun n => !pathB n.path)) (Q1 := fun w' => ∃ v', RdSt w' k rb g D (rp .A t q).1 v' (rp .A t q).2 (bad || ((rp .A t q).1.names.any fun n => !pathB n.path)) ∧ OnRd k rb g w w' ∧ ∀ p' : Pt, p' ≠ Pt.A → vp p' v' = vp p' v)
  (Q := fun w' => ∃ v', RdSt w' k rb g D (rp .A t q).1 v' (rp .A t q).2 ((bad || ((rp .A t q).1.names.any fun n => !pathB n.path)) || (rp .A t q).1.epochs.length != (rp .A t q).1.names.length) ∧ OnRd k rb g w w' ∧ ∀ p' : Pt, p' ≠ Pt.A → vp p' v' = vp p' v) key (fun w1 hq => ?_) (fun w1 w2 hq hb => ?_)) fun e w' h => ?_
 ·obtain ⟨v', s1, _, _⟩ := hq
  have h1 := s1.sl
  exact ⟨s1.kr.c2, s1.kr.fz 2, h1.2.1, h1.2.2⟩
 ·obtain ⟨v', s1, o1, hp⟩ := hq
  have c2 := (s1.below hb).flag ((bad || ((rp .A t q).1.names.any fun n => !pathB n.path)) || (rp .A t q).1.epochs.length != (rp .A t q).1.names.length)
  exact ⟨v', c2.1, (o1.trans (.of_below hb)).trans c2.2, hp⟩
 ·obtain ⟨h1, v', s1, o1, hp⟩ := h
  rw [Bool.or_assoc] at s1
  exact ⟨h1, v', s1, o1, hp⟩
theorem pr_codes : PartR 74 .C (fun _ => false) := fun w k rb g D t v q bad s hv => by
 have ho : (mcells t v)[14]? = some (.slice none 0 0) := (show (mcells t v)[14]? = some v.c from rfl).trans (congrArg some hv)
 refine Calls.mono (part_codes (Q := fun w' => ∃ v1, KRd w' k rb (rL 128 (rU 9999) q).2 (bad || ((rL 128 (rU 9999) q).1.any fun _ => false)) ∧ Blk w' g 34 ((mcells t v).setIfInBounds 14 v1) ∧ RwD 1 lI w' D v1 (rL 128 (rU 9999) q).1 ∧ OnRd k rb g w w') s.blk.lt fun w2 hb hx => ?_) fun e w' h => ?_
 ·have s2 := s.below hb
  have l1 := s.kr.lt
  have l2 := s.blk.lt
  exact Calls.mono (lr_err s2.kr s2.blk ho s.gk s.gr i128 (by decide) s2.size hx ⟨by omega, by omega, by omega⟩) fun e w' h => ⟨h.1, by obtain ⟨v1, h2, h3, h4, h5⟩ := h.2; exact ⟨v1, h2, h3, h4, OnRd.trans (.of_below hb) h5⟩⟩
 ·obtain ⟨h1, v1, h2, h3, h4, h5⟩ := h
  have r := s.rows.on h5 s.lt
  refine ⟨h1, ⟨v.i, v.a, v.n, v.h, v.m, v1⟩, s.next h3 ?_ h5 ⟨r.ri, r.ra, r.rn, r.rh, r.rm, h4⟩, h5, fun p' hp => ?_⟩
  ·rw [any_none] at h2; exact h2
  ·cases p' <;> first | rfl | exact absurd rfl hp
theorem pr_epochs : PartR 69 .H (rbad .H) := fun w k rb g D t v q bad s hv => by
 have ho : (mcells t v)[12]? = some (.slice none 0 0) := (show (mcells t v)[12]? = some v.h from rfl).trans (congrArg some hv)
 refine Calls.mono (part_epochs (kd := t.kind) (n := (rp .H t q).1.epochs.length) (m := t.ents.length) (b1 := bad)
  (Q1 := fun w' => ∃ v', RdSt w' k rb g D (rp .H t q).1 v' (rp .H t q).2 bad ∧ OnRd k rb g w w' ∧ (∀ p' : Pt, p' ≠ Pt.H → vp p' v' = vp p' v) ∧ Blk w' w.heap.size 55 #[.pointer (some ⟨k, 0, none⟩)])
  (Q := fun w' => ∃ v', RdSt w' k rb g D (rp .H t q).1 v' (rp .H t q).2 (bad || (t.kind == 4 && (rp .H t q).1.epochs.length != t.ents.length)) ∧ OnRd k rb g w w' ∧ ∀ p' : Pt, p' ≠ Pt.H → vp p' v' = vp p' v) s.blk.lt (fun w2 hb hx => ?_) (fun w1 hq => ?_) (fun w1 w2 hq hb => ?_)) fun e w' h => h
 ·have s2 := s.below hb
  have l1 := s.kr.lt
  have l2 := s.blk.lt
  refine Calls.mono (lr_u64 s2.kr s2.blk ho s.gk s.gr i128 (by decide) s2.size hx ⟨by omega, by omega, by omega⟩) fun e w' h => ?_
  obtain ⟨h1, v1, h2, h3, h4, h5⟩ := h
  have r := s2.rows.on h5 s.lt
  refine ⟨h1, ⟨v.i, v.a, v.n, v1, v.m, v.c⟩, s2.next h3 ?_ h5 ⟨r.ri, r.ra, r.rn, h4, r.rm, r.rc⟩, OnRd.trans (.of_below hb) h5, fun p' hp => ?_, hx.only h5 (fun e => by rcases e with e | e | e <;> omega)⟩
  ·rw [any_none, Bool.or_false] at h2; exact h2
  ·cases p' <;> first | rfl | exact absurd rfl hp
 ·obtain ⟨v', s1, _, _, hx⟩ := hq
  have h1 := s1.sl
  exact ⟨hx.cell 0, s1.kr.c2, s1.kr.fz 2, s1.blk.cell 0, h1.2.1, h1.1⟩
 ·obtain ⟨v', s1, o1, hp, _⟩ := hq
  have c2 := (s1.below hb).flag (bad || (t.kind == 4 && (rp .H t q).1.epochs.length != t.ents.length))
  exact ⟨v', c2.1, (o1.trans (.of_below hb)).trans c2.2, hp⟩
theorem pr_task : PartR 71 .K (rbad .K) := fun w k rb g D t v q bad s hv => by
 let t1 : M := { t with task := { t.task with path := tV 12 q } }
 let q1 := tS 12 q
 let t2 : M := { t1 with task := { t1.task with fn := uV 15 q1 } }
 let q2 := uS 15 q1
 let t3 : M := { t2 with task := { t2.task with args := (rL 16 rI q2).1 } }
 let q3 := (rL 16 rI q2).2
 refine Calls.mono (part_task
  (Q1 := fun w' => RdSt w' k rb g D t1 v q1 (bad || !pathB (tV 12 q)) ∧ OnRd k rb g w w')
  (Q2 := fun w' => RdSt w' k rb g D t2 v q2 (bad || !pathB (tV 12 q)) ∧ OnRd k rb g w w')
  (Q3 := fun w' => ∃ v1, RdSt w' k rb g D t3 ⟨v.i, v1, v.n, v.h, v.m, v.c⟩ q3 (bad || !pathB (tV 12 q)) ∧ OnRd k rb g w w')
  (Q := fun w' => ∃ v1, RdSt w' k rb g D (rp .K t q).1 ⟨v.i, v1, v.n, v.h, v.m, v.c⟩ (rp .K t q).2 (bad || !pathB (tV 12 q)) ∧ OnRd k rb g w w')
  ?_ (fun w1 h1 => ?_) (fun w1 h1 => ?_) (fun w1 h1 => ?_)) fun e w' h => ?_
 ·refine Calls.mono (pathr_any s.kr s.blk (mlt (by decide)) s.gk s.gr) fun e w' h => ⟨h.1, s.next h.2.1 h.2.2.1 h.2.2.2 ?_, h.2.2.2⟩
  have r := s.rows.on h.2.2.2 s.lt
  exact ⟨r.ri, r.ra, r.rn, r.rh, r.rm, r.rc⟩
 ·obtain ⟨s1, o1⟩ := h1
  refine Calls.mono (numr_int s1.kr s1.blk (mlt (by decide)) s.gk s.gr (by decide)) fun e w' h => ⟨h.1, s1.next h.2.1 h.2.2.1 h.2.2.2 ?_, o1.trans h.2.2.2⟩
  have r := s1.rows.on h.2.2.2 s.lt
  exact ⟨r.ri, r.ra, r.rn, r.rh, r.rm, r.rc⟩
 ·obtain ⟨s1, o1⟩ := h1
  have ho : (mcells t2 v)[8]? = some (.slice none 0 0) := (show (mcells t2 v)[8]? = some v.a from rfl).trans (congrArg some hv)
  refine Calls.mono (lr_i64 s1.kr s1.blk ho s.gk s.gr i16 (by decide) s1.size) fun e w' h => ?_
  obtain ⟨h1, v1, h2, h3, h4, h5⟩ := h
  have r := s1.rows.on h5 s.lt
  refine ⟨h1, v1, s1.next h3 ?_ h5 ⟨r.ri, h4, r.rn, r.rh, r.rm, r.rc⟩, o1.trans h5⟩
  rw [any_none, Bool.or_false] at h2; exact h2
 ·obtain ⟨v1, s1, o1⟩ := h1
  refine Calls.mono (numr_int s1.kr s1.blk (mlt (by decide)) s.gk s.gr (by decide)) fun e w' h => ⟨h.1, v1, s1.next h.2.1 h.2.2.1 h.2.2.2 ?_, o1.trans h.2.2.2⟩
  have r := s1.rows.on h.2.2.2 s.lt
  exact ⟨r.ri, r.ra, r.rn, r.rh, r.rm, r.rc⟩
 ·obtain ⟨h1, v1, s1, o1⟩ := h
  exact ⟨h1, _, s1, o1, fun p' hp => by cases p' <;> first | rfl | exact absurd rfl hp⟩
end Go.Proofs.YtghbjknpffiaiaaGreat

namespace Go.Proofs.YtghbjknpffiaiaaGreat
open Go.RowKit Go.Maps
set_option linter.unusedVariables false
namespace Ml
abbrev DV := DataW Unit
variable {α : Type}
structure Lay (α : Type) where
 key : α → Lit
 val : α → Value
 dat : α → DV
 rd : Value → Option (DV × List MemPlace)
 rdm : ∀ a, rd (val a) = some (dat a, [])
 inv : ∀ v a ps, rd v = some (dat a, ps) → v = val a
 lit : ∀ a, WideAt.IsKeyLit (key a)
variable (l : Lay α)
def At (P : Program) (K : TypeId) (w : World) (h : Nat) (L : List α) (N : Nat) : Prop :=
 ∃ D : DV, w.ownsMap P K l.rd h N D ∧ (∀ a ∈ L, ∀ zd, D.atKey (l.key a) zd = l.dat a) ∧ (∀ k, Maps.has D k = true ↔ ∃ a ∈ L, l.key a = k) ∧ Maps.size D = L.length
variable {l}
section
variable {P : Program} {K : TypeId} {w w' : World} {h N : Nat} {L : List α}
theorem At.lt (m : At l P K w h L N) : h < w.heap.size := by obtain ⟨D, o, r⟩ := m; exact o.lt
theorem At.only {S : Nat → Prop} (m : At l P K w h L N) (ho : Only S w w') (hs : ¬ S h) : At l P K w' h L N := by
 have hl := m.lt
 obtain ⟨D, ⟨es, clock, hb, F, hs', hD⟩, r⟩ := m
 exact ⟨D, ⟨es, clock, (ho.block h hl hs).trans hb, F, hs', hD⟩, r⟩
theorem At.below (m : At l P K w h L N) (hb : Below w.heap.size w w') : At l P K w' h L N := m.only (Only.of_below (S := fun _ => False) hb) id
theorem At.no_cells (m : At l P K w h L N) {T : TypeId} {A : Array Value} (hk : Blk w h T A) : False := by
 obtain ⟨D, ⟨es, clock, hb, _⟩, _⟩ := m
 unfold Blk at hk
 rw [hk] at hb; cases hb
theorem At.look (m : At l P K w h L N) (kd : Keyed P K) {T V : TypeId} (ht : P.underlying T = some (.map K V)) {z : α} (hz : (zeroValue V).run P w = .ok (l.val z) w) {a : α} (ha : a ∈ L) {k : Value} (hk : keyOf P K k = some (l.key a)) :
  (Instr.lookup T (.map (some h)) k true).run P w = .ok (.tuple #[l.val a, .bool true]) w := by
 obtain ⟨D, o, h1, h2, h3⟩ := m
 obtain ⟨v, ps, hr, hv⟩ := World.ownsMap.look_ok o kd ht hz (l.rdm z) hk
 rw [h1 a ha] at hv
 rw [hr, l.inv _ _ _ hv, (h2 (l.key a)).2 ⟨a, ha, rfl⟩]
theorem At.miss (m : At l P K w h L N) (kd : Keyed P K) {T V : TypeId} (ht : P.underlying T = some (.map K V)) {z : α} (hz : (zeroValue V).run P w = .ok (l.val z) w) {kl : Lit} (ha : ¬ ∃ a ∈ L, l.key a = kl) {k : Value} (hk : keyOf P K k = some kl) :
  (Instr.lookup T (.map (some h)) k true).run P w = .ok (.tuple #[l.val z, .bool false]) w := by
 obtain ⟨D, o, h1, h2, h3⟩ := m
 obtain ⟨v, ps, hr, hv⟩ := World.ownsMap.look_ok o kd ht hz (l.rdm z) hk
 have hf : Maps.has D kl = false := by
  cases hh : Maps.has D kl with
  | false => rfl
  | true => exact absurd ((h2 kl).1 hh) ha
 rw [atKey_of_not_has hf] at hv
 rw [hr, l.inv _ _ _ hv, hf]
theorem put_ok {D : DV} (hD : IsMap D) (hT : Tidy D) (h1 : ∀ a ∈ L, ∀ zd, D.atKey (l.key a) zd = l.dat a) (h2 : ∀ k, Maps.has D k = true ↔ ∃ a ∈ L, l.key a = k) (h3 : Maps.size D = L.length) (g : α) (hn : ¬ ∃ a ∈ L, l.key a = l.key g) :
  (∀ a ∈ L ++ [g], ∀ zd, (D.put (l.key g) (l.dat g)).atKey (l.key a) zd = l.dat a) ∧ (∀ k, Maps.has (D.put (l.key g) (l.dat g)) k = true ↔ ∃ a ∈ L ++ [g], l.key a = k) ∧ Maps.size (D.put (l.key g) (l.dat g)) = (L ++ [g]).length := by
 have hk := l.lit g
 have hf : Maps.has D (l.key g) = false := by
  cases hh : Maps.has D (l.key g) with
  | false => rfl
  | true => exact absurd ((h2 _).1 hh) hn
 refine ⟨fun a ha zd => ?_, fun x => ?_, ?_⟩
 ·rcases List.mem_append.1 ha with ha | ha
  ·rw [atKey_put_other (fun e => hn ⟨a, ha, e⟩), h1 a ha]
  ·simp at ha; subst ha; exact atKey_put_same hD hk _ _
 ·by_cases hx : x = l.key g
  ·subst hx
   rw [has_put_same hD hk]
   exact ⟨fun _ => ⟨g, by simp, rfl⟩, fun _ => rfl⟩
  ·rw [has_put_other hx, h2 x]
   constructor
   ·rintro ⟨a, ha, e⟩; exact ⟨a, by simp [ha], e⟩
   ·rintro ⟨a, ha, e⟩
    rcases List.mem_append.1 ha with ha | ha
    ·exact ⟨a, ha, e⟩
    ·simp at ha; subst ha; exact absurd e.symm hx
 ·rw [size_put hT, hf]; simp [h3]
theorem At.of_put {D : DV} (kd : Keyed P K) (o : w.ownsMap P K l.rd h N D) (h1 : ∀ a ∈ L, ∀ zd, D.atKey (l.key a) zd = l.dat a) (h2 : ∀ k, Maps.has D k = true ↔ ∃ a ∈ L, l.key a = k) (h3 : Maps.size D = L.length) {g : α} (hn : ¬ ∃ a ∈ L, l.key a = l.key g)
  {M : Nat} (o' : w'.ownsMap P K l.rd h M (D.put (l.key g) (l.dat g))) : At l P K w' h (L ++ [g]) M := by
 obtain ⟨p1, p2, p3⟩ := put_ok o.isMap (o.tidy kd) h1 h2 h3 g hn
 exact ⟨_, o', p1, p2, p3⟩
theorem At.made (w : World) (P : Program) (K : TypeId) (l : Lay α) : At l P K (w.alloc (.map #[] 0)) w.heap.size [] 0 :=
 ⟨_, World.ownsMap_made (H := Unit) w P K l.rd, (fun a ha => by simp at ha), (fun k => by simp [Maps.has]), rfl⟩
end
end Ml
end Go.Proofs.YtghbjknpffiaiaaGreat
