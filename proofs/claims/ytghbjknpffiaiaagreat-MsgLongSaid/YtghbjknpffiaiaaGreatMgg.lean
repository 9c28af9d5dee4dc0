import Derived.Test.YtghbjknpffiaiaaGreatMgf
import Derived.Test.YtghbjknpffiaiaaGreatMge
import Derived.BigRegion
namespace Go.Proofs.YtghbjknpffiaiaaGreat
open Go.RowKit Wire Ms
set_option linter.unusedVariables false
set_option linter.unusedSimpArgs false
def RdP (w : World) (k rb g : Nat) (T : TypeId) (A : Array Value) (q : RS) (bad : Bool) (e : Ending) (w' : World) : Prop := e = .returned (.tuple #[]) ∧ Blk w' g T A ∧ KRd w' k rb q bad ∧ Only (fun j => j = k ∨ j = rb ∨ j = g) w w'
section
variable {w : World} {B k g o : Nat} {out : Ls} {bad : Bool} {L : Nat}
set_option maxRecDepth 100000 in
set_option maxHeartbeats 2000000 in
theorem wholew_any {x : Int} (c : KWb w B k out bad L) (hB : B ≤ w.heap.size) (hL : L ≤ 1000000000) (hx : w.cell? ⟨g, o, none⟩ = some (.int .i64 x)) (hg : Away w B k g) (hr : I64 x) :
  Calls Tryz.prog 96 #[.pointer (some ⟨k, 0, none⟩), .pointer (some ⟨g, o, none⟩)] w (WrP w B k (out ++ wI x) bad (L + 10)) := by
 obtain ⟨out', c, ho, hl⟩ := c
 obtain ⟨vO, h1, h2, h3⟩ := c
 obtain ⟨pO, cO, rfl⟩ := owns_slice h2
 have c0 : w.cell? ⟨k, 0, none⟩ = some (.pointer none) := by rw [h1.cell 0]; rfl
 have c1 : w.cell? ⟨k, 1, none⟩ = some (.slice pO out'.length cO) := by rw [h1.cell 1]; rfl
 have c2 : w.cell? ⟨k, 2, none⟩ = some (.bool bad) := by rw [h1.cell 2]; rfl
 have cf := h1.frozen
 have HBK := Lib.hid h1
 have HRW := Lib.hid h2
 have HGE := Lib.hid h3
 have HG := Lib.hid hg
 have HO := Lib.hid (And.intro ho hl)
 have HL := Lib.hid hL
 have HB := Lib.hid hB
 have hsz : (intS x).size ≤ 10 := lebS_size (U64_zig hr).2
 have HLEN : Hid (out'.length + (intS x).size ≤ 140737488355328) := Lib.hid (by have := HO.out.2; have := HL.out; omega)
 have HFB : Hid (∀ {W : World}, KWr W B k (out' ++ Ms.bl (intS x)) bad → KWb W B k (out ++ wI x) bad (L + 10)) := Lib.hid fun h => KWr.kwb h HO.out.1 HO.out.2 (fun e => ⟨e, Ms.bl_intS x⟩) (by rw [Ms.bl_len]; exact hsz)
 have HW : Hid (∀ (w : World) gl, Blk w gl 2 #[.int .i64 x] → Calls Tryz.prog 114 #[.slice (some ⟨gl, 0, none⟩) 1 1] w (StPost (intS x) w)) := Lib.hid fun w gl h => intsB hr h
 clear h1 h2 h3 hg ho hl hL hB hr hsz
 go_enter Tryz.func96, Tryz.ntmps96
 go_upto_region 2 with fail
 obtain ⟨V, hV⟩ : ∃ V, V = w := ⟨_, rfl⟩
 subst hV
 have HBV := HBK
 have HRV := HRW
 have HOV : Hid (OnW B k V V) := Lib.hid (OnW.refl _ _ _)
 have y1 := hx
 have HAV := HG
 have HBS := HB
 clear c0 c1 c2 cf hx
 have HI0 : Hid (PutI V B k g o (.slice pO out'.length cO) bad (.int .i64 x) V) := Lib.hid ⟨HBV.out, y1, OnW.refl _ _ _, HAV.out⟩
 have HROW : Hid (V.drew.ownsRow B 5 1 (.slice pO out'.length cO) out'.length (Lib.byteCells out') ∧ B ≤ V.drew.heap.size) := Lib.hid ⟨HRV.out, HBS.out⟩
 have HLT : Hid (∀ j, (Value.slice pO out'.length cO).ownBlock = some j → j < V.heap.size) := Lib.hid fun j hj => (owns_type HRV.out hj).choose_spec.2.2
 clear y1
 refine Reg.wp_rely 13 (PutI V B k g o (.slice pO out'.length cO) bad (.int .i64 x)) (by kernel_rfl) (Reg.relyOk_of (by kernel_rfl)) HI0.out.drew (fun w w' h hI => hI.below h) ?_
 refine Reg.rely_plain (.pointer (some ⟨k, 0, none⟩)) rfl (fun a w hI hF => by
   have f1 : a.tmps.getD 0 undef = .pointer (some ⟨k, 0, none⟩) := hF 0 (Reg.looksB (by kernel_rfl))
   clear hF hI
   simp only [Array.getD_eq_getD_getElem?] at f1
   simp only [execOp]; go_simp) ?_
 refine Reg.rely_plain (.pointer (some ⟨k, 0, none⟩)) rfl (fun a w hI hF => by
   have f1 : a.tmps.getD 0 undef = .pointer (some ⟨k, 0, none⟩) := hF 0 (Reg.looksB (by kernel_rfl))
   clear hF hI
   simp only [Array.getD_eq_getD_getElem?] at f1
   simp only [execOp]; go_simp) ?_
 refine Reg.rely_plain (.pointer (some ⟨k, 0, none⟩)) rfl (fun a w hI hF => by
   have f1 : a.tmps.getD 17 undef = .pointer (some ⟨k, 0, none⟩) := hF 17 (Reg.looksB (by kernel_rfl))
   clear hF hI
   simp only [Array.getD_eq_getD_getElem?] at f1
   simp only [execOp]; go_simp) ?_
 refine Reg.rely_plain (.pointer (some ⟨k, 1, none⟩)) rfl (fun a w hI hF => by
   have f1 : a.tmps.getD 18 undef = .pointer (some ⟨k, 0, none⟩) := hF 18 (Reg.looksB (by kernel_rfl))
   clear hF hI
   simp only [Array.getD_eq_getD_getElem?] at f1
   simp only [execOp]; go_simp) ?_
 refine Reg.rely_plain (.slice pO out'.length cO) rfl (fun a w hI hF => by
   have f1 : a.tmps.getD 19 undef = .pointer (some ⟨k, 1, none⟩) := hF 19 (Reg.looksB (by kernel_rfl))
   have hc : w.cell? ⟨k, 1, none⟩ = some (.slice pO out'.length cO) := by rw [hI.kb.cell 1]; rfl
   clear hF hI
   simp only [Array.getD_eq_getD_getElem?] at f1
   simp only [execOp]; go_simp) ?_
 refine Reg.rely_plain (.pointer (some ⟨g, o, none⟩)) rfl (fun a w hI hF => by
   have f1 : a.tmps.getD 1 undef = .pointer (some ⟨g, o, none⟩) := hF 1 (Reg.looksB (by kernel_rfl))
   clear hF hI
   simp only [Array.getD_eq_getD_getElem?] at f1
   simp only [execOp]; go_simp) ?_
 refine Reg.rely_plain (.pointer (some ⟨g, o, none⟩)) rfl (fun a w hI hF => by
   have f1 : a.tmps.getD 21 undef = .pointer (some ⟨g, o, none⟩) := hF 21 (Reg.looksB (by kernel_rfl))
   clear hF hI
   simp only [Array.getD_eq_getD_getElem?] at f1
   simp only [execOp]; go_simp) ?_
 refine Reg.rely_plain (.int .i64 x) rfl (fun a w hI hF => by
   have f1 : a.tmps.getD 22 undef = .pointer (some ⟨g, o, none⟩) := hF 22 (Reg.looksB (by kernel_rfl))
   have hc := hI.cell
   clear hF hI
   simp only [Array.getD_eq_getD_getElem?] at f1
   simp only [execOp]; go_simp) ?_
 refine Reg.rely_rel (fun v w => ∃ gl, v = .slice (some ⟨gl, 0, none⟩) 1 1 ∧ V.heap.size ≤ gl ∧ Blk w gl 2 #[.int .i64 x]) (fun v w w' h hS => by obtain ⟨gl, h1, h2, h3⟩ := hS; exact ⟨gl, h1, h2, h3.below h⟩) (fun G hG => by cases hG) rfl (fun a w hI hF => by
  have f1 : a.tmps.getD 23 undef = .int .i64 x := hF 23 (Reg.looksB (by kernel_rfl))
  have hK := Lib.hid (Blk.new w 2 #[.int .i64 x])
  have hQ := Lib.hid hI.on.size
  have hW := Lib.hid (show Reg.Grow w (w.alloc (.cells #[.int .i64 x] 2)) from (Below.refl _ w).alloc (Nat.le_refl _) _)
  clear hF hI
  simp only [Array.getD_eq_getD_getElem?] at f1
  unfold Oper.wp
  simp only [execOp]
  go_simp
  exact ⟨_, rfl, ⟨_, rfl, hQ.out, hK.out⟩, hW.out⟩) ?_
 refine Reg.rely_call0 (Reg.Is (.string (intS x))) (Reg.stab_is _ _) (fun G hG => by cases hG) rfl (fun a w hI hF => by
  obtain ⟨gl, f1, hg1, hgl⟩ : ∃ gl, a.tmps.getD 24 undef = .slice (some ⟨gl, 0, none⟩) 1 1 ∧ V.heap.size ≤ gl ∧ Blk w gl 2 #[.int .i64 x] := hF 24 (Reg.looksB (by kernel_rfl))
  refine ⟨114, #[.slice (some ⟨gl, 0, none⟩) 1 1], ?_, (HW.out w gl hgl).mono fun e w' h => ⟨_, h.1, rfl, h.2⟩⟩
  clear hF hI hgl hg1
  simp only [Array.getD_eq_getD_getElem?] at f1
  simp only [execOp]; go_simp) ?_
 refine Reg.rely_turn (fun v w => w.ownsRow B 5 1 v (out' ++ Ms.bl (intS x)).length (Lib.byteCells (out' ++ Ms.bl (intS x)))) (PutG V.heap.size B (.slice pO out'.length cO)) (fun w => w.ownsRow B 5 1 (.slice pO out'.length cO) out'.length (Lib.byteCells out') ∧ B ≤ w.heap.size) (fun v w w' h hS => owns_below hS h) (fun G hG => by cases hG) (fun w w' h hI => hI.turn h) ?_ rfl (fun w w' h hJ => ⟨owns_below hJ.1 h, Nat.le_trans hJ.2 h.size⟩) ⟨HROW.out.1, HROW.out.2⟩ (fun G hG => by cases hG) (fun G hG => by cases hG) (fun a w hI hJ hF => ?_) ?_
 ·intro p hp
  repeat (rcases List.mem_cons.1 hp with rfl | hp; first | exact Reg.stab_is _ _ | exact fun v w w' h hS => by obtain ⟨gl, h1, h2, h3⟩ := hS; exact ⟨gl, h1, h2, h.keep h2 h3⟩)
  cases hp
 ·have f1 : a.tmps.getD 20 undef = .slice pO out'.length cO := hF 20 (Reg.looksB (by kernel_rfl))
  have f2 : a.tmps.getD 25 undef = .string (intS x) := hF 25 (Reg.looksB (by kernel_rfl))
  exact putRun (t := 48) (u := 9) (sl := .tmp 20) (x := .tmp 25) rfl Tryz.underlying48 Tryz.underlying9 info_u8 rfl f1 f2 hJ.1 HLEN.out hJ.2 HLT.out
 refine Reg.rely_is (.pointer (some ⟨k, 0, none⟩)) (fun a w hI hF => Reg.det_plain rfl ?_) ?_
 ·have f1 : a.tmps.getD 16 undef = .pointer (some ⟨k, 0, none⟩) := hF 16 (Reg.looksB (by kernel_rfl))
  clear hF hI
  simp only [Array.getD_eq_getD_getElem?] at f1
  simp only [execOp]; go_simp
 refine Reg.rely_is (.pointer (some ⟨k, 1, none⟩)) (fun a w hI hF => Reg.det_plain rfl ?_) ?_
 ·have f1 : a.tmps.getD 27 undef = .pointer (some ⟨k, 0, none⟩) := hF 27 (Reg.looksB (by kernel_rfl))
  clear hF hI
  simp only [Array.getD_eq_getD_getElem?] at f1
  simp only [execOp]; go_simp
 refine Reg.rely_nil ?_
 refine Reg.final_is ?_
 refine Reg.final_is ?_
 refine Reg.final_rel (fun v10 => ?_)
 refine Reg.final_is ?_
 refine Reg.final_rel (fun v8 => ?_)
 refine Reg.final_is ?_
 refine Reg.final_is ?_
 refine Reg.final_is ?_
 refine Reg.final_is ?_
 refine Reg.final_is ?_
 refine Reg.final_is ?_
 refine Reg.final_is ?_
 refine Reg.final_is ?_
 refine Reg.final_nil (fun w9 hF => ?_)
 have HI9 := Lib.hid hF.1.1
 have HS9 := Lib.hid hF.1.2
 clear hF
 simp only [List.drop_succ_cons, List.drop_zero]
 go_simp
 have d1 : w9.cell? ⟨k, 1, none⟩ = some (.slice pO out'.length cO) := by rw [HI9.out.kb.cell 1]; rfl
 have f1 := HI9.out.kb.frozen 1
 obtain ⟨p9, c9, rfl⟩ := owns_slice HS9.out
 go_wp2_with fail
 refine Reg.fin (by kernel_rfl) ?_
 go_wp2_with fail
 go_end0
 have hkw := KWr.put2 HI9.out.kb HGE.out HS9.out
 simp only [List.length_append] at hkw
 exact ⟨rfl, HFB.out hkw.1, HOV.out.trans (HI9.out.on.trans hkw.2)⟩
set_option maxRecDepth 100000 in
set_option maxHeartbeats 2000000 in
theorem textw_any {s : ByteArray} {most : Int} (c : KWb w B k out bad L) (hB : B ≤ w.heap.size) (hL : L ≤ 1000000000) (hx : w.cell? ⟨g, o, none⟩ = some (.string s)) (hg : Away w B k g) (hr : s.size ≤ 1073741824) :
  Calls Tryz.prog 93 #[.pointer (some ⟨k, 0, none⟩), .pointer (some ⟨g, o, none⟩), .int .i64 most] w (WrP w B k (out ++ wT s) (bad || decide (most < (s.size : Int))) (L + (s.size + 10))) := by
 obtain ⟨out', c, ho, hl⟩ := c
 obtain ⟨vO, h1, h2, h3⟩ := c
 obtain ⟨pO, cO, rfl⟩ := owns_slice h2
 have c0 : w.cell? ⟨k, 0, none⟩ = some (.pointer none) := by rw [h1.cell 0]; rfl
 have c1 : w.cell? ⟨k, 1, none⟩ = some (.slice pO out'.length cO) := by rw [h1.cell 1]; rfl
 have c2 : w.cell? ⟨k, 2, none⟩ = some (.bool bad) := by rw [h1.cell 2]; rfl
 have cf := h1.frozen
 have HBK := Lib.hid h1
 have HRW := Lib.hid h2
 have HGE := Lib.hid h3
 have HG := Lib.hid hg
 have HO := Lib.hid (And.intro ho hl)
 have HL := Lib.hid hL
 have HB := Lib.hid hB
 have hsz : (textS s).size ≤ s.size + 10 := by unfold textS; rw [ByteArray.size_append]; have := lebS_size (x := (s.size : Int)) (by omega); omega
 have HLEN : Hid (out'.length + (textS s).size ≤ 140737488355328) := Lib.hid (by have := HO.out.2; have := HL.out; omega)
 obtain ⟨bb, hbb⟩ : ∃ bb, (bad || decide (most < (s.size : Int))) = bb := ⟨_, rfl⟩
 rw [hbb]
 have HBB := Lib.hid hbb
 have HFB : Hid (∀ {W : World}, KWr W B k (out' ++ Ms.bl (textS s)) bb → KWb W B k (out ++ wT s) bb (L + (s.size + 10))) := Lib.hid fun h => KWr.kwb h HO.out.1 HO.out.2 (fun e => by
  have h := HBB.out
  rw [e, Bool.or_eq_false_iff] at h
  exact ⟨h.1, Ms.bl_textS s⟩) (by rw [Ms.bl_len]; exact hsz)
 have HW : Hid (∀ (w : World) gl, Blk w gl 9 #[.string s] → Calls Tryz.prog 111 #[.slice (some ⟨gl, 0, none⟩) 1 1] w (StPost (textS s) w)) := Lib.hid fun w gl h => textsB hr h
 clear h1 h2 h3 hg ho hl hL hB hr hsz
 cases bad with
 | true =>
  have hbt : bb = true := by rw [← hbb]; rfl
  clear hbb
  subst hbt
  go_enter Tryz.func93, Tryz.ntmps93
  go_upto_region 3 with fail
  have OV : Only (· = k) w (w.setCell ⟨k, 2, none⟩ (.bool true)) := (Only.refl _ w).set1
  have HBV : Hid (Blk (w.setCell ⟨k, 2, none⟩ (.bool true)) k 58 #[.pointer none, .slice pO out'.length cO, .bool true]) := Lib.hid (HBK.out.set 2 (.bool true))
  have HRV := Lib.hid (owns_only HRW.out OV (owns_ne HRW.out HBK.out (by decide)))
  have HOV : Hid (OnW B k w (w.setCell ⟨k, 2, none⟩ (.bool true))) := Lib.hid (OV.mono fun j _ e => .inl e)
  have y1 := HOV.out.cell HG.out hx
  have HAV := Lib.hid (HG.out.onW HOV.out (World.block_lt_of_cell? _ _ hx))
  have HBS : Hid (B ≤ ((w.setCell ⟨k, 2, none⟩ (.bool true))).heap.size) := Lib.hid (Nat.le_trans HB.out OV.size)
  clear OV c0 c1 c2 cf hx
  generalize (w.setCell ⟨k, 2, none⟩ (.bool true)) = V at *
  have HI0 : Hid (PutI V B k g o (.slice pO out'.length cO) true (.string s) V) := Lib.hid ⟨HBV.out, y1, OnW.refl _ _ _, HAV.out⟩
  have HROW : Hid (V.drew.ownsRow B 5 1 (.slice pO out'.length cO) out'.length (Lib.byteCells out') ∧ B ≤ V.drew.heap.size) := Lib.hid ⟨HRV.out, HBS.out⟩
  have HLT : Hid (∀ j, (Value.slice pO out'.length cO).ownBlock = some j → j < V.heap.size) := Lib.hid fun j hj => (owns_type HRV.out hj).choose_spec.2.2
  clear y1
  refine Reg.wp_rely 13 (PutI V B k g o (.slice pO out'.length cO) true (.string s)) (by kernel_rfl) (Reg.relyOk_of (by kernel_rfl)) HI0.out.drew (fun w w' h hI => hI.below h) ?_
  refine Reg.rely_plain (.pointer (some ⟨k, 0, none⟩)) rfl (fun a w hI hF => by
    have f1 : a.tmps.getD 0 undef = .pointer (some ⟨k, 0, none⟩) := hF 0 (Reg.looksB (by kernel_rfl))
    clear hF hI
    simp only [Array.getD_eq_getD_getElem?] at f1
    simp only [execOp]; go_simp) ?_
  refine Reg.rely_plain (.pointer (some ⟨k, 0, none⟩)) rfl (fun a w hI hF => by
    have f1 : a.tmps.getD 0 undef = .pointer (some ⟨k, 0, none⟩) := hF 0 (Reg.looksB (by kernel_rfl))
    clear hF hI
    simp only [Array.getD_eq_getD_getElem?] at f1
    simp only [execOp]; go_simp) ?_
  refine Reg.rely_plain (.pointer (some ⟨k, 0, none⟩)) rfl (fun a w hI hF => by
    have f1 : a.tmps.getD 35 undef = .pointer (some ⟨k, 0, none⟩) := hF 35 (Reg.looksB (by kernel_rfl))
    clear hF hI
    simp only [Array.getD_eq_getD_getElem?] at f1
    simp only [execOp]; go_simp) ?_
  refine Reg.rely_plain (.pointer (some ⟨k, 1, none⟩)) rfl (fun a w hI hF => by
    have f1 : a.tmps.getD 36 undef = .pointer (some ⟨k, 0, none⟩) := hF 36 (Reg.looksB (by kernel_rfl))
    clear hF hI
    simp only [Array.getD_eq_getD_getElem?] at f1
    simp only [execOp]; go_simp) ?_
  refine Reg.rely_plain (.slice pO out'.length cO) rfl (fun a w hI hF => by
    have f1 : a.tmps.getD 37 undef = .pointer (some ⟨k, 1, none⟩) := hF 37 (Reg.looksB (by kernel_rfl))
    have hc : w.cell? ⟨k, 1, none⟩ = some (.slice pO out'.length cO) := by rw [hI.kb.cell 1]; rfl
    clear hF hI
    simp only [Array.getD_eq_getD_getElem?] at f1
    simp only [execOp]; go_simp) ?_
  refine Reg.rely_plain (.pointer (some ⟨g, o, none⟩)) rfl (fun a w hI hF => by
    have f1 : a.tmps.getD 1 undef = .pointer (some ⟨g, o, none⟩) := hF 1 (Reg.looksB (by kernel_rfl))
    clear hF hI
    simp only [Array.getD_eq_getD_getElem?] at f1
    simp only [execOp]; go_simp) ?_
  refine Reg.rely_plain (.pointer (some ⟨g, o, none⟩)) rfl (fun a w hI hF => by
    have f1 : a.tmps.getD 39 undef = .pointer (some ⟨g, o, none⟩) := hF 39 (Reg.looksB (by kernel_rfl))
    clear hF hI
    simp only [Array.getD_eq_getD_getElem?] at f1
    simp only [execOp]; go_simp) ?_
  refine Reg.rely_plain (.string s) rfl (fun a w hI hF => by
    have f1 : a.tmps.getD 40 undef = .pointer (some ⟨g, o, none⟩) := hF 40 (Reg.looksB (by kernel_rfl))
    have hc := hI.cell
    clear hF hI
    simp only [Array.getD_eq_getD_getElem?] at f1
    simp only [execOp]; go_simp) ?_
  refine Reg.rely_rel (fun v w => ∃ gl, v = .slice (some ⟨gl, 0, none⟩) 1 1 ∧ V.heap.size ≤ gl ∧ Blk w gl 9 #[.string s]) (fun v w w' h hS => by obtain ⟨gl, h1, h2, h3⟩ := hS; exact ⟨gl, h1, h2, h3.below h⟩) (fun G hG => by cases hG) rfl (fun a w hI hF => by
   have f1 : a.tmps.getD 41 undef = .string s := hF 41 (Reg.looksB (by kernel_rfl))
   have hK := Lib.hid (Blk.new w 9 #[.string s])
   have hQ := Lib.hid hI.on.size
   have hW := Lib.hid (show Reg.Grow w (w.alloc (.cells #[.string s] 9)) from (Below.refl _ w).alloc (Nat.le_refl _) _)
   clear hF hI
   simp only [Array.getD_eq_getD_getElem?] at f1
   unfold Oper.wp
   simp only [execOp]
   go_simp
   exact ⟨_, rfl, ⟨_, rfl, hQ.out, hK.out⟩, hW.out⟩) ?_
  refine Reg.rely_call0 (Reg.Is (.string (textS s))) (Reg.stab_is _ _) (fun G hG => by cases hG) rfl (fun a w hI hF => by
   obtain ⟨gl, f1, hg1, hgl⟩ : ∃ gl, a.tmps.getD 42 undef = .slice (some ⟨gl, 0, none⟩) 1 1 ∧ V.heap.size ≤ gl ∧ Blk w gl 9 #[.string s] := hF 42 (Reg.looksB (by kernel_rfl))
   refine ⟨111, #[.slice (some ⟨gl, 0, none⟩) 1 1], ?_, (HW.out w gl hgl).mono fun e w' h => ⟨_, h.1, rfl, h.2⟩⟩
   clear hF hI hgl hg1
   simp only [Array.getD_eq_getD_getElem?] at f1
   simp only [execOp]; go_simp) ?_
  refine Reg.rely_turn (fun v w => w.ownsRow B 5 1 v (out' ++ Ms.bl (textS s)).length (Lib.byteCells (out' ++ Ms.bl (textS s)))) (PutG V.heap.size B (.slice pO out'.length cO)) (fun w => w.ownsRow B 5 1 (.slice pO out'.length cO) out'.length (Lib.byteCells out') ∧ B ≤ w.heap.size) (fun v w w' h hS => owns_below hS h) (fun G hG => by cases hG) (fun w w' h hI => hI.turn h) ?_ rfl (fun w w' h hJ => ⟨owns_below hJ.1 h, Nat.le_trans hJ.2 h.size⟩) ⟨HROW.out.1, HROW.out.2⟩ (fun G hG => by cases hG) (fun G hG => by cases hG) (fun a w hI hJ hF => ?_) ?_
  ·intro p hp
   repeat (rcases List.mem_cons.1 hp with rfl | hp; first | exact Reg.stab_is _ _ | exact fun v w w' h hS => by obtain ⟨gl, h1, h2, h3⟩ := hS; exact ⟨gl, h1, h2, h.keep h2 h3⟩)
   cases hp
  ·have f1 : a.tmps.getD 38 undef = .slice pO out'.length cO := hF 38 (Reg.looksB (by kernel_rfl))
   have f2 : a.tmps.getD 43 undef = .string (textS s) := hF 43 (Reg.looksB (by kernel_rfl))
   exact putRun (t := 48) (u := 9) (sl := .tmp 38) (x := .tmp 43) rfl Tryz.underlying48 Tryz.underlying9 info_u8 rfl f1 f2 hJ.1 HLEN.out hJ.2 HLT.out
  refine Reg.rely_is (.pointer (some ⟨k, 0, none⟩)) (fun a w hI hF => Reg.det_plain rfl ?_) ?_
  ·have f1 : a.tmps.getD 34 undef = .pointer (some ⟨k, 0, none⟩) := hF 34 (Reg.looksB (by kernel_rfl))
   clear hF hI
   simp only [Array.getD_eq_getD_getElem?] at f1
   simp only [execOp]; go_simp
  refine Reg.rely_is (.pointer (some ⟨k, 1, none⟩)) (fun a w hI hF => Reg.det_plain rfl ?_) ?_
  ·have f1 : a.tmps.getD 45 undef = .pointer (some ⟨k, 0, none⟩) := hF 45 (Reg.looksB (by kernel_rfl))
   clear hF hI
   simp only [Array.getD_eq_getD_getElem?] at f1
   simp only [execOp]; go_simp
  refine Reg.rely_nil ?_
  refine Reg.final_is ?_
  refine Reg.final_is ?_
  refine Reg.final_rel (fun v10 => ?_)
  refine Reg.final_is ?_
  refine Reg.final_rel (fun v8 => ?_)
  refine Reg.final_is ?_
  refine Reg.final_is ?_
  refine Reg.final_is ?_
  refine Reg.final_is ?_
  refine Reg.final_is ?_
  refine Reg.final_is ?_
  refine Reg.final_is ?_
  refine Reg.final_is ?_
  refine Reg.final_nil (fun w9 hF => ?_)
  have HI9 := Lib.hid hF.1.1
  have HS9 := Lib.hid hF.1.2
  clear hF
  simp only [List.drop_succ_cons, List.drop_zero]
  go_simp
  have d1 : w9.cell? ⟨k, 1, none⟩ = some (.slice pO out'.length cO) := by rw [HI9.out.kb.cell 1]; rfl
  have f1 := HI9.out.kb.frozen 1
  obtain ⟨p9, c9, rfl⟩ := owns_slice HS9.out
  go_wp2_with fail
  refine Reg.fin (by kernel_rfl) ?_
  go_wp2_with fail
  go_end0
  have hkw := KWr.put2 HI9.out.kb HGE.out HS9.out
  simp only [List.length_append] at hkw
  exact ⟨rfl, HFB.out hkw.1, HOV.out.trans (HI9.out.on.trans hkw.2)⟩
 | false =>
  have hbb2 : decide (most < (s.size : Int)) = bb := by rw [← hbb]; rfl
  clear hbb
  go_enter Tryz.func93, Tryz.ntmps93
  go_upto_region 3 with fail
  have OV : Only (· = k) w (w.setCell ⟨k, 2, none⟩ (.bool bb)) := (Only.refl _ w).set1
  have HBV : Hid (Blk (w.setCell ⟨k, 2, none⟩ (.bool bb)) k 58 #[.pointer none, .slice pO out'.length cO, .bool bb]) := Lib.hid (HBK.out.set 2 (.bool bb))
  have HRV := Lib.hid (owns_only HRW.out OV (owns_ne HRW.out HBK.out (by decide)))
  have HOV : Hid (OnW B k w (w.setCell ⟨k, 2, none⟩ (.bool bb))) := Lib.hid (OV.mono fun j _ e => .inl e)
  have y1 := HOV.out.cell HG.out hx
  have HAV := Lib.hid (HG.out.onW HOV.out (World.block_lt_of_cell? _ _ hx))
  have HBS : Hid (B ≤ ((w.setCell ⟨k, 2, none⟩ (.bool bb))).heap.size) := Lib.hid (Nat.le_trans HB.out OV.size)
  clear OV c0 c1 c2 cf hx
  generalize (w.setCell ⟨k, 2, none⟩ (.bool bb)) = V at *
  have HI0 : Hid (PutI V B k g o (.slice pO out'.length cO) bb (.string s) V) := Lib.hid ⟨HBV.out, y1, OnW.refl _ _ _, HAV.out⟩
  have HROW : Hid (V.drew.ownsRow B 5 1 (.slice pO out'.length cO) out'.length (Lib.byteCells out') ∧ B ≤ V.drew.heap.size) := Lib.hid ⟨HRV.out, HBS.out⟩
  have HLT : Hid (∀ j, (Value.slice pO out'.length cO).ownBlock = some j → j < V.heap.size) := Lib.hid fun j hj => (owns_type HRV.out hj).choose_spec.2.2
  clear y1
  refine Reg.wp_rely 13 (PutI V B k g o (.slice pO out'.length cO) bb (.string s)) (by kernel_rfl) (Reg.relyOk_of (by kernel_rfl)) HI0.out.drew (fun w w' h hI => hI.below h) ?_
  refine Reg.rely_plain (.pointer (some ⟨k, 0, none⟩)) rfl (fun a w hI hF => by
    have f1 : a.tmps.getD 0 undef = .pointer (some ⟨k, 0, none⟩) := hF 0 (Reg.looksB (by kernel_rfl))
    clear hF hI
    simp only [Array.getD_eq_getD_getElem?] at f1
    simp only [execOp]; go_simp) ?_
  refine Reg.rely_plain (.pointer (some ⟨k, 0, none⟩)) rfl (fun a w hI hF => by
    have f1 : a.tmps.getD 0 undef = .pointer (some ⟨k, 0, none⟩) := hF 0 (Reg.looksB (by kernel_rfl))
    clear hF hI
    simp only [Array.getD_eq_getD_getElem?] at f1
    simp only [execOp]; go_simp) ?_
  refine Reg.rely_plain (.pointer (some ⟨k, 0, none⟩)) rfl (fun a w hI hF => by
    have f1 : a.tmps.getD 35 undef = .pointer (some ⟨k, 0, none⟩) := hF 35 (Reg.looksB (by kernel_rfl))
    clear hF hI
    simp only [Array.getD_eq_getD_getElem?] at f1
    simp only [execOp]; go_simp) ?_
  refine Reg.rely_plain (.pointer (some ⟨k, 1, none⟩)) rfl (fun a w hI hF => by
    have f1 : a.tmps.getD 36 undef = .pointer (some ⟨k, 0, none⟩) := hF 36 (Reg.looksB (by kernel_rfl))
    clear hF hI
    simp only [Array.getD_eq_getD_getElem?] at f1
    simp only [execOp]; go_simp) ?_
  refine Reg.rely_plain (.slice pO out'.length cO) rfl (fun a w hI hF => by
    have f1 : a.tmps.getD 37 undef = .pointer (some ⟨k, 1, none⟩) := hF 37 (Reg.looksB (by kernel_rfl))
    have hc : w.cell? ⟨k, 1, none⟩ = some (.slice pO out'.length cO) := by rw [hI.kb.cell 1]; rfl
    clear hF hI
    simp only [Array.getD_eq_getD_getElem?] at f1
    simp only [execOp]; go_simp) ?_
  refine Reg.rely_plain (.pointer (some ⟨g, o, none⟩)) rfl (fun a w hI hF => by
    have f1 : a.tmps.getD 1 undef = .pointer (some ⟨g, o, none⟩) := hF 1 (Reg.looksB (by kernel_rfl))
    clear hF hI
    simp only [Array.getD_eq_getD_getElem?] at f1
    simp only [execOp]; go_simp) ?_
  refine Reg.rely_plain (.pointer (some ⟨g, o, none⟩)) rfl (fun a w hI hF => by
    have f1 : a.tmps.getD 39 undef = .pointer (some ⟨g, o, none⟩) := hF 39 (Reg.looksB (by kernel_rfl))
    clear hF hI
    simp only [Array.getD_eq_getD_getElem?] at f1
    simp only [execOp]; go_simp) ?_
  refine Reg.rely_plain (.string s) rfl (fun a w hI hF => by
    have f1 : a.tmps.getD 40 undef = .pointer (some ⟨g, o, none⟩) := hF 40 (Reg.looksB (by kernel_rfl))
    have hc := hI.cell
    clear hF hI
    simp only [Array.getD_eq_getD_getElem?] at f1
    simp only [execOp]; go_simp) ?_
  refine Reg.rely_rel (fun v w => ∃ gl, v = .slice (some ⟨gl, 0, none⟩) 1 1 ∧ V.heap.size ≤ gl ∧ Blk w gl 9 #[.string s]) (fun v w w' h hS => by obtain ⟨gl, h1, h2, h3⟩ := hS; exact ⟨gl, h1, h2, h3.below h⟩) (fun G hG => by cases hG) rfl (fun a w hI hF => by
   have f1 : a.tmps.getD 41 undef = .string s := hF 41 (Reg.looksB (by kernel_rfl))
   have hK := Lib.hid (Blk.new w 9 #[.string s])
   have hQ := Lib.hid hI.on.size
   have hW := Lib.hid (show Reg.Grow w (w.alloc (.cells #[.string s] 9)) from (Below.refl _ w).alloc (Nat.le_refl _) _)
   clear hF hI
   simp only [Array.getD_eq_getD_getElem?] at f1
   unfold Oper.wp
   simp only [execOp]
   go_simp
   exact ⟨_, rfl, ⟨_, rfl, hQ.out, hK.out⟩, hW.out⟩) ?_
  refine Reg.rely_call0 (Reg.Is (.string (textS s))) (Reg.stab_is _ _) (fun G hG => by cases hG) rfl (fun a w hI hF => by
   obtain ⟨gl, f1, hg1, hgl⟩ : ∃ gl, a.tmps.getD 42 undef = .slice (some ⟨gl, 0, none⟩) 1 1 ∧ V.heap.size ≤ gl ∧ Blk w gl 9 #[.string s] := hF 42 (Reg.looksB (by kernel_rfl))
   refine ⟨111, #[.slice (some ⟨gl, 0, none⟩) 1 1], ?_, (HW.out w gl hgl).mono fun e w' h => ⟨_, h.1, rfl, h.2⟩⟩
   clear hF hI hgl hg1
   simp only [Array.getD_eq_getD_getElem?] at f1
   simp only [execOp]; go_simp) ?_
  refine Reg.rely_turn (fun v w => w.ownsRow B 5 1 v (out' ++ Ms.bl (textS s)).length (Lib.byteCells (out' ++ Ms.bl (textS s)))) (PutG V.heap.size B (.slice pO out'.length cO)) (fun w => w.ownsRow B 5 1 (.slice pO out'.length cO) out'.length (Lib.byteCells out') ∧ B ≤ w.heap.size) (fun v w w' h hS => owns_below hS h) (fun G hG => by cases hG) (fun w w' h hI => hI.turn h) ?_ rfl (fun w w' h hJ => ⟨owns_below hJ.1 h, Nat.le_trans hJ.2 h.size⟩) ⟨HROW.out.1, HROW.out.2⟩ (fun G hG => by cases hG) (fun G hG => by cases hG) (fun a w hI hJ hF => ?_) ?_
  ·intro p hp
   repeat (rcases List.mem_cons.1 hp with rfl | hp; first | exact Reg.stab_is _ _ | exact fun v w w' h hS => by obtain ⟨gl, h1, h2, h3⟩ := hS; exact ⟨gl, h1, h2, h.keep h2 h3⟩)
   cases hp
  ·have f1 : a.tmps.getD 38 undef = .slice pO out'.length cO := hF 38 (Reg.looksB (by kernel_rfl))
   have f2 : a.tmps.getD 43 undef = .string (textS s) := hF 43 (Reg.looksB (by kernel_rfl))
   exact putRun (t := 48) (u := 9) (sl := .tmp 38) (x := .tmp 43) rfl Tryz.underlying48 Tryz.underlying9 info_u8 rfl f1 f2 hJ.1 HLEN.out hJ.2 HLT.out
  refine Reg.rely_is (.pointer (some ⟨k, 0, none⟩)) (fun a w hI hF => Reg.det_plain rfl ?_) ?_
  ·have f1 : a.tmps.getD 34 undef = .pointer (some ⟨k, 0, none⟩) := hF 34 (Reg.looksB (by kernel_rfl))
   clear hF hI
   simp only [Array.getD_eq_getD_getElem?] at f1
   simp only [execOp]; go_simp
  refine Reg.rely_is (.pointer (some ⟨k, 1, none⟩)) (fun a w hI hF => Reg.det_plain rfl ?_) ?_
  ·have f1 : a.tmps.getD 45 undef = .pointer (some ⟨k, 0, none⟩) := hF 45 (Reg.looksB (by kernel_rfl))
   clear hF hI
   simp only [Array.getD_eq_getD_getElem?] at f1
   simp only [execOp]; go_simp
  refine Reg.rely_nil ?_
  refine Reg.final_is ?_
  refine Reg.final_is ?_
  refine Reg.final_rel (fun v10 => ?_)
  refine Reg.final_is ?_
  refine Reg.final_rel (fun v8 => ?_)
  refine Reg.final_is ?_
  refine Reg.final_is ?_
  refine Reg.final_is ?_
  refine Reg.final_is ?_
  refine Reg.final_is ?_
  refine Reg.final_is ?_
  refine Reg.final_is ?_
  refine Reg.final_is ?_
  refine Reg.final_nil (fun w9 hF => ?_)
  have HI9 := Lib.hid hF.1.1
  have HS9 := Lib.hid hF.1.2
  clear hF
  simp only [List.drop_succ_cons, List.drop_zero]
  go_simp
  have d1 : w9.cell? ⟨k, 1, none⟩ = some (.slice pO out'.length cO) := by rw [HI9.out.kb.cell 1]; rfl
  have f1 := HI9.out.kb.frozen 1
  obtain ⟨p9, c9, rfl⟩ := owns_slice HS9.out
  go_wp2_with fail
  refine Reg.fin (by kernel_rfl) ?_
  go_wp2_with fail
  go_end0
  have hkw := KWr.put2 HI9.out.kb HGE.out HS9.out
  simp only [List.length_append] at hkw
  exact ⟨rfl, HFB.out hkw.1, HOV.out.trans (HI9.out.on.trans hkw.2)⟩
end
section
variable {w : World} {k rb g o : Nat} {q : RS} {bad : Bool} {T : TypeId} {A : Array Value}
theorem KRd.end {w w1 : World} {v : Value} {q' : RS} (c : KRd w k rb q bad) (hb : Blk w g T A) (hgk : g ≠ k) (hgr : g ≠ rb) (hP : PR w1 rb q'.s q'.e) (hO : Only (· = rb) w w1) :
  Blk w1 g T A ∧ Blk (w1.setCell ⟨g, o, none⟩ v) g T (A.setIfInBounds o v) ∧ KRd (w1.setCell ⟨g, o, none⟩ v) k rb q' bad ∧ Only (fun j => j = k ∨ j = rb ∨ j = g) w (w1.setCell ⟨g, o, none⟩ v) := by
 have hkr : k ≠ rb := fun e => by have h1 := c.1; rw [e] at h1; exact absurd (blk_ne h1 c.2.blk) (by decide)
 have h1 := hb.only hO hgr
 have hk := c.1.only hO hkr
 have o7 : Only (· = g) w1 (w1.setCell ⟨g, o, none⟩ v) := (Only.refl _ w1).set1
 refine ⟨h1, h1.set o v, ⟨hk.only o7 (fun e => hgk e.symm), hP.only o7 (fun e => hgr e.symm)⟩, ?_⟩
 exact (hO.mono (S' := fun j => j = k ∨ j = rb ∨ j = g) fun j _ e => .inr (.inl e)).trans (o7.mono fun j _ e => .inr (.inr e))
set_option maxRecDepth 100000 in
set_option maxHeartbeats 1000000 in
theorem numr_u64 {most : Int} (c : KRd w k rb q bad) (hb : Blk w g T A) (ho : o < A.size) (hgk : g ≠ k) (hgr : g ≠ rb) :
  Calls Tryz.prog 87 #[.pointer (some ⟨k, 0, none⟩), .pointer (some ⟨g, o, none⟩), .int .u64 most] w (RdP w k rb g T (A.setIfInBounds o (.int .u64 (uV most q))) (uS most q) bad) := by
 have HC := Lib.hid c
 have HB := Lib.hid hb
 have HG := Lib.hid (And.intro hgk hgr)
 have HA := Lib.hid ho
 have c0 : w.cell? ⟨k, 0, none⟩ = some (.pointer (some ⟨rb, 0, none⟩)) := by rw [c.1.cell 0]; rfl
 have HU := Lib.hid (puint_any c.2 most)
 obtain ⟨v, hv⟩ : ∃ v, numV q.s q.e (uC q.s most) = v := ⟨_, rfl⟩
 rw [show uV most q = v from hv]
 rw [hv] at HU
 clear c hb ho hgk hgr
 go_enter Tryz.func87, Tryz.ntmps87
 go_wp2_with (go_at_call 63; go_loud ((with_reducible refine HU.out.mono ?_); rintro e w1 ⟨rfl, hP, hO⟩; have HE := Lib.hid (KRd.end (o := o) (v := .int .u64 v) (q' := uS most q) HC.out HB.out HG.out.1 HG.out.2 hP hO); have d1 : w1.cell? ⟨g, o, none⟩ = some (A[o]'HA.out) := (by rw [HE.out.1.cell o, Array.getElem?_eq_getElem HA.out]); have f1 := HE.out.1.frozen o; clear hP hO))
 go_end0
 exact ⟨rfl, HE.out.2.1, HE.out.2.2.1, HE.out.2.2.2⟩
set_option maxRecDepth 100000 in
set_option maxHeartbeats 1000000 in
theorem numr_u8 {most : Int} (c : KRd w k rb q bad) (hb : Blk w g T A) (ho : o < A.size) (hgk : g ≠ k) (hgr : g ≠ rb) (hm : 0 ≤ most ∧ most ≤ 255) :
  Calls Tryz.prog 50 #[.pointer (some ⟨k, 0, none⟩), .pointer (some ⟨g, o, none⟩), .int .u64 most] w (RdP w k rb g T (A.setIfInBounds o (.int .u8 (uV most q))) (uS most q) bad) := by
 have HC := Lib.hid c
 have HB := Lib.hid hb
 have HG := Lib.hid (And.intro hgk hgr)
 have HA := Lib.hid ho
 have c0 : w.cell? ⟨k, 0, none⟩ = some (.pointer (some ⟨rb, 0, none⟩)) := by rw [c.1.cell 0]; rfl
 have HU := Lib.hid (puint_any c.2 most)
 have hv1 := uV_rg hm.1 q
 have hv2 : IntKind.u8.wrap (uV most q) = uV most q := by rw [IntKind.wrap_u8]; omega
 obtain ⟨v, hv⟩ : ∃ v, numV q.s q.e (uC q.s most) = v := ⟨_, rfl⟩
 rw [show uV most q = v from hv] at hv2 ⊢
 rw [hv] at HU
 clear hv1 hm
 clear c hb ho hgk hgr
 go_enter Tryz.func50, Tryz.ntmps50
 go_wp2_with (go_at_call 63; go_loud ((with_reducible refine HU.out.mono ?_); rintro e w1 ⟨rfl, hP, hO⟩; have HE := Lib.hid (KRd.end (o := o) (v := .int .u8 v) (q' := uS most q) HC.out HB.out HG.out.1 HG.out.2 hP hO); have d1 : w1.cell? ⟨g, o, none⟩ = some (A[o]'HA.out) := (by rw [HE.out.1.cell o, Array.getElem?_eq_getElem HA.out]); have f1 := HE.out.1.frozen o; clear hP hO))
 go_end0
 exact ⟨rfl, HE.out.2.1, HE.out.2.2.1, HE.out.2.2.2⟩
set_option maxRecDepth 100000 in
set_option maxHeartbeats 1000000 in
theorem numr_int {most : Int} (c : KRd w k rb q bad) (hb : Blk w g T A) (ho : o < A.size) (hgk : g ≠ k) (hgr : g ≠ rb) (hm : 0 ≤ most ∧ most ≤ 9223372036854775807) :
  Calls Tryz.prog 86 #[.pointer (some ⟨k, 0, none⟩), .pointer (some ⟨g, o, none⟩), .int .u64 most] w (RdP w k rb g T (A.setIfInBounds o (.int .i64 (uV most q))) (uS most q) bad) := by
 have HC := Lib.hid c
 have HB := Lib.hid hb
 have HG := Lib.hid (And.intro hgk hgr)
 have HA := Lib.hid ho
 have c0 : w.cell? ⟨k, 0, none⟩ = some (.pointer (some ⟨rb, 0, none⟩)) := by rw [c.1.cell 0]; rfl
 have HU := Lib.hid (puint_any c.2 most)
 have hv1 := uV_rg hm.1 q
 have hv2 : IntKind.i64.wrap (uV most q) = uV most q := by rw [IntKind.wrap_i64]; omega
 obtain ⟨v, hv⟩ : ∃ v, numV q.s q.e (uC q.s most) = v := ⟨_, rfl⟩
 rw [show uV most q = v from hv] at hv2 ⊢
 rw [hv] at HU
 clear hv1 hm
 clear c hb ho hgk hgr
 go_enter Tryz.func86, Tryz.ntmps86
 go_wp2_with (go_at_call 63; go_loud ((with_reducible refine HU.out.mono ?_); rintro e w1 ⟨rfl, hP, hO⟩; have HE := Lib.hid (KRd.end (o := o) (v := .int .i64 v) (q' := uS most q) HC.out HB.out HG.out.1 HG.out.2 hP hO); have d1 : w1.cell? ⟨g, o, none⟩ = some (A[o]'HA.out) := (by rw [HE.out.1.cell o, Array.getElem?_eq_getElem HA.out]); have f1 := HE.out.1.frozen o; clear hP hO))
 go_end0
 exact ⟨rfl, HE.out.2.1, HE.out.2.2.1, HE.out.2.2.2⟩
set_option maxRecDepth 100000 in
set_option maxHeartbeats 1000000 in
theorem numr_err {most : Int} (c : KRd w k rb q bad) (hb : Blk w g T A) (ho : o < A.size) (hgk : g ≠ k) (hgr : g ≠ rb) (hm : 0 ≤ most ∧ most ≤ 9223372036854775807) :
  Calls Tryz.prog 88 #[.pointer (some ⟨k, 0, none⟩), .pointer (some ⟨g, o, none⟩), .int .u64 most] w (RdP w k rb g T (A.setIfInBounds o (.int .i64 (uV most q))) (uS most q) bad) := by
 have HC := Lib.hid c
 have HB := Lib.hid hb
 have HG := Lib.hid (And.intro hgk hgr)
 have HA := Lib.hid ho
 have c0 : w.cell? ⟨k, 0, none⟩ = some (.pointer (some ⟨rb, 0, none⟩)) := by rw [c.1.cell 0]; rfl
 have HU := Lib.hid (puint_any c.2 most)
 have hv1 := uV_rg hm.1 q
 have hv2 : IntKind.i64.wrap (uV most q) = uV most q := by rw [IntKind.wrap_i64]; omega
 obtain ⟨v, hv⟩ : ∃ v, numV q.s q.e (uC q.s most) = v := ⟨_, rfl⟩
 rw [show uV most q = v from hv] at hv2 ⊢
 rw [hv] at HU
 clear hv1 hm
 clear c hb ho hgk hgr
 go_enter Tryz.func88, Tryz.ntmps88
 go_wp2_with (go_at_call 63; go_loud ((with_reducible refine HU.out.mono ?_); rintro e w1 ⟨rfl, hP, hO⟩; have HE := Lib.hid (KRd.end (o := o) (v := .int .i64 v) (q' := uS most q) HC.out HB.out HG.out.1 HG.out.2 hP hO); have d1 : w1.cell? ⟨g, o, none⟩ = some (A[o]'HA.out) := (by rw [HE.out.1.cell o, Array.getElem?_eq_getElem HA.out]); have f1 := HE.out.1.frozen o; clear hP hO))
 go_end0
 exact ⟨rfl, HE.out.2.1, HE.out.2.2.1, HE.out.2.2.2⟩
set_option maxRecDepth 100000 in
set_option maxHeartbeats 1000000 in
theorem wholer_any (c : KRd w k rb q bad) (hb : Blk w g T A) (ho : o < A.size) (hgk : g ≠ k) (hgr : g ≠ rb) :
  Calls Tryz.prog 96 #[.pointer (some ⟨k, 0, none⟩), .pointer (some ⟨g, o, none⟩)] w (RdP w k rb g T (A.setIfInBounds o (.int .i64 (iV q))) (iS q) bad) := by
 have HC := Lib.hid c
 have HB := Lib.hid hb
 have HG := Lib.hid (And.intro hgk hgr)
 have HA := Lib.hid ho
 have c0 : w.cell? ⟨k, 0, none⟩ = some (.pointer (some ⟨rb, 0, none⟩)) := by rw [c.1.cell 0]; rfl
 have HU := Lib.hid (pint_any c.2 (-9223372036854775808) 9223372036854775807)
 obtain ⟨v, hv⟩ : ∃ v, iV q = v := ⟨_, rfl⟩
 rw [hv]
 rw [show Num.zag (numV q.s q.e (iC q.s (-9223372036854775808) 9223372036854775807)) = v from hv] at HU
 clear c hb ho hgk hgr
 go_enter Tryz.func96, Tryz.ntmps96
 go_wp2_with (go_at_call 113; go_loud ((with_reducible refine HU.out.mono ?_); rintro e w1 ⟨rfl, hP, hO⟩; have HE := Lib.hid (KRd.end (o := o) (v := .int .i64 v) (q' := iS q) HC.out HB.out HG.out.1 HG.out.2 hP hO); have d1 : w1.cell? ⟨g, o, none⟩ = some (A[o]'HA.out) := (by rw [HE.out.1.cell o, Array.getElem?_eq_getElem HA.out]); have f1 := HE.out.1.frozen o; clear hP hO))
 go_end0
 exact ⟨rfl, HE.out.2.1, HE.out.2.2.1, HE.out.2.2.2⟩
set_option maxRecDepth 100000 in
set_option maxHeartbeats 1000000 in
theorem textr_any {most : Int} (c : KRd w k rb q bad) (hb : Blk w g T A) (ho : o < A.size) (hgk : g ≠ k) (hgr : g ≠ rb) (hm : I64 most) :
  Calls Tryz.prog 93 #[.pointer (some ⟨k, 0, none⟩), .pointer (some ⟨g, o, none⟩), .int .i64 most] w (RdP w k rb g T (A.setIfInBounds o (.string (tV most q))) (tS most q) bad) := by
 have HC := Lib.hid c
 have HB := Lib.hid hb
 have HG := Lib.hid (And.intro hgk hgr)
 have HA := Lib.hid ho
 have c0 : w.cell? ⟨k, 0, none⟩ = some (.pointer (some ⟨rb, 0, none⟩)) := by rw [c.1.cell 0]; rfl
 have HU := Lib.hid (ptext_any c.2 most hm)
 obtain ⟨v, hv⟩ : ∃ v, tV most q = v := ⟨_, rfl⟩
 rw [hv]
 rw [show txV q.s q.e most = v from hv] at HU
 clear c hb ho hgk hgr
 go_enter Tryz.func93, Tryz.ntmps93
 go_wp2_with (go_at_call 110; go_loud ((with_reducible refine HU.out.mono ?_); rintro e w1 ⟨rfl, hP, hO⟩; have HE := Lib.hid (KRd.end (o := o) (v := .string v) (q' := tS most q) HC.out HB.out HG.out.1 HG.out.2 hP hO); have d1 : w1.cell? ⟨g, o, none⟩ = some (A[o]'HA.out) := (by rw [HE.out.1.cell o, Array.getElem?_eq_getElem HA.out]); have f1 := HE.out.1.frozen o; clear hP hO))
 go_end0
 exact ⟨rfl, HE.out.2.1, HE.out.2.2.1, HE.out.2.2.2⟩
end
end Go.Proofs.YtghbjknpffiaiaaGreat

namespace Go.Proofs.YtghbjknpffiaiaaGreat
open Go.RowKit Wire Ms
set_option linter.unusedVariables false
set_option linter.unusedSimpArgs false
section
variable {w w' : World} {B k g o rb : Nat} {out : Ls} {bad : Bool} {L : Nat} {q : RS}
theorem KWb.c2 (c : KWb w B k out bad L) : w.cell? ⟨k, 2, none⟩ = some (.bool bad) := by
 obtain ⟨out', ⟨vO, h1, h2, h3⟩, _⟩ := c
 rw [h1.cell 2]; rfl
theorem KWb.fz (c : KWb w B k out bad L) : ∀ o, w.frozen? ⟨k, o, none⟩ = false := by
 obtain ⟨out', ⟨vO, h1, h2, h3⟩, _⟩ := c
 exact h1.frozen
theorem KWb.below (c : KWb w B k out bad L) (hb : Below w.heap.size w w') : KWb w' B k out bad L := by
 obtain ⟨out', h, h1, h2⟩ := c
 exact ⟨out', h.below hb, h1, h2⟩
theorem KWb.ge (c : KWb w B k out bad L) : B ≤ k := by obtain ⟨out', h, h1, h2⟩ := c; exact h.ge
theorem KWb.lt (c : KWb w B k out bad L) : k < w.heap.size := by obtain ⟨out', h, h1, h2⟩ := c; exact h.lt
theorem KWb.flag (c : KWb w B k out bad L) (b : Bool) (hb : b = false → bad = false) : KWb (w.setCell ⟨k, 2, none⟩ (.bool b)) B k out b L ∧ OnW B k w (w.setCell ⟨k, 2, none⟩ (.bool b)) := by
 obtain ⟨out', h, h1, h2⟩ := c
 exact ⟨⟨out', (h.flag b).1, fun e => h1 (hb e), h2⟩, (h.flag b).2⟩
theorem KRd.c0 (c : KRd w k rb q bad) : w.cell? ⟨k, 0, none⟩ = some (.pointer (some ⟨rb, 0, none⟩)) := by rw [c.1.cell 0]; rfl
theorem KRd.c2 (c : KRd w k rb q bad) : w.cell? ⟨k, 2, none⟩ = some (.bool bad) := by rw [c.1.cell 2]; rfl
theorem KRd.fz (c : KRd w k rb q bad) : ∀ o, w.frozen? ⟨k, o, none⟩ = false := c.1.frozen
end
theorem intLt (m n : Nat) : decide ((m : Int) < (n : Int)) = decide (m < n) := by rw [Bool.eq_iff_iff]; simp
section
variable {w : World} {B k g o : Nat} {out : Ls} {bad : Bool} {L : Nat}
set_option maxRecDepth 100000 in
set_option maxHeartbeats 1000000 in
theorem pathw_any {s : ByteArray} (c : KWb w B k out bad L) (hB : B ≤ w.heap.size) (hL : L ≤ 900000000) (hx : w.cell? ⟨g, o, none⟩ = some (.string s)) (hg : Away w B k g) (hr : s.size ≤ 1073741824) :
  Calls Tryz.prog 94 #[.pointer (some ⟨k, 0, none⟩), .pointer (some ⟨g, o, none⟩)] w (WrP w B k (out ++ wT s) (bad || (decide (12 < s.size) || !pathB s)) (L + (s.size + 10))) := by
 have HT := Lib.hid (textw_any (most := 12) c hB (by omega) hx hg hr)
 have HX := Lib.hid (fun (w' : World) (ho : OnW B k w w') => ho.cell hg hx)
 have HBG := Lib.hid (And.intro hB c.ge)
 have HP := Lib.hid (fun w => bmay_any s w)
 rw [show decide ((12 : Int) < (s.size : Int)) = decide (12 < s.size) from intLt 12 s.size] at HT
 rw [← Bool.or_assoc]
 clear c hB hL hx hg hr
 generalize (bad || decide (12 < s.size)) = b1 at *
 generalize out ++ wT s = out1 at *
 generalize L + (s.size + 10) = L1 at *
 go_enter Tryz.func94, Tryz.ntmps94
 go_upto_region 1 with (go_at_call 93; go_loud ((with_reducible refine HT.out.mono ?_); rintro e w1 ⟨rfl, h1, o1⟩; have H1 := Lib.hid h1; have O1 := Lib.hid o1; clear h1 o1))
 have x1 := HX.out _ O1.out
 have c2 := H1.out.c2
 have cf := H1.out.fz
 clear HT HX
 cases b1 with
 | true =>
  have HF := Lib.hid (H1.out.flag true (fun e => by cases e))
  go_wp2_with fail
  go_end0
  exact ⟨rfl, HF.out.1, O1.out.trans HF.out.2⟩
 | false =>
  rw [Bool.false_or]
  generalize pathB s = pb at *
  go_wp2_with (go_at_call 112; go_loud ((with_reducible refine (HP.out _).mono ?_); rintro e w2 ⟨rfl, hb⟩; have HF := Lib.hid ((H1.out.below hb).flag (!pb) (fun _ => rfl)); have HO := Lib.hid (O1.out.step hb); have d2 := (H1.out.below hb).c2; have df := (H1.out.below hb).fz; clear hb))
  go_end0
  exact ⟨rfl, HF.out.1, HO.out.trans HF.out.2⟩
set_option maxRecDepth 100000 in
set_option maxHeartbeats 1000000 in
theorem namew_any {n : Nm} (c : KWb w B k out bad L) (hB : B ≤ w.heap.size) (hL : L ≤ 800000000) (hx : w.cell? ⟨g, o, none⟩ = some (.int .u64 n.job)) (hy : w.cell? ⟨g, o + 1, none⟩ = some (.string n.path)) (hg : Away w B k g) (hj : U64 n.job) (hr : n.path.size ≤ 1048576) :
  Calls Tryz.prog 98 #[.pointer (some ⟨k, 0, none⟩), .pointer (some ⟨g, o, none⟩)] w (WrP w B k (out ++ wNm n) (bad || nmW n) (L + (n.path.size + 20))) := by
 have HJ := Lib.hid (numw_u64 (most := 18446744073709551615) c hB (by omega) hx hg hj)
 have HP := Lib.hid (fun (w' : World) (h : KWb w' B k (out ++ wU n.job) (bad || nb n.job 18446744073709551615) (L + 10)) (ho : OnW B k w w') =>
  pathw_any h (Nat.le_trans hB ho.size) (by omega) (ho.cell hg hy) (hg.onW ho (World.block_lt_of_cell? _ _ hy)) (by omega))
 clear c hB hL hx hy hg hj hr
 unfold wNm nmW
 rw [← List.append_assoc, ← Bool.or_assoc, show L + (n.path.size + 20) = L + 10 + (n.path.size + 10) by omega]
 generalize out ++ wU n.job = out1 at *
 generalize (bad || nb n.job 18446744073709551615) = b1 at *
 go_enter Tryz.func98, Tryz.ntmps98
 go_upto_region 1 with (go_at_call 87; go_loud ((with_reducible refine HJ.out.mono ?_); rintro e w1 ⟨rfl, h1, o1⟩; have H1 := Lib.hid h1; have O1 := Lib.hid o1; clear h1 o1))
 have HP2 := Lib.hid (HP.out _ H1.out O1.out)
 go_wp2_with (go_at_call 94; go_loud ((with_reducible refine HP2.out.mono ?_); rintro e w2 ⟨rfl, h1, o1⟩; have H2 := Lib.hid h1; have O2 := Lib.hid o1; clear h1 o1))
 go_end0
 exact ⟨rfl, H2.out, O1.out.trans O2.out⟩
theorem resW (r : Rs) : (r.err != 0 && r.val != 0) = !resB r := by unfold resB; rw [Bool.not_or]; rfl
set_option maxRecDepth 100000 in
set_option maxHeartbeats 1000000 in
theorem resw_any {r : Rs} (c : KWb w B k out bad L) (hB : B ≤ w.heap.size) (hL : L ≤ 800000000) (hx : w.cell? ⟨g, o, none⟩ = some (.int .i64 r.val)) (hy : w.cell? ⟨g, o + 1, none⟩ = some (.int .i64 r.err)) (hg : Away w B k g) (hr : I64 r.val ∧ I64 r.err) :
  Calls Tryz.prog 101 #[.pointer (some ⟨k, 0, none⟩), .pointer (some ⟨g, o, none⟩)] w (WrP w B k (out ++ wRs r) (bad || rsW r) (L + 20)) := by
 have HV := Lib.hid (wholew_any c hB (by omega) hx hg hr.1)
 have HE := Lib.hid (fun (w' : World) (h : KWb w' B k (out ++ wI r.val) bad (L + 10)) (ho : OnW B k w w') =>
  numw_err (most := 9999) h (Nat.le_trans hB ho.size) (by omega) (ho.cell hg hy) (hg.onW ho (World.block_lt_of_cell? _ _ hy)) hr.2)
 have HX := Lib.hid (fun (w' : World) (ho : OnW B k w w') => And.intro (ho.cell hg hx) (ho.cell hg hy))
 clear c hB hL hx hy hg hr
 have hW := resW r
 obtain ⟨rv, re⟩ := r
 unfold wRs rsW
 rw [← hW]
 dsimp only at *
 rw [← List.append_assoc, ← Bool.or_assoc, show L + 20 = L + 10 + 10 by omega]
 clear hW
 generalize out ++ wI rv = out1 at *
 generalize out1 ++ wU re = out2 at *
 generalize (bad || nb re 9999) = b1 at *
 go_enter Tryz.func101, Tryz.ntmps101
 go_upto_region 1 with (go_at_call 96; go_loud ((with_reducible refine HV.out.mono ?_); rintro e w1 ⟨rfl, h1, o1⟩; have H1 := Lib.hid h1; have O1 := Lib.hid o1; clear h1 o1))
 have HE2 := Lib.hid (HE.out _ H1.out O1.out)
 go_upto_region 2 with (go_at_call 88; go_loud ((with_reducible refine HE2.out.mono ?_); rintro e w2 ⟨rfl, h1, o1⟩; have H2 := Lib.hid h1; have O2 := Lib.hid o1; clear h1 o1))
 have HO := Lib.hid (O1.out.trans O2.out)
 have x1 := (HX.out _ HO.out).1
 have x2 := (HX.out _ HO.out).2
 have c2 := H2.out.c2
 have cf := H2.out.fz
 clear HV HE HE2 HX H1
 cases b1 with
 | true =>
  have HF := Lib.hid (H2.out.flag true (fun e => by cases e))
  go_wp2_with fail
  go_end0
  exact ⟨rfl, HF.out.1, HO.out.trans HF.out.2⟩
 | false =>
  rw [Bool.false_or]
  by_cases he : re = 0
  ·have he' : (re != 0) = false := by simpa using he
   rw [he', Bool.false_and]
   have HF := Lib.hid (H2.out.flag false (fun _ => rfl))
   clear he
   go_wp2_with fail
   go_end0
   exact ⟨rfl, HF.out.1, HO.out.trans HF.out.2⟩
  ·have he' : (re != 0) = true := by simpa using he
   rw [he', Bool.true_and]
   have HF := Lib.hid (H2.out.flag (rv != 0) (fun _ => rfl))
   go_wp2_with fail
   go_end0
   exact ⟨rfl, HF.out.1, HO.out.trans HF.out.2⟩
set_option maxRecDepth 100000 in
set_option maxHeartbeats 1000000 in
theorem entw_any {n : En} (c : KWb w B k out bad L) (hB : B ≤ w.heap.size) (hL : L ≤ 700000000) (hx : w.cell? ⟨g, o, none⟩ = some (.int .u64 n.nm.job)) (hy : w.cell? ⟨g, o + 1, none⟩ = some (.string n.nm.path)) (hz : w.cell? ⟨g, o + 2, none⟩ = some (.int .i64 n.kids))
  (hu : w.cell? ⟨g, o + 3, none⟩ = some (.int .i64 n.res.val)) (hv : w.cell? ⟨g, o + 4, none⟩ = some (.int .i64 n.res.err)) (hg : Away w B k g) (hj : U64 n.nm.job ∧ I64 n.kids ∧ I64 n.res.val ∧ I64 n.res.err) (hr : n.nm.path.size ≤ 1048576) :
  Calls Tryz.prog 90 #[.pointer (some ⟨k, 0, none⟩), .pointer (some ⟨g, o, none⟩)] w (WrP w B k (out ++ wEn n) (bad || enW n) (L + (n.nm.path.size + 50))) := by
 have HN := Lib.hid (namew_any c hB (by omega) hx hy hg hj.1 hr)
 have HK := Lib.hid (fun (w' : World) (h : KWb w' B k (out ++ wNm n.nm) (bad || nmW n.nm) (L + (n.nm.path.size + 20))) (ho : OnW B k w w') =>
  numw_int (most := 16) h (Nat.le_trans hB ho.size) (by omega) (ho.cell hg hz) (hg.onW ho (World.block_lt_of_cell? _ _ hz)) hj.2.1)
 have HR := Lib.hid (fun (w' : World) (h : KWb w' B k (out ++ wNm n.nm ++ wU n.kids) (bad || nmW n.nm || nb n.kids 16) (L + (n.nm.path.size + 20) + 10)) (ho : OnW B k w w') =>
  resw_any h (Nat.le_trans hB ho.size) (by omega) (ho.cell hg hu) (ho.cell hg hv) (hg.onW ho (World.block_lt_of_cell? _ _ hz)) hj.2.2)
 clear c hB hL hx hy hz hu hv hg hj hr
 unfold wEn enW
 rw [← List.append_assoc, ← List.append_assoc, ← Bool.or_assoc, ← Bool.or_assoc, show L + (n.nm.path.size + 50) = L + (n.nm.path.size + 20) + 10 + 20 by omega]
 generalize out ++ wNm n.nm = out1 at *
 generalize (bad || nmW n.nm) = b1 at *
 generalize L + (n.nm.path.size + 20) = L1 at *
 go_enter Tryz.func90, Tryz.ntmps90
 go_upto_region 1 with (go_at_call 98; go_loud ((with_reducible refine HN.out.mono ?_); rintro e w1 ⟨rfl, h1, o1⟩; have H1 := Lib.hid h1; have O1 := Lib.hid o1; clear h1 o1))
 have HK2 := Lib.hid (HK.out _ H1.out O1.out)
 go_upto_region 2 with (go_at_call 86; go_loud ((with_reducible refine HK2.out.mono ?_); rintro e w2 ⟨rfl, h1, o1⟩; have H2 := Lib.hid h1; have O2 := Lib.hid o1; clear h1 o1))
 have HO := Lib.hid (O1.out.trans O2.out)
 have HR2 := Lib.hid (HR.out _ H2.out HO.out)
 go_wp2_with (go_at_call 101; go_loud ((with_reducible refine HR2.out.mono ?_); rintro e w3 ⟨rfl, h1, o1⟩; have H3 := Lib.hid h1; have O3 := Lib.hid o1; clear h1 o1))
 go_end0
 exact ⟨rfl, H3.out, HO.out.trans O3.out⟩
end
end Go.Proofs.YtghbjknpffiaiaaGreat

namespace Go.Proofs.YtghbjknpffiaiaaGreat
open Go.RowKit Wire Ms
set_option linter.unusedVariables false
set_option linter.unusedSimpArgs false
def OnRd (k rb g : Nat) (w w' : World) : Prop := Only (fun j => j = k ∨ j = rb ∨ j = g) w w'
section
variable {w w1 w' : World} {k rb g o : Nat} {q q' : RS} {bad : Bool} {T : TypeId} {A A' : Array Value}
theorem OnRd.trans (h1 : OnRd k rb g w w1) (h2 : OnRd k rb g w1 w') : OnRd k rb g w w' := Only.trans h1 h2
theorem KRd.flag2 (c : KRd w k rb q bad) (hb : Blk w g T A) (hgk : g ≠ k) (b : Bool) : Blk (w.setCell ⟨k, 2, none⟩ (.bool b)) g T A ∧ KRd (w.setCell ⟨k, 2, none⟩ (.bool b)) k rb q b ∧ OnRd k rb g w (w.setCell ⟨k, 2, none⟩ (.bool b)) :=
 ⟨hb.only (c.flag b).2 hgk, (c.flag b).1, (c.flag b).2.mono fun j _ e => .inl e⟩
end
section
variable {w : World} {k rb g o : Nat} {q : RS} {bad : Bool} {T : TypeId} {A : Array Value}
set_option maxRecDepth 100000 in
set_option maxHeartbeats 1000000 in
theorem pathr_any (c : KRd w k rb q bad) (hb : Blk w g T A) (ho : o < A.size) (hgk : g ≠ k) (hgr : g ≠ rb) :
  Calls Tryz.prog 94 #[.pointer (some ⟨k, 0, none⟩), .pointer (some ⟨g, o, none⟩)] w (RdP w k rb g T (A.setIfInBounds o (.string (tV 12 q))) (tS 12 q) (bad || !pathB (tV 12 q))) := by
 have HT := Lib.hid (textr_any (most := 12) c hb ho hgk hgr (by unfold I64; omega))
 have HG := Lib.hid hgk
 have HP := Lib.hid (fun w => bmay_any (tV 12 q) w)
 have HX : Hid ((A.setIfInBounds o (.string (tV 12 q)))[o]? = some (.string (tV 12 q))) := Lib.hid (by simp [ho])
 clear c hb ho hgk hgr
 generalize tV 12 q = s at *
 generalize tS 12 q = q1 at *
 generalize A.setIfInBounds o (.string s) = A1 at *
 go_enter Tryz.func94, Tryz.ntmps94
 go_upto_region 1 with (go_at_call 93; go_loud ((with_reducible refine HT.out.mono ?_); rintro e w1 ⟨rfl, b1, h1, o1⟩; have B1 := Lib.hid b1; have H1 := Lib.hid h1; have O1 := Lib.hid (show OnRd k rb g _ _ from o1); clear b1 h1 o1))
 have x1 : w1.cell? ⟨g, o, none⟩ = some (.string s) := by rw [B1.out.cell o, HX.out]
 have c2 := H1.out.c2
 have cf := H1.out.fz
 clear HT HX
 cases bad with
 | true =>
  have HF := Lib.hid (H1.out.flag2 B1.out HG.out true)
  go_wp2_with fail
  go_end0
  exact ⟨rfl, HF.out.1, HF.out.2.1, O1.out.trans HF.out.2.2⟩
 | false =>
  rw [Bool.false_or]
  generalize pathB s = pb at *
  go_wp2_with (go_at_call 112; go_loud ((with_reducible refine (HP.out _).mono ?_); rintro e w2 ⟨rfl, hb⟩; have HF := Lib.hid ((H1.out.below hb).flag2 (B1.out.below hb) HG.out (!pb)); have HO := Lib.hid (O1.out.trans (show OnRd k rb g _ _ from Only.of_below hb)); have d2 := (H1.out.below hb).c2; have df := (H1.out.below hb).fz; clear hb))
  go_end0
  exact ⟨rfl, HF.out.1, HF.out.2.1, HO.out.trans HF.out.2.2⟩
set_option maxRecDepth 100000 in
set_option maxHeartbeats 1000000 in
theorem namer_any (c : KRd w k rb q bad) (hb : Blk w g T A) (ho : o + 1 < A.size) (hgk : g ≠ k) (hgr : g ≠ rb) :
  Calls Tryz.prog 98 #[.pointer (some ⟨k, 0, none⟩), .pointer (some ⟨g, o, none⟩)] w
   (RdP w k rb g T ((A.setIfInBounds o (.int .u64 (rNm q).1.job)).setIfInBounds (o + 1) (.string (rNm q).1.path)) (rNm q).2 (bad || !pathB (rNm q).1.path)) := by
 unfold rNm
 dsimp only
 have HJ := Lib.hid (numr_u64 (o := o) (most := 18446744073709551615) c hb (by omega) hgk hgr)
 have HP := Lib.hid (fun (w' : World) (A1 : Array Value) (q1 : RS) (h : KRd w' k rb q1 bad) (hb : Blk w' g T A1) (hs : o + 1 < A1.size) => pathr_any h hb hs hgk hgr)
 have HS : Hid (o + 1 < (A.setIfInBounds o (.int .u64 (uV 18446744073709551615 q))).size) := Lib.hid (by simpa using ho)
 clear c hb ho hgk hgr
 generalize uV 18446744073709551615 q = j at *
 generalize uS 18446744073709551615 q = q1 at *
 generalize A.setIfInBounds o (.int .u64 j) = A1 at *
 go_enter Tryz.func98, Tryz.ntmps98
 go_upto_region 1 with (go_at_call 87; go_loud ((with_reducible refine HJ.out.mono ?_); rintro e w1 ⟨rfl, b1, h1, o1⟩; have B1 := Lib.hid b1; have H1 := Lib.hid h1; have O1 := Lib.hid (show OnRd k rb g _ _ from o1); clear b1 h1 o1))
 have HP2 := Lib.hid (HP.out _ _ _ H1.out B1.out HS.out)
 go_wp2_with (go_at_call 94; go_loud ((with_reducible refine HP2.out.mono ?_); rintro e w2 ⟨rfl, b1, h1, o1⟩; have B2 := Lib.hid b1; have H2 := Lib.hid h1; have O2 := Lib.hid (show OnRd k rb g _ _ from o1); clear b1 h1 o1))
 go_end0
 exact ⟨rfl, B2.out, H2.out, O1.out.trans O2.out⟩
set_option maxRecDepth 100000 in
set_option maxHeartbeats 1000000 in
theorem resr_any (c : KRd w k rb q bad) (hb : Blk w g T A) (ho : o + 1 < A.size) (hgk : g ≠ k) (hgr : g ≠ rb) :
  Calls Tryz.prog 101 #[.pointer (some ⟨k, 0, none⟩), .pointer (some ⟨g, o, none⟩)] w
   (RdP w k rb g T ((A.setIfInBounds o (.int .i64 (rRs q).1.val)).setIfInBounds (o + 1) (.int .i64 (rRs q).1.err)) (rRs q).2 (bad || !resB (rRs q).1)) := by
 rw [← resW]
 unfold rRs
 dsimp only
 have HV := Lib.hid (wholer_any (o := o) c hb (by omega) hgk hgr)
 have HE := Lib.hid (fun (w' : World) (A1 : Array Value) (q1 : RS) (h : KRd w' k rb q1 bad) (hb : Blk w' g T A1) (hs : o + 1 < A1.size) => numr_err (most := 9999) h hb hs hgk hgr (by decide))
 have HS : Hid (o + 1 < (A.setIfInBounds o (.int .i64 (iV q))).size) := Lib.hid (by simpa using ho)
 have HG := Lib.hid hgk
 have HX : ∀ re rv, Hid (((A.setIfInBounds o (.int .i64 rv)).setIfInBounds (o + 1) (.int .i64 re))[o]? = some (.int .i64 rv)) := fun re rv => Lib.hid (by
  have h1 : o < A.size := by omega
  simp [h1])
 have HY : ∀ re rv, Hid (((A.setIfInBounds o (.int .i64 rv)).setIfInBounds (o + 1) (.int .i64 re))[o + 1]? = some (.int .i64 re)) := fun re rv => Lib.hid (by simp [ho])
 replace HX := HX (uV 9999 (iS q)) (iV q)
 replace HY := HY (uV 9999 (iS q)) (iV q)
 clear c hb ho hgk hgr
 generalize iV q = rv at *
 generalize iS q = q1 at *
 replace HE := Lib.hid (fun w' A1 h hb hs => HE.out w' A1 q1 h hb hs)
 generalize uV 9999 q1 = re at *
 generalize uS 9999 q1 = q2 at *
 generalize A.setIfInBounds o (.int .i64 rv) = A1 at *
 replace HE := Lib.hid (fun w' h hb => HE.out w' A1 h hb HS.out)
 generalize A1.setIfInBounds (o + 1) (.int .i64 re) = A2 at *
 go_enter Tryz.func101, Tryz.ntmps101
 go_upto_region 1 with (go_at_call 96; go_loud ((with_reducible refine HV.out.mono ?_); rintro e w1 ⟨rfl, b1, h1, o1⟩; have B1 := Lib.hid b1; have H1 := Lib.hid h1; have O1 := Lib.hid (show OnRd k rb g _ _ from o1); clear b1 h1 o1))
 have HE2 := Lib.hid (HE.out _ H1.out B1.out)
 go_upto_region 2 with (go_at_call 88; go_loud ((with_reducible refine HE2.out.mono ?_); rintro e w2 ⟨rfl, b1, h1, o1⟩; have B2 := Lib.hid b1; have H2 := Lib.hid h1; have O2 := Lib.hid (show OnRd k rb g _ _ from o1); clear b1 h1 o1))
 have HO := Lib.hid (O1.out.trans O2.out)
 have x1 : w2.cell? ⟨g, o, none⟩ = some (.int .i64 rv) := by rw [B2.out.cell o, HX.out]
 have x2 : w2.cell? ⟨g, o + 1, none⟩ = some (.int .i64 re) := by rw [B2.out.cell (o + 1), HY.out]
 have c2 := H2.out.c2
 have cf := H2.out.fz
 clear HV HE HE2 HX HY H1 B1 HS
 cases bad with
 | true =>
  have HF := Lib.hid (H2.out.flag2 B2.out HG.out true)
  go_wp2_with fail
  go_end0
  exact ⟨rfl, HF.out.1, HF.out.2.1, HO.out.trans HF.out.2.2⟩
 | false =>
  rw [Bool.false_or]
  by_cases he : re = 0
  ·have he' : (re != 0) = false := by simpa using he
   rw [he', Bool.false_and]
   have HF := Lib.hid (H2.out.flag2 B2.out HG.out false)
   clear he
   go_wp2_with fail
   go_end0
   exact ⟨rfl, HF.out.1, HF.out.2.1, HO.out.trans HF.out.2.2⟩
  ·have he' : (re != 0) = true := by simpa using he
   rw [he', Bool.true_and]
   have HF := Lib.hid (H2.out.flag2 B2.out HG.out (rv != 0))
   go_wp2_with fail
   go_end0
   exact ⟨rfl, HF.out.1, HF.out.2.1, HO.out.trans HF.out.2.2⟩
def layEn (A : Array Value) (o : Nat) (n : En) : Array Value :=
 ((((A.setIfInBounds o (.int .u64 n.nm.job)).setIfInBounds (o + 1) (.string n.nm.path)).setIfInBounds (o + 2) (.int .i64 n.kids)).setIfInBounds (o + 3) (.int .i64 n.res.val)).setIfInBounds (o + 3 + 1) (.int .i64 n.res.err)
set_option maxRecDepth 100000 in
set_option maxHeartbeats 1000000 in
theorem entr_any (c : KRd w k rb q bad) (hb : Blk w g T A) (ho : o + 4 < A.size) (hgk : g ≠ k) (hgr : g ≠ rb) :
  Calls Tryz.prog 90 #[.pointer (some ⟨k, 0, none⟩), .pointer (some ⟨g, o, none⟩)] w
   (RdP w k rb g T (layEn A o (rEn q).1) (rEn q).2 (bad || (!pathB (rEn q).1.nm.path || !resB (rEn q).1.res))) := by
 unfold rEn layEn
 dsimp only
 rw [← Bool.or_assoc]
 have HN := Lib.hid (namer_any (o := o) c hb (by omega) hgk hgr)
 have HK := Lib.hid (fun (w' : World) (b : Bool) (A1 : Array Value) (q1 : RS) (h : KRd w' k rb q1 b) (hb : Blk w' g T A1) (hs : o + 2 < A1.size) => numr_int (most := 16) h hb hs hgk hgr (by decide))
 have HR := Lib.hid (fun (w' : World) (b : Bool) (A1 : Array Value) (q1 : RS) (h : KRd w' k rb q1 b) (hb : Blk w' g T A1) (hs : o + 3 + 1 < A1.size) => resr_any h hb hs hgk hgr)
 have HS : Hid (o + 4 < A.size) := Lib.hid ho
 clear c hb ho hgk hgr
 generalize rNm q = nq at *
 obtain ⟨n, q1⟩ := nq
 dsimp only at *
 replace HS : Hid (o + 4 < ((A.setIfInBounds o (.int .u64 n.job)).setIfInBounds (o + 1) (.string n.path)).size) := Lib.hid (by have := HS.out; simpa using this)
 generalize (A.setIfInBounds o (.int .u64 n.job)).setIfInBounds (o + 1) (.string n.path) = A1 at *
 generalize (bad || !pathB n.path) = b1 at *
 go_enter Tryz.func90, Tryz.ntmps90
 go_upto_region 1 with (go_at_call 98; go_loud ((with_reducible refine HN.out.mono ?_); rintro e w1 ⟨rfl, b1, h1, o1⟩; have B1 := Lib.hid b1; have H1 := Lib.hid h1; have O1 := Lib.hid (show OnRd k rb g _ _ from o1); clear b1 h1 o1))
 have HK2 := Lib.hid (HK.out _ _ _ _ H1.out B1.out (by have := HS.out; omega))
 go_upto_region 2 with (go_at_call 86; go_loud ((with_reducible refine HK2.out.mono ?_); rintro e w2 ⟨rfl, b1, h1, o1⟩; have B2 := Lib.hid b1; have H2 := Lib.hid h1; have O2 := Lib.hid (show OnRd k rb g _ _ from o1); clear b1 h1 o1))
 have HO := Lib.hid (O1.out.trans O2.out)
 have HR2 := Lib.hid (HR.out _ _ _ _ H2.out B2.out (by have := HS.out; simp only [Array.size_setIfInBounds]; omega))
 go_wp2_with (go_at_call 101; go_loud ((with_reducible refine HR2.out.mono ?_); rintro e w3 ⟨rfl, b1, h1, o1⟩; have B3 := Lib.hid b1; have H3 := Lib.hid h1; have O3 := Lib.hid (show OnRd k rb g _ _ from o1); clear b1 h1 o1))
 go_end0
 exact ⟨rfl, B3.out, H3.out, HO.out.trans O3.out⟩
end
end Go.Proofs.YtghbjknpffiaiaaGreat

namespace Go.Proofs.YtghbjknpffiaiaaGreat
open Go.RowKit Wire Ms
set_option linter.unusedVariables false
set_option linter.unusedSimpArgs false
def LwRel (w : World) (B k n : Nat) (OUT : Nat → Ls) (BAD : Nat → Bool) (LL : Nat → Nat) (u : Value) (wr : World) : Prop :=
 ∃ i : Nat, i ≤ n ∧ u = .int .i64 i ∧ KWb wr B k (OUT i) (BAD i) (LL i) ∧ OnW B k w wr
section
variable {w : World} {B k g o : Nat} {out : Ls} {bad : Bool} {L : Nat}
set_option maxRecDepth 100000 in
set_option maxHeartbeats 4000000 in
theorem listw_i64 {n : Nat} {pX : Option Addr} {cX : Nat} {most : Int} {OUT : Nat → Ls} {BAD : Nat → Bool} {LL : Nat → Nat} (c : KWb w B k out bad L) (hB : B ≤ w.heap.size) (hL : L ≤ 1000000000) (hx : w.cell? ⟨g, o, none⟩ = some (.slice pX n cX)) (hg : Away w B k g) (hr : n ≤ 140737488355328)
  (hz : OUT 0 = out ++ Num.leb n ∧ BAD 0 = (bad || decide (most < (n : Int))) ∧ LL 0 = L + 10) (hp : 0 < n → ∃ b off, pX = some ⟨b, off, none⟩ ∧ b < w.heap.size)
  (hone : ∀ b off, pX = some ⟨b, off, none⟩ → ∀ i, i < n → ∀ w', OnW B k w w' → KWb w' B k (OUT i) (BAD i) (LL i) → Calls Tryz.prog 96 #[.pointer (some ⟨k, 0, none⟩), .pointer (some ⟨b, off + i, none⟩)] w' (WrP w' B k (OUT (i + 1)) (BAD (i + 1)) (LL (i + 1)))) :
  Calls Tryz.prog 95 #[.pointer (some ⟨k, 0, none⟩), .pointer (some ⟨g, o, none⟩), .int .i64 most, .func (.func 96) #[.pointer (some ⟨k, 0, none⟩)] #[]] w (WrP w B k (OUT n) (BAD n) (LL n)) := by
 obtain ⟨hz1, hz2, hz3⟩ := hz
 have HX := Lib.hid hx
 have HP := Lib.hid hp
 have HN := Lib.hid hone
 clear hp hone
 obtain ⟨out', c, ho, hl⟩ := c
 obtain ⟨vO, h1, h2, h3⟩ := c
 obtain ⟨pO, cO, rfl⟩ := owns_slice h2
 have c0 : w.cell? ⟨k, 0, none⟩ = some (.pointer none) := by rw [h1.cell 0]; rfl
 have c1 : w.cell? ⟨k, 1, none⟩ = some (.slice pO out'.length cO) := by rw [h1.cell 1]; rfl
 have c2 : w.cell? ⟨k, 2, none⟩ = some (.bool bad) := by rw [h1.cell 2]; rfl
 have cf := h1.frozen
 have HBK := Lib.hid h1
 have HRW := Lib.hid h2
 have HGE := Lib.hid h3
 have HG := Lib.hid hg
 have HO := Lib.hid (And.intro ho hl)
 have HL := Lib.hid hL
 have HB := Lib.hid hB
 have hyy : U64 (IntKind.u64.wrap (n : Int)) ∧ IntKind.u64.wrap (n : Int) = n := by rw [IntKind.wrap_u64]; unfold U64; omega
 obtain ⟨y, hy⟩ : ∃ y, IntKind.u64.wrap (n : Int) = y := ⟨_, rfl⟩
 rw [hy] at hyy
 have HY := Lib.hid hyy
 obtain ⟨bb, hbb⟩ : ∃ bb, (bad || decide (most < (n : Int))) = bb := ⟨_, rfl⟩
 rw [hbb] at hz2
 have HBB := Lib.hid hbb
 have HLEN : Hid (out'.length + (Num.lebS y).size ≤ 140737488355328) := Lib.hid (by have := lebS_size HY.out.1.2; have := HO.out.2; have := HL.out; omega)
 have HFB : Hid (∀ {W : World}, KWr W B k (out' ++ Ms.bl (Num.lebS y)) bb → KWb W B k (OUT 0) (BAD 0) (LL 0)) := Lib.hid fun h => by
  rw [hz1, hz2, hz3]
  exact KWr.kwb h HO.out.1 HO.out.2 (fun e => by
   have h := HBB.out
   rw [e, Bool.or_eq_false_iff] at h
   refine ⟨h.1, ?_⟩
   rw [Ms.bl_leb, HY.out.2]
   rfl) (by rw [Ms.bl_len]; exact lebS_size HY.out.1.2)
 have HW : Hid (∀ (w : World) gl, Blk w gl 22 #[.int .u64 y] → Calls Tryz.prog 64 #[.slice (some ⟨gl, 0, none⟩) 1 1] w (StPost (Num.lebS y) w)) := Lib.hid fun w gl h => uintsB HY.out.1 h
 have HNB := Lib.hid hr
 clear h1 h2 h3 hg ho hl hL hB hyy hr hz1 hz2 hz3
 cases bad with
 | true =>
  have hbt : bb = true := by rw [← hbb]; rfl
  clear hbb
  subst hbt
  go_enter Tryz.func95, Tryz.ntmps95
  go_upto_region 2 with fail
  have OV : Only (· = k) w (w.setCell ⟨k, 2, none⟩ (.bool true)) := (Only.refl _ w).set1
  have HBV : Hid (Blk (w.setCell ⟨k, 2, none⟩ (.bool true)) k 58 #[.pointer none, .slice pO out'.length cO, .bool true]) := Lib.hid (HBK.out.set 2 (.bool true))
  have HRV := Lib.hid (owns_only HRW.out OV (owns_ne HRW.out HBK.out (by decide)))
  have HOV : Hid (OnW B k w (w.setCell ⟨k, 2, none⟩ (.bool true))) := Lib.hid (OV.mono fun j _ e => .inl e)
  have y1 := HOV.out.cell HG.out hx
  have HAV := Lib.hid (HG.out.onW HOV.out (World.block_lt_of_cell? _ _ hx))
  have HBS : Hid (B ≤ ((w.setCell ⟨k, 2, none⟩ (.bool true))).heap.size) := Lib.hid (Nat.le_trans HB.out OV.size)
  clear OV c0 c1 c2 cf hx
  generalize (w.setCell ⟨k, 2, none⟩ (.bool true)) = V at *
  have HI0 : Hid (PutI V B k g o (.slice pO out'.length cO) true (.slice pX n cX) V) := Lib.hid ⟨HBV.out, y1, OnW.refl _ _ _, HAV.out⟩
  have HROW : Hid (V.drew.ownsRow B 5 1 (.slice pO out'.length cO) out'.length (Lib.byteCells out') ∧ B ≤ V.drew.heap.size) := Lib.hid ⟨HRV.out, HBS.out⟩
  have HLT : Hid (∀ j, (Value.slice pO out'.length cO).ownBlock = some j → j < V.heap.size) := Lib.hid fun j hj => (owns_type HRV.out hj).choose_spec.2.2
  clear y1
  refine Reg.wp_rely 15 (PutI V B k g o (.slice pO out'.length cO) true (.slice pX n cX)) (by kernel_rfl) (Reg.relyOk_of (by kernel_rfl)) HI0.out.drew (fun w w' h hI => hI.below h) ?_
  refine Reg.rely_plain (.pointer (some ⟨k, 0, none⟩)) rfl (fun a w hI hF => by
    have f1 : a.tmps.getD 0 undef = .pointer (some ⟨k, 0, none⟩) := hF 0 (Reg.looksB (by kernel_rfl))
    clear hF hI
    simp only [Array.getD_eq_getD_getElem?] at f1
    simp only [execOp]; go_simp) ?_
  refine Reg.rely_plain (.pointer (some ⟨k, 0, none⟩)) rfl (fun a w hI hF => by
    have f1 : a.tmps.getD 0 undef = .pointer (some ⟨k, 0, none⟩) := hF 0 (Reg.looksB (by kernel_rfl))
    clear hF hI
    simp only [Array.getD_eq_getD_getElem?] at f1
    simp only [execOp]; go_simp) ?_
  refine Reg.rely_plain (.pointer (some ⟨k, 0, none⟩)) rfl (fun a w hI hF => by
    have f1 : a.tmps.getD 31 undef = .pointer (some ⟨k, 0, none⟩) := hF 31 (Reg.looksB (by kernel_rfl))
    clear hF hI
    simp only [Array.getD_eq_getD_getElem?] at f1
    simp only [execOp]; go_simp) ?_
  refine Reg.rely_plain (.pointer (some ⟨k, 1, none⟩)) rfl (fun a w hI hF => by
    have f1 : a.tmps.getD 32 undef = .pointer (some ⟨k, 0, none⟩) := hF 32 (Reg.looksB (by kernel_rfl))
    clear hF hI
    simp only [Array.getD_eq_getD_getElem?] at f1
    simp only [execOp]; go_simp) ?_
  refine Reg.rely_plain (.slice pO out'.length cO) rfl (fun a w hI hF => by
    have f1 : a.tmps.getD 33 undef = .pointer (some ⟨k, 1, none⟩) := hF 33 (Reg.looksB (by kernel_rfl))
    have hc : w.cell? ⟨k, 1, none⟩ = some (.slice pO out'.length cO) := by rw [hI.kb.cell 1]; rfl
    clear hF hI
    simp only [Array.getD_eq_getD_getElem?] at f1
    simp only [execOp]; go_simp) ?_
  refine Reg.rely_plain (.pointer (some ⟨g, o, none⟩)) rfl (fun a w hI hF => by
    have f1 : a.tmps.getD 1 undef = .pointer (some ⟨g, o, none⟩) := hF 1 (Reg.looksB (by kernel_rfl))
    clear hF hI
    simp only [Array.getD_eq_getD_getElem?] at f1
    simp only [execOp]; go_simp) ?_
  refine Reg.rely_plain (.pointer (some ⟨g, o, none⟩)) rfl (fun a w hI hF => by
    have f1 : a.tmps.getD 35 undef = .pointer (some ⟨g, o, none⟩) := hF 35 (Reg.looksB (by kernel_rfl))
    clear hF hI
    simp only [Array.getD_eq_getD_getElem?] at f1
    simp only [execOp]; go_simp) ?_
  refine Reg.rely_plain (.slice pX n cX) rfl (fun a w hI hF => by
    have f1 : a.tmps.getD 36 undef = .pointer (some ⟨g, o, none⟩) := hF 36 (Reg.looksB (by kernel_rfl))
    have hc := hI.cell
    clear hF hI
    simp only [Array.getD_eq_getD_getElem?] at f1
    simp only [execOp]; go_simp) ?_
  refine Reg.rely_plain (.int .i64 n) rfl (fun a w hI hF => by
    have f1 : a.tmps.getD 37 undef = .slice pX n cX := hF 37 (Reg.looksB (by kernel_rfl))
    clear hF hI
    simp only [Array.getD_eq_getD_getElem?] at f1
    simp only [execOp]; go_simp) ?_
  refine Reg.rely_plain (.int .u64 y) rfl (fun a w hI hF => by
    have f1 : a.tmps.getD 38 undef = .int .i64 n := hF 38 (Reg.looksB (by kernel_rfl))
    clear hF hI
    simp only [Array.getD_eq_getD_getElem?] at f1
    simp only [execOp]; go_simp) ?_
  refine Reg.rely_rel (fun v w => ∃ gl, v = .slice (some ⟨gl, 0, none⟩) 1 1 ∧ V.heap.size ≤ gl ∧ Blk w gl 22 #[.int .u64 y]) (fun v w w' h hS => by obtain ⟨gl, h1, h2, h3⟩ := hS; exact ⟨gl, h1, h2, h3.below h⟩) (fun G hG => by cases hG) rfl (fun a w hI hF => by
   have f1 : a.tmps.getD 39 undef = .int .u64 y := hF 39 (Reg.looksB (by kernel_rfl))
   have hK := Lib.hid (Blk.new w 22 #[.int .u64 y])
   have hQ := Lib.hid hI.on.size
   have hW := Lib.hid (show Reg.Grow w (w.alloc (.cells #[.int .u64 y] 22)) from (Below.refl _ w).alloc (Nat.le_refl _) _)
   clear hF hI
   simp only [Array.getD_eq_getD_getElem?] at f1
   unfold Oper.wp
   simp only [execOp]
   go_simp
   exact ⟨_, rfl, ⟨_, rfl, hQ.out, hK.out⟩, hW.out⟩) ?_
  refine Reg.rely_call0 (Reg.Is (.string (Num.lebS y))) (Reg.stab_is _ _) (fun G hG => by cases hG) rfl (fun a w hI hF => by
   obtain ⟨gl, f1, hg1, hgl⟩ : ∃ gl, a.tmps.getD 40 undef = .slice (some ⟨gl, 0, none⟩) 1 1 ∧ V.heap.size ≤ gl ∧ Blk w gl 22 #[.int .u64 y] := hF 40 (Reg.looksB (by kernel_rfl))
   refine ⟨64, #[.slice (some ⟨gl, 0, none⟩) 1 1], ?_, (HW.out w gl hgl).mono fun e w' h => ⟨_, h.1, rfl, h.2⟩⟩
   clear hF hI hgl hg1
   simp only [Array.getD_eq_getD_getElem?] at f1
   simp only [execOp]; go_simp) ?_
  refine Reg.rely_turn (fun v w => w.ownsRow B 5 1 v (out' ++ Ms.bl (Num.lebS y)).length (Lib.byteCells (out' ++ Ms.bl (Num.lebS y)))) (PutG V.heap.size B (.slice pO out'.length cO)) (fun w => w.ownsRow B 5 1 (.slice pO out'.length cO) out'.length (Lib.byteCells out') ∧ B ≤ w.heap.size) (fun v w w' h hS => owns_below hS h) (fun G hG => by cases hG) (fun w w' h hI => hI.turn h) ?_ rfl (fun w w' h hJ => ⟨owns_below hJ.1 h, Nat.le_trans hJ.2 h.size⟩) ⟨HROW.out.1, HROW.out.2⟩ (fun G hG => by cases hG) (fun G hG => by cases hG) (fun a w hI hJ hF => ?_) ?_
  ·intro p hp
   repeat (rcases List.mem_cons.1 hp with rfl | hp; first | exact Reg.stab_is _ _ | exact fun v w w' h hS => by obtain ⟨gl, h1, h2, h3⟩ := hS; exact ⟨gl, h1, h2, h.keep h2 h3⟩)
   cases hp
  ·have f1 : a.tmps.getD 34 undef = .slice pO out'.length cO := hF 34 (Reg.looksB (by kernel_rfl))
   have f2 : a.tmps.getD 41 undef = .string (Num.lebS y) := hF 41 (Reg.looksB (by kernel_rfl))
   exact putRun (t := 48) (u := 9) (sl := .tmp 34) (x := .tmp 41) rfl Tryz.underlying48 Tryz.underlying9 info_u8 rfl f1 f2 hJ.1 HLEN.out hJ.2 HLT.out
  refine Reg.rely_is (.pointer (some ⟨k, 0, none⟩)) (fun a w hI hF => Reg.det_plain rfl ?_) ?_
  ·have f1 : a.tmps.getD 30 undef = .pointer (some ⟨k, 0, none⟩) := hF 30 (Reg.looksB (by kernel_rfl))
   clear hF hI
   simp only [Array.getD_eq_getD_getElem?] at f1
   simp only [execOp]; go_simp
  refine Reg.rely_is (.pointer (some ⟨k, 1, none⟩)) (fun a w hI hF => Reg.det_plain rfl ?_) ?_
  ·have f1 : a.tmps.getD 43 undef = .pointer (some ⟨k, 0, none⟩) := hF 43 (Reg.looksB (by kernel_rfl))
   clear hF hI
   simp only [Array.getD_eq_getD_getElem?] at f1
   simp only [execOp]; go_simp
  refine Reg.rely_nil ?_
  refine Reg.final_is ?_
  refine Reg.final_is ?_
  refine Reg.final_rel (fun v12 => ?_)
  refine Reg.final_is ?_
  refine Reg.final_rel (fun v10 => ?_)
  refine Reg.final_is ?_
  refine Reg.final_is ?_
  refine Reg.final_is ?_
  refine Reg.final_is ?_
  refine Reg.final_is ?_
  refine Reg.final_is ?_
  refine Reg.final_is ?_
  refine Reg.final_is ?_
  refine Reg.final_is ?_
  refine Reg.final_is ?_
  refine Reg.final_nil (fun w9 hF => ?_)
  have HI9 := Lib.hid hF.1.1
  have HS9 := Lib.hid hF.1.2
  clear hF
  simp only [List.drop_succ_cons, List.drop_zero]
  go_simp
  have d1 : w9.cell? ⟨k, 1, none⟩ = some (.slice pO out'.length cO) := by rw [HI9.out.kb.cell 1]; rfl
  have f1 := HI9.out.kb.frozen 1
  obtain ⟨p9, c9, rfl⟩ := owns_slice HS9.out
  generalize hl9 : (out' ++ Ms.bl (Num.lebS y)).length = l9
  have HL9 := Lib.hid hl9
  clear hl9
  go_wp2_with fail
  refine Reg.fin (by kernel_rfl) ?_
  go_upto_region 3 with fail
  have hkw := KWr.put2 HI9.out.kb HGE.out HS9.out
  rw [HL9.out] at hkw
  have HKW := Lib.hid (HFB.out hkw.1)
  have HON := Lib.hid (HOV.out.trans (HI9.out.on.trans hkw.2))
  have x3 := HON.out.cell HG.out HX.out
  clear hkw HI9 HS9 HRV HBV HOV HAV HI0 HROW HLT HW HLEN HFB d1 f1
  generalize World.setCell w9 _ _ = W at *
  have hz0 : LwRel w B k n OUT BAD LL (.int .i64 0) W := ⟨0, Nat.zero_le _, rfl, HKW.out, HON.out⟩
  clear HKW
  go_wp2
  go_loopw [49] (fun u wr => LwRel w B k n OUT BAD LL u wr) (fun u _ => ((n : Int) - intOf u).toNat)
  case atStart => exact hz0
  case round =>
   clear hz0 x3
   obtain ⟨i, hi1, rfl, hK, hO⟩ := hrel
   have HK := Lib.hid hK
   have HOi := Lib.hid hO
   have x4 := hO.cell HG.out HX.out
   clear hK hO
   by_cases hi : i < n
   ·obtain ⟨b, off, rfl, hbl⟩ := HP.out (by omega)
    have HC := Lib.hid (HN.out b off rfl i hi _ HOi.out HK.out)
    have hb9 := Nat.lt_of_lt_of_le hbl HOi.out.size
    have hki : (i : Int) < (n : Int) := by omega
    have hki0 : (0 : Int) ≤ (i : Int) := by omega
    have hn9 := HNB.out
    clear HN
    go_wp2_with (go_at_call 96; go_loud ((with_reducible refine HC.out.mono ?_); rintro e w5 ⟨rfl, h5, o5⟩; have H5 := Lib.hid h5; have O5 := Lib.hid (HOi.out.trans o5); clear h5 o5))
    go_roundw
    case rel => exact ⟨i + 1, by omega, rfl, H5.out, O5.out⟩
    case measure => simp [intOf]; omega
   ·have : i = n := by omega
    subst this
    go_wp2_with fail
    go_end0
    exact ⟨rfl, HK.out, HOi.out⟩
 | false =>
  have hbb2 : decide (most < (n : Int)) = bb := by rw [← hbb]; rfl
  clear hbb
  go_enter Tryz.func95, Tryz.ntmps95
  go_upto_region 2 with fail
  have OV : Only (· = k) w (w.setCell ⟨k, 2, none⟩ (.bool bb)) := (Only.refl _ w).set1
  have HBV : Hid (Blk (w.setCell ⟨k, 2, none⟩ (.bool bb)) k 58 #[.pointer none, .slice pO out'.length cO, .bool bb]) := Lib.hid (HBK.out.set 2 (.bool bb))
  have HRV := Lib.hid (owns_only HRW.out OV (owns_ne HRW.out HBK.out (by decide)))
  have HOV : Hid (OnW B k w (w.setCell ⟨k, 2, none⟩ (.bool bb))) := Lib.hid (OV.mono fun j _ e => .inl e)
  have y1 := HOV.out.cell HG.out hx
  have HAV := Lib.hid (HG.out.onW HOV.out (World.block_lt_of_cell? _ _ hx))
  have HBS : Hid (B ≤ ((w.setCell ⟨k, 2, none⟩ (.bool bb))).heap.size) := Lib.hid (Nat.le_trans HB.out OV.size)
  clear OV c0 c1 c2 cf hx
  generalize (w.setCell ⟨k, 2, none⟩ (.bool bb)) = V at *
  have HI0 : Hid (PutI V B k g o (.slice pO out'.length cO) bb (.slice pX n cX) V) := Lib.hid ⟨HBV.out, y1, OnW.refl _ _ _, HAV.out⟩
  have HROW : Hid (V.drew.ownsRow B 5 1 (.slice pO out'.length cO) out'.length (Lib.byteCells out') ∧ B ≤ V.drew.heap.size) := Lib.hid ⟨HRV.out, HBS.out⟩
  have HLT : Hid (∀ j, (Value.slice pO out'.length cO).ownBlock = some j → j < V.heap.size) := Lib.hid fun j hj => (owns_type HRV.out hj).choose_spec.2.2
  clear y1
  refine Reg.wp_rely 15 (PutI V B k g o (.slice pO out'.length cO) bb (.slice pX n cX)) (by kernel_rfl) (Reg.relyOk_of (by kernel_rfl)) HI0.out.drew (fun w w' h hI => hI.below h) ?_
  refine Reg.rely_plain (.pointer (some ⟨k, 0, none⟩)) rfl (fun a w hI hF => by
    have f1 : a.tmps.getD 0 undef = .pointer (some ⟨k, 0, none⟩) := hF 0 (Reg.looksB (by kernel_rfl))
    clear hF hI
    simp only [Array.getD_eq_getD_getElem?] at f1
    simp only [execOp]; go_simp) ?_
  refine Reg.rely_plain (.pointer (some ⟨k, 0, none⟩)) rfl (fun a w hI hF => by
    have f1 : a.tmps.getD 0 undef = .pointer (some ⟨k, 0, none⟩) := hF 0 (Reg.looksB (by kernel_rfl))
    clear hF hI
    simp only [Array.getD_eq_getD_getElem?] at f1
    simp only [execOp]; go_simp) ?_
  refine Reg.rely_plain (.pointer (some ⟨k, 0, none⟩)) rfl (fun a w hI hF => by
    have f1 : a.tmps.getD 31 undef = .pointer (some ⟨k, 0, none⟩) := hF 31 (Reg.looksB (by kernel_rfl))
    clear hF hI
    simp only [Array.getD_eq_getD_getElem?] at f1
    simp only [execOp]; go_simp) ?_
  refine Reg.rely_plain (.pointer (some ⟨k, 1, none⟩)) rfl (fun a w hI hF => by
    have f1 : a.tmps.getD 32 undef = .pointer (some ⟨k, 0, none⟩) := hF 32 (Reg.looksB (by kernel_rfl))
    clear hF hI
    simp only [Array.getD_eq_getD_getElem?] at f1
    simp only [execOp]; go_simp) ?_
  refine Reg.rely_plain (.slice pO out'.length cO) rfl (fun a w hI hF => by
    have f1 : a.tmps.getD 33 undef = .pointer (some ⟨k, 1, none⟩) := hF 33 (Reg.looksB (by kernel_rfl))
    have hc : w.cell? ⟨k, 1, none⟩ = some (.slice pO out'.length cO) := by rw [hI.kb.cell 1]; rfl
    clear hF hI
    simp only [Array.getD_eq_getD_getElem?] at f1
    simp only [execOp]; go_simp) ?_
  refine Reg.rely_plain (.pointer (some ⟨g, o, none⟩)) rfl (fun a w hI hF => by
    have f1 : a.tmps.getD 1 undef = .pointer (some ⟨g, o, none⟩) := hF 1 (Reg.looksB (by kernel_rfl))
    clear hF hI
    simp only [Array.getD_eq_getD_getElem?] at f1
    simp only [execOp]; go_simp) ?_
  refine Reg.rely_plain (.pointer (some ⟨g, o, none⟩)) rfl (fun a w hI hF => by
    have f1 : a.tmps.getD 35 undef = .pointer (some ⟨g, o, none⟩) := hF 35 (Reg.looksB (by kernel_rfl))
    clear hF hI
    simp only [Array.getD_eq_getD_getElem?] at f1
    simp only [execOp]; go_simp) ?_
  refine Reg.rely_plain (.slice pX n cX) rfl (fun a w hI hF => by
    have f1 : a.tmps.getD 36 undef = .pointer (some ⟨g, o, none⟩) := hF 36 (Reg.looksB (by kernel_rfl))
    have hc := hI.cell
    clear hF hI
    simp only [Array.getD_eq_getD_getElem?] at f1
    simp only [execOp]; go_simp) ?_
  refine Reg.rely_plain (.int .i64 n) rfl (fun a w hI hF => by
    have f1 : a.tmps.getD 37 undef = .slice pX n cX := hF 37 (Reg.looksB (by kernel_rfl))
    clear hF hI
    simp only [Array.getD_eq_getD_getElem?] at f1
    simp only [execOp]; go_simp) ?_
  refine Reg.rely_plain (.int .u64 y) rfl (fun a w hI hF => by
    have f1 : a.tmps.getD 38 undef = .int .i64 n := hF 38 (Reg.looksB (by kernel_rfl))
    clear hF hI
    simp only [Array.getD_eq_getD_getElem?] at f1
    simp only [execOp]; go_simp) ?_
  refine Reg.rely_rel (fun v w => ∃ gl, v = .slice (some ⟨gl, 0, none⟩) 1 1 ∧ V.heap.size ≤ gl ∧ Blk w gl 22 #[.int .u64 y]) (fun v w w' h hS => by obtain ⟨gl, h1, h2, h3⟩ := hS; exact ⟨gl, h1, h2, h3.below h⟩) (fun G hG => by cases hG) rfl (fun a w hI hF => by
   have f1 : a.tmps.getD 39 undef = .int .u64 y := hF 39 (Reg.looksB (by kernel_rfl))
   have hK := Lib.hid (Blk.new w 22 #[.int .u64 y])
   have hQ := Lib.hid hI.on.size
   have hW := Lib.hid (show Reg.Grow w (w.alloc (.cells #[.int .u64 y] 22)) from (Below.refl _ w).alloc (Nat.le_refl _) _)
   clear hF hI
   simp only [Array.getD_eq_getD_getElem?] at f1
   unfold Oper.wp
   simp only [execOp]
   go_simp
   exact ⟨_, rfl, ⟨_, rfl, hQ.out, hK.out⟩, hW.out⟩) ?_
  refine Reg.rely_call0 (Reg.Is (.string (Num.lebS y))) (Reg.stab_is _ _) (fun G hG => by cases hG) rfl (fun a w hI hF => by
   obtain ⟨gl, f1, hg1, hgl⟩ : ∃ gl, a.tmps.getD 40 undef = .slice (some ⟨gl, 0, none⟩) 1 1 ∧ V.heap.size ≤ gl ∧ Blk w gl 22 #[.int .u64 y] := hF 40 (Reg.looksB (by kernel_rfl))
   refine ⟨64, #[.slice (some ⟨gl, 0, none⟩) 1 1], ?_, (HW.out w gl hgl).mono fun e w' h => ⟨_, h.1, rfl, h.2⟩⟩
   clear hF hI hgl hg1
   simp only [Array.getD_eq_getD_getElem?] at f1
   simp only [execOp]; go_simp) ?_
  refine Reg.rely_turn (fun v w => w.ownsRow B 5 1 v (out' ++ Ms.bl (Num.lebS y)).length (Lib.byteCells (out' ++ Ms.bl (Num.lebS y)))) (PutG V.heap.size B (.slice pO out'.length cO)) (fun w => w.ownsRow B 5 1 (.slice pO out'.length cO) out'.length (Lib.byteCells out') ∧ B ≤ w.heap.size) (fun v w w' h hS => owns_below hS h) (fun G hG => by cases hG) (fun w w' h hI => hI.turn h) ?_ rfl (fun w w' h hJ => ⟨owns_below hJ.1 h, Nat.le_trans hJ.2 h.size⟩) ⟨HROW.out.1, HROW.out.2⟩ (fun G hG => by cases hG) (fun G hG => by cases hG) (fun a w hI hJ hF => ?_) ?_
  ·intro p hp
   repeat (rcases List.mem_cons.1 hp with rfl | hp; first | exact Reg.stab_is _ _ | exact fun v w w' h hS => by obtain ⟨gl, h1, h2, h3⟩ := hS; exact ⟨gl, h1, h2, h.keep h2 h3⟩)
   cases hp
  ·have f1 : a.tmps.getD 34 undef = .slice pO out'.length cO := hF 34 (Reg.looksB (by kernel_rfl))
   have f2 : a.tmps.getD 41 undef = .string (Num.lebS y) := hF 41 (Reg.looksB (by kernel_rfl))
   exact putRun (t := 48) (u := 9) (sl := .tmp 34) (x := .tmp 41) rfl Tryz.underlying48 Tryz.underlying9 info_u8 rfl f1 f2 hJ.1 HLEN.out hJ.2 HLT.out
  refine Reg.rely_is (.pointer (some ⟨k, 0, none⟩)) (fun a w hI hF => Reg.det_plain rfl ?_) ?_
  ·have f1 : a.tmps.getD 30 undef = .pointer (some ⟨k, 0, none⟩) := hF 30 (Reg.looksB (by kernel_rfl))
   clear hF hI
   simp only [Array.getD_eq_getD_getElem?] at f1
   simp only [execOp]; go_simp
  refine Reg.rely_is (.pointer (some ⟨k, 1, none⟩)) (fun a w hI hF => Reg.det_plain rfl ?_) ?_
  ·have f1 : a.tmps.getD 43 undef = .pointer (some ⟨k, 0, none⟩) := hF 43 (Reg.looksB (by kernel_rfl))
   clear hF hI
   simp only [Array.getD_eq_getD_getElem?] at f1
   simp only [execOp]; go_simp
  refine Reg.rely_nil ?_
  refine Reg.final_is ?_
  refine Reg.final_is ?_
  refine Reg.final_rel (fun v12 => ?_)
  refine Reg.final_is ?_
  refine Reg.final_rel (fun v10 => ?_)
  refine Reg.final_is ?_
  refine Reg.final_is ?_
  refine Reg.final_is ?_
  refine Reg.final_is ?_
  refine Reg.final_is ?_
  refine Reg.final_is ?_
  refine Reg.final_is ?_
  refine Reg.final_is ?_
  refine Reg.final_is ?_
  refine Reg.final_is ?_
  refine Reg.final_nil (fun w9 hF => ?_)
  have HI9 := Lib.hid hF.1.1
  have HS9 := Lib.hid hF.1.2
  clear hF
  simp only [List.drop_succ_cons, List.drop_zero]
  go_simp
  have d1 : w9.cell? ⟨k, 1, none⟩ = some (.slice pO out'.length cO) := by rw [HI9.out.kb.cell 1]; rfl
  have f1 := HI9.out.kb.frozen 1
  obtain ⟨p9, c9, rfl⟩ := owns_slice HS9.out
  generalize hl9 : (out' ++ Ms.bl (Num.lebS y)).length = l9
  have HL9 := Lib.hid hl9
  clear hl9
  go_wp2_with fail
  refine Reg.fin (by kernel_rfl) ?_
  go_upto_region 3 with fail
  have hkw := KWr.put2 HI9.out.kb HGE.out HS9.out
  rw [HL9.out] at hkw
  have HKW := Lib.hid (HFB.out hkw.1)
  have HON := Lib.hid (HOV.out.trans (HI9.out.on.trans hkw.2))
  have x3 := HON.out.cell HG.out HX.out
  clear hkw HI9 HS9 HRV HBV HOV HAV HI0 HROW HLT HW HLEN HFB d1 f1
  generalize World.setCell w9 _ _ = W at *
  have hz0 : LwRel w B k n OUT BAD LL (.int .i64 0) W := ⟨0, Nat.zero_le _, rfl, HKW.out, HON.out⟩
  clear HKW
  go_wp2
  go_loopw [49] (fun u wr => LwRel w B k n OUT BAD LL u wr) (fun u _ => ((n : Int) - intOf u).toNat)
  case atStart => exact hz0
  case round =>
   clear hz0 x3
   obtain ⟨i, hi1, rfl, hK, hO⟩ := hrel
   have HK := Lib.hid hK
   have HOi := Lib.hid hO
   have x4 := hO.cell HG.out HX.out
   clear hK hO
   by_cases hi : i < n
   ·obtain ⟨b, off, rfl, hbl⟩ := HP.out (by omega)
    have HC := Lib.hid (HN.out b off rfl i hi _ HOi.out HK.out)
    have hb9 := Nat.lt_of_lt_of_le hbl HOi.out.size
    have hki : (i : Int) < (n : Int) := by omega
    have hki0 : (0 : Int) ≤ (i : Int) := by omega
    have hn9 := HNB.out
    clear HN
    go_wp2_with (go_at_call 96; go_loud ((with_reducible refine HC.out.mono ?_); rintro e w5 ⟨rfl, h5, o5⟩; have H5 := Lib.hid h5; have O5 := Lib.hid (HOi.out.trans o5); clear h5 o5))
    go_roundw
    case rel => exact ⟨i + 1, by omega, rfl, H5.out, O5.out⟩
    case measure => simp [intOf]; omega
   ·have : i = n := by omega
    subst this
    go_wp2_with fail
    go_end0
    exact ⟨rfl, HK.out, HOi.out⟩
end
end Go.Proofs.YtghbjknpffiaiaaGreat

namespace Go.Proofs.YtghbjknpffiaiaaGreat
open Go.RowKit Wire Ms
set_option linter.unusedVariables false
set_option linter.unusedSimpArgs false
section
variable {w : World} {B k g o : Nat} {out : Ls} {bad : Bool} {L : Nat}
set_option maxRecDepth 100000 in
set_option maxHeartbeats 4000000 in
theorem listw_u64 {n : Nat} {pX : Option Addr} {cX : Nat} {most : Int} {OUT : Nat → Ls} {BAD : Nat → Bool} {LL : Nat → Nat} {bx : Nat} (c : KWb w B k out bad L) (hB : B ≤ w.heap.size) (hL : L ≤ 1000000000) (hx : w.cell? ⟨g, o, none⟩ = some (.slice pX n cX)) (hg : Away w B k g) (hr : n ≤ 140737488355328)
  (hz : OUT 0 = out ++ Num.leb n ∧ BAD 0 = (bad || decide (most < (n : Int))) ∧ LL 0 = L + 10) (hp : 0 < n → ∃ b off, pX = some ⟨b, off, none⟩ ∧ b < w.heap.size)
  (hone : ∀ b off, pX = some ⟨b, off, none⟩ → ∀ i, i < n → ∀ w', OnW B k w w' → KWb w' B k (OUT i) (BAD i) (LL i) → Calls Tryz.prog 92 #[.pointer (some ⟨b, off + i, none⟩), .pointer (some ⟨bx, 0, none⟩)] w' (WrP w' B k (OUT (i + 1)) (BAD (i + 1)) (LL (i + 1)))) :
  Calls Tryz.prog 91 #[.pointer (some ⟨k, 0, none⟩), .pointer (some ⟨g, o, none⟩), .int .i64 most, .func (.func 92) #[] #[.pointer (some ⟨bx, 0, none⟩)]] w (WrP w B k (OUT n) (BAD n) (LL n)) := by
 obtain ⟨hz1, hz2, hz3⟩ := hz
 have HX := Lib.hid hx
 have HP := Lib.hid hp
 have HN := Lib.hid hone
 clear hp hone
 obtain ⟨out', c, ho, hl⟩ := c
 obtain ⟨vO, h1, h2, h3⟩ := c
 obtain ⟨pO, cO, rfl⟩ := owns_slice h2
 have c0 : w.cell? ⟨k, 0, none⟩ = some (.pointer none) := by rw [h1.cell 0]; rfl
 have c1 : w.cell? ⟨k, 1, none⟩ = some (.slice pO out'.length cO) := by rw [h1.cell 1]; rfl
 have c2 : w.cell? ⟨k, 2, none⟩ = some (.bool bad) := by rw [h1.cell 2]; rfl
 have cf := h1.frozen
 have HBK := Lib.hid h1
 have HRW := Lib.hid h2
 have HGE := Lib.hid h3
 have HG := Lib.hid hg
 have HO := Lib.hid (And.intro ho hl)
 have HL := Lib.hid hL
 have HB := Lib.hid hB
 have hyy : U64 (IntKind.u64.wrap (n : Int)) ∧ IntKind.u64.wrap (n : Int) = n := by rw [IntKind.wrap_u64]; unfold U64; omega
 obtain ⟨y, hy⟩ : ∃ y, IntKind.u64.wrap (n : Int) = y := ⟨_, rfl⟩
 rw [hy] at hyy
 have HY := Lib.hid hyy
 obtain ⟨bb, hbb⟩ : ∃ bb, (bad || decide (most < (n : Int))) = bb := ⟨_, rfl⟩
 rw [hbb] at hz2
 have HBB := Lib.hid hbb
 have HLEN : Hid (out'.length + (Num.lebS y).size ≤ 140737488355328) := Lib.hid (by have := lebS_size HY.out.1.2; have := HO.out.2; have := HL.out; omega)
 have HFB : Hid (∀ {W : World}, KWr W B k (out' ++ Ms.bl (Num.lebS y)) bb → KWb W B k (OUT 0) (BAD 0) (LL 0)) := Lib.hid fun h => by
  rw [hz1, hz2, hz3]
  exact KWr.kwb h HO.out.1 HO.out.2 (fun e => by
   have h := HBB.out
   rw [e, Bool.or_eq_false_iff] at h
   refine ⟨h.1, ?_⟩
   rw [Ms.bl_leb, HY.out.2]
   rfl) (by rw [Ms.bl_len]; exact lebS_size HY.out.1.2)
 have HW : Hid (∀ (w : World) gl, Blk w gl 22 #[.int .u64 y] → Calls Tryz.prog 64 #[.slice (some ⟨gl, 0, none⟩) 1 1] w (StPost (Num.lebS y) w)) := Lib.hid fun w gl h => uintsB HY.out.1 h
 have HNB := Lib.hid hr
 clear h1 h2 h3 hg ho hl hL hB hyy hr hz1 hz2 hz3
 cases bad with
 | true =>
  have hbt : bb = true := by rw [← hbb]; rfl
  clear hbb
  subst hbt
  go_enter Tryz.func91, Tryz.ntmps91
  go_upto_region 2 with fail
  have OV : Only (· = k) w (w.setCell ⟨k, 2, none⟩ (.bool true)) := (Only.refl _ w).set1
  have HBV : Hid (Blk (w.setCell ⟨k, 2, none⟩ (.bool true)) k 58 #[.pointer none, .slice pO out'.length cO, .bool true]) := Lib.hid (HBK.out.set 2 (.bool true))
  have HRV := Lib.hid (owns_only HRW.out OV (owns_ne HRW.out HBK.out (by decide)))
  have HOV : Hid (OnW B k w (w.setCell ⟨k, 2, none⟩ (.bool true))) := Lib.hid (OV.mono fun j _ e => .inl e)
  have y1 := HOV.out.cell HG.out hx
  have HAV := Lib.hid (HG.out.onW HOV.out (World.block_lt_of_cell? _ _ hx))
  have HBS : Hid (B ≤ ((w.setCell ⟨k, 2, none⟩ (.bool true))).heap.size) := Lib.hid (Nat.le_trans HB.out OV.size)
  clear OV c0 c1 c2 cf hx
  generalize (w.setCell ⟨k, 2, none⟩ (.bool true)) = V at *
  have HI0 : Hid (PutI V B k g o (.slice pO out'.length cO) true (.slice pX n cX) V) := Lib.hid ⟨HBV.out, y1, OnW.refl _ _ _, HAV.out⟩
  have HROW : Hid (V.drew.ownsRow B 5 1 (.slice pO out'.length cO) out'.length (Lib.byteCells out') ∧ B ≤ V.drew.heap.size) := Lib.hid ⟨HRV.out, HBS.out⟩
  have HLT : Hid (∀ j, (Value.slice pO out'.length cO).ownBlock = some j → j < V.heap.size) := Lib.hid fun j hj => (owns_type HRV.out hj).choose_spec.2.2
  clear y1
  refine Reg.wp_rely 15 (PutI V B k g o (.slice pO out'.length cO) true (.slice pX n cX)) (by kernel_rfl) (Reg.relyOk_of (by kernel_rfl)) HI0.out.drew (fun w w' h hI => hI.below h) ?_
  refine Reg.rely_plain (.pointer (some ⟨k, 0, none⟩)) rfl (fun a w hI hF => by
    have f1 : a.tmps.getD 0 undef = .pointer (some ⟨k, 0, none⟩) := hF 0 (Reg.looksB (by kernel_rfl))
    clear hF hI
    simp only [Array.getD_eq_getD_getElem?] at f1
    simp only [execOp]; go_simp) ?_
  refine Reg.rely_plain (.pointer (some ⟨k, 0, none⟩)) rfl (fun a w hI hF => by
    have f1 : a.tmps.getD 0 undef = .pointer (some ⟨k, 0, none⟩) := hF 0 (Reg.looksB (by kernel_rfl))
    clear hF hI
    simp only [Array.getD_eq_getD_getElem?] at f1
    simp only [execOp]; go_simp) ?_
  refine Reg.rely_plain (.pointer (some ⟨k, 0, none⟩)) rfl (fun a w hI hF => by
    have f1 : a.tmps.getD 31 undef = .pointer (some ⟨k, 0, none⟩) := hF 31 (Reg.looksB (by kernel_rfl))
    clear hF hI
    simp only [Array.getD_eq_getD_getElem?] at f1
    simp only [execOp]; go_simp) ?_
  refine Reg.rely_plain (.pointer (some ⟨k, 1, none⟩)) rfl (fun a w hI hF => by
    have f1 : a.tmps.getD 32 undef = .pointer (some ⟨k, 0, none⟩) := hF 32 (Reg.looksB (by kernel_rfl))
    clear hF hI
    simp only [Array.getD_eq_getD_getElem?] at f1
    simp only [execOp]; go_simp) ?_
  refine Reg.rely_plain (.slice pO out'.length cO) rfl (fun a w hI hF => by
    have f1 : a.tmps.getD 33 undef = .pointer (some ⟨k, 1, none⟩) := hF 33 (Reg.looksB (by kernel_rfl))
    have hc : w.cell? ⟨k, 1, none⟩ = some (.slice pO out'.length cO) := by rw [hI.kb.cell 1]; rfl
    clear hF hI
    simp only [Array.getD_eq_getD_getElem?] at f1
    simp only [execOp]; go_simp) ?_
  refine Reg.rely_plain (.pointer (some ⟨g, o, none⟩)) rfl (fun a w hI hF => by
    have f1 : a.tmps.getD 1 undef = .pointer (some ⟨g, o, none⟩) := hF 1 (Reg.looksB (by kernel_rfl))
    clear hF hI
    simp only [Array.getD_eq_getD_getElem?] at f1
    simp only [execOp]; go_simp) ?_
  refine Reg.rely_plain (.pointer (some ⟨g, o, none⟩)) rfl (fun a w hI hF => by
    have f1 : a.tmps.getD 35 undef = .pointer (some ⟨g, o, none⟩) := hF 35 (Reg.looksB (by kernel_rfl))
    clear hF hI
    simp only [Array.getD_eq_getD_getElem?] at f1
    simp only [execOp]; go_simp) ?_
  refine Reg.rely_plain (.slice pX n cX) rfl (fun a w hI hF => by
    have f1 : a.tmps.getD 36 undef = .pointer (some ⟨g, o, none⟩) := hF 36 (Reg.looksB (by kernel_rfl))
    have hc := hI.cell
    clear hF hI
    simp only [Array.getD_eq_getD_getElem?] at f1
    simp only [execOp]; go_simp) ?_
  refine Reg.rely_plain (.int .i64 n) rfl (fun a w hI hF => by
    have f1 : a.tmps.getD 37 undef = .slice pX n cX := hF 37 (Reg.looksB (by kernel_rfl))
    clear hF hI
    simp only [Array.getD_eq_getD_getElem?] at f1
    simp only [execOp]; go_simp) ?_
  refine Reg.rely_plain (.int .u64 y) rfl (fun a w hI hF => by
    have f1 : a.tmps.getD 38 undef = .int .i64 n := hF 38 (Reg.looksB (by kernel_rfl))
    clear hF hI
    simp only [Array.getD_eq_getD_getElem?] at f1
    simp only [execOp]; go_simp) ?_
  refine Reg.rely_rel (fun v w => ∃ gl, v = .slice (some ⟨gl, 0, none⟩) 1 1 ∧ V.heap.size ≤ gl ∧ Blk w gl 22 #[.int .u64 y]) (fun v w w' h hS => by obtain ⟨gl, h1, h2, h3⟩ := hS; exact ⟨gl, h1, h2, h3.below h⟩) (fun G hG => by cases hG) rfl (fun a w hI hF => by
   have f1 : a.tmps.getD 39 undef = .int .u64 y := hF 39 (Reg.looksB (by kernel_rfl))
   have hK := Lib.hid (Blk.new w 22 #[.int .u64 y])
   have hQ := Lib.hid hI.on.size
   have hW := Lib.hid (show Reg.Grow w (w.alloc (.cells #[.int .u64 y] 22)) from (Below.refl _ w).alloc (Nat.le_refl _) _)
   clear hF hI
   simp only [Array.getD_eq_getD_getElem?] at f1
   unfold Oper.wp
   simp only [execOp]
   go_simp
   exact ⟨_, rfl, ⟨_, rfl, hQ.out, hK.out⟩, hW.out⟩) ?_
  refine Reg.rely_call0 (Reg.Is (.string (Num.lebS y))) (Reg.stab_is _ _) (fun G hG => by cases hG) rfl (fun a w hI hF => by
   obtain ⟨gl, f1, hg1, hgl⟩ : ∃ gl, a.tmps.getD 40 undef = .slice (some ⟨gl, 0, none⟩) 1 1 ∧ V.heap.size ≤ gl ∧ Blk w gl 22 #[.int .u64 y] := hF 40 (Reg.looksB (by kernel_rfl))
   refine ⟨64, #[.slice (some ⟨gl, 0, none⟩) 1 1], ?_, (HW.out w gl hgl).mono fun e w' h => ⟨_, h.1, rfl, h.2⟩⟩
   clear hF hI hgl hg1
   simp only [Array.getD_eq_getD_getElem?] at f1
   simp only [execOp]; go_simp) ?_
  refine Reg.rely_turn (fun v w => w.ownsRow B 5 1 v (out' ++ Ms.bl (Num.lebS y)).length (Lib.byteCells (out' ++ Ms.bl (Num.lebS y)))) (PutG V.heap.size B (.slice pO out'.length cO)) (fun w => w.ownsRow B 5 1 (.slice pO out'.length cO) out'.length (Lib.byteCells out') ∧ B ≤ w.heap.size) (fun v w w' h hS => owns_below hS h) (fun G hG => by cases hG) (fun w w' h hI => hI.turn h) ?_ rfl (fun w w' h hJ => ⟨owns_below hJ.1 h, Nat.le_trans hJ.2 h.size⟩) ⟨HROW.out.1, HROW.out.2⟩ (fun G hG => by cases hG) (fun G hG => by cases hG) (fun a w hI hJ hF => ?_) ?_
  ·intro p hp
   repeat (rcases List.mem_cons.1 hp with rfl | hp; first | exact Reg.stab_is _ _ | exact fun v w w' h hS => by obtain ⟨gl, h1, h2, h3⟩ := hS; exact ⟨gl, h1, h2, h.keep h2 h3⟩)
   cases hp
  ·have f1 : a.tmps.getD 34 undef = .slice pO out'.length cO := hF 34 (Reg.looksB (by kernel_rfl))
   have f2 : a.tmps.getD 41 undef = .string (Num.lebS y) := hF 41 (Reg.looksB (by kernel_rfl))
   exact putRun (t := 48) (u := 9) (sl := .tmp 34) (x := .tmp 41) rfl Tryz.underlying48 Tryz.underlying9 info_u8 rfl f1 f2 hJ.1 HLEN.out hJ.2 HLT.out
  refine Reg.rely_is (.pointer (some ⟨k, 0, none⟩)) (fun a w hI hF => Reg.det_plain rfl ?_) ?_
  ·have f1 : a.tmps.getD 30 undef = .pointer (some ⟨k, 0, none⟩) := hF 30 (Reg.looksB (by kernel_rfl))
   clear hF hI
   simp only [Array.getD_eq_getD_getElem?] at f1
   simp only [execOp]; go_simp
  refine Reg.rely_is (.pointer (some ⟨k, 1, none⟩)) (fun a w hI hF => Reg.det_plain rfl ?_) ?_
  ·have f1 : a.tmps.getD 43 undef = .pointer (some ⟨k, 0, none⟩) := hF 43 (Reg.looksB (by kernel_rfl))
   clear hF hI
   simp only [Array.getD_eq_getD_getElem?] at f1
   simp only [execOp]; go_simp
  refine Reg.rely_nil ?_
  refine Reg.final_is ?_
  refine Reg.final_is ?_
  refine Reg.final_rel (fun v12 => ?_)
  refine Reg.final_is ?_
  refine Reg.final_rel (fun v10 => ?_)
  refine Reg.final_is ?_
  refine Reg.final_is ?_
  refine Reg.final_is ?_
  refine Reg.final_is ?_
  refine Reg.final_is ?_
  refine Reg.final_is ?_
  refine Reg.final_is ?_
  refine Reg.final_is ?_
  refine Reg.final_is ?_
  refine Reg.final_is ?_
  refine Reg.final_nil (fun w9 hF => ?_)
  have HI9 := Lib.hid hF.1.1
  have HS9 := Lib.hid hF.1.2
  clear hF
  simp only [List.drop_succ_cons, List.drop_zero]
  go_simp
  have d1 : w9.cell? ⟨k, 1, none⟩ = some (.slice pO out'.length cO) := by rw [HI9.out.kb.cell 1]; rfl
  have f1 := HI9.out.kb.frozen 1
  obtain ⟨p9, c9, rfl⟩ := owns_slice HS9.out
  generalize hl9 : (out' ++ Ms.bl (Num.lebS y)).length = l9
  have HL9 := Lib.hid hl9
  clear hl9
  go_wp2_with fail
  refine Reg.fin (by kernel_rfl) ?_
  go_upto_region 3 with fail
  have hkw := KWr.put2 HI9.out.kb HGE.out HS9.out
  rw [HL9.out] at hkw
  have HKW := Lib.hid (HFB.out hkw.1)
  have HON := Lib.hid (HOV.out.trans (HI9.out.on.trans hkw.2))
  have x3 := HON.out.cell HG.out HX.out
  clear hkw HI9 HS9 HRV HBV HOV HAV HI0 HROW HLT HW HLEN HFB d1 f1
  generalize World.setCell w9 _ _ = W at *
  have hz0 : LwRel w B k n OUT BAD LL (.int .i64 0) W := ⟨0, Nat.zero_le _, rfl, HKW.out, HON.out⟩
  clear HKW
  go_wp2
  go_loopw [49] (fun u wr => LwRel w B k n OUT BAD LL u wr) (fun u _ => ((n : Int) - intOf u).toNat)
  case atStart => exact hz0
  case round =>
   clear hz0 x3
   obtain ⟨i, hi1, rfl, hK, hO⟩ := hrel
   have HK := Lib.hid hK
   have HOi := Lib.hid hO
   have x4 := hO.cell HG.out HX.out
   clear hK hO
   by_cases hi : i < n
   ·obtain ⟨b, off, rfl, hbl⟩ := HP.out (by omega)
    have HC := Lib.hid (HN.out b off rfl i hi _ HOi.out HK.out)
    have hb9 := Nat.lt_of_lt_of_le hbl HOi.out.size
    have hki : (i : Int) < (n : Int) := by omega
    have hki0 : (0 : Int) ≤ (i : Int) := by omega
    have hn9 := HNB.out
    clear HN
    go_wp2_with (go_at_call 92; go_loud ((with_reducible refine HC.out.mono ?_); rintro e w5 ⟨rfl, h5, o5⟩; have H5 := Lib.hid h5; have O5 := Lib.hid (HOi.out.trans o5); clear h5 o5))
    go_roundw
    case rel => exact ⟨i + 1, by omega, rfl, H5.out, O5.out⟩
    case measure => simp [intOf]; omega
   ·have : i = n := by omega
    subst this
    go_wp2_with fail
    go_end0
    exact ⟨rfl, HK.out, HOi.out⟩
 | false =>
  have hbb2 : decide (most < (n : Int)) = bb := by rw [← hbb]; rfl
  clear hbb
  go_enter Tryz.func91, Tryz.ntmps91
  go_upto_region 2 with fail
  have OV : Only (· = k) w (w.setCell ⟨k, 2, none⟩ (.bool bb)) := (Only.refl _ w).set1
  have HBV : Hid (Blk (w.setCell ⟨k, 2, none⟩ (.bool bb)) k 58 #[.pointer none, .slice pO out'.length cO, .bool bb]) := Lib.hid (HBK.out.set 2 (.bool bb))
  have HRV := Lib.hid (owns_only HRW.out OV (owns_ne HRW.out HBK.out (by decide)))
  have HOV : Hid (OnW B k w (w.setCell ⟨k, 2, none⟩ (.bool bb))) := Lib.hid (OV.mono fun j _ e => .inl e)
  have y1 := HOV.out.cell HG.out hx
  have HAV := Lib.hid (HG.out.onW HOV.out (World.block_lt_of_cell? _ _ hx))
  have HBS : Hid (B ≤ ((w.setCell ⟨k, 2, none⟩ (.bool bb))).heap.size) := Lib.hid (Nat.le_trans HB.out OV.size)
  clear OV c0 c1 c2 cf hx
  generalize (w.setCell ⟨k, 2, none⟩ (.bool bb)) = V at *
  have HI0 : Hid (PutI V B k g o (.slice pO out'.length cO) bb (.slice pX n cX) V) := Lib.hid ⟨HBV.out, y1, OnW.refl _ _ _, HAV.out⟩
  have HROW : Hid (V.drew.ownsRow B 5 1 (.slice pO out'.length cO) out'.length (Lib.byteCells out') ∧ B ≤ V.drew.heap.size) := Lib.hid ⟨HRV.out, HBS.out⟩
  have HLT : Hid (∀ j, (Value.slice pO out'.length cO).ownBlock = some j → j < V.heap.size) := Lib.hid fun j hj => (owns_type HRV.out hj).choose_spec.2.2
  clear y1
  refine Reg.wp_rely 15 (PutI V B k g o (.slice pO out'.length cO) bb (.slice pX n cX)) (by kernel_rfl) (Reg.relyOk_of (by kernel_rfl)) HI0.out.drew (fun w w' h hI => hI.below h) ?_
  refine Reg.rely_plain (.pointer (some ⟨k, 0, none⟩)) rfl (fun a w hI hF => by
    have f1 : a.tmps.getD 0 undef = .pointer (some ⟨k, 0, none⟩) := hF 0 (Reg.looksB (by kernel_rfl))
    clear hF hI
    simp only [Array.getD_eq_getD_getElem?] at f1
    simp only [execOp]; go_simp) ?_
  refine Reg.rely_plain (.pointer (some ⟨k, 0, none⟩)) rfl (fun a w hI hF => by
    have f1 : a.tmps.getD 0 undef = .pointer (some ⟨k, 0, none⟩) := hF 0 (Reg.looksB (by kernel_rfl))
    clear hF hI
    simp only [Array.getD_eq_getD_getElem?] at f1
    simp only [execOp]; go_simp) ?_
  refine Reg.rely_plain (.pointer (some ⟨k, 0, none⟩)) rfl (fun a w hI hF => by
    have f1 : a.tmps.getD 31 undef = .pointer (some ⟨k, 0, none⟩) := hF 31 (Reg.looksB (by kernel_rfl))
    clear hF hI
    simp only [Array.getD_eq_getD_getElem?] at f1
    simp only [execOp]; go_simp) ?_
  refine Reg.rely_plain (.pointer (some ⟨k, 1, none⟩)) rfl (fun a w hI hF => by
    have f1 : a.tmps.getD 32 undef = .pointer (some ⟨k, 0, none⟩) := hF 32 (Reg.looksB (by kernel_rfl))
    clear hF hI
    simp only [Array.getD_eq_getD_getElem?] at f1
    simp only [execOp]; go_simp) ?_
  refine Reg.rely_plain (.slice pO out'.length cO) rfl (fun a w hI hF => by
    have f1 : a.tmps.getD 33 undef = .pointer (some ⟨k, 1, none⟩) := hF 33 (Reg.looksB (by kernel_rfl))
    have hc : w.cell? ⟨k, 1, none⟩ = some (.slice pO out'.length cO) := by rw [hI.kb.cell 1]; rfl
    clear hF hI
    simp only [Array.getD_eq_getD_getElem?] at f1
    simp only [execOp]; go_simp) ?_
  refine Reg.rely_plain (.pointer (some ⟨g, o, none⟩)) rfl (fun a w hI hF => by
    have f1 : a.tmps.getD 1 undef = .pointer (some ⟨g, o, none⟩) := hF 1 (Reg.looksB (by kernel_rfl))
    clear hF hI
    simp only [Array.getD_eq_getD_getElem?] at f1
    simp only [execOp]; go_simp) ?_
  refine Reg.rely_plain (.pointer (some ⟨g, o, none⟩)) rfl (fun a w hI hF => by
    have f1 : a.tmps.getD 35 undef = .pointer (some ⟨g, o, none⟩) := hF 35 (Reg.looksB (by kernel_rfl))
    clear hF hI
    simp only [Array.getD_eq_getD_getElem?] at f1
    simp only [execOp]; go_simp) ?_
  refine Reg.rely_plain (.slice pX n cX) rfl (fun a w hI hF => by
    have f1 : a.tmps.getD 36 undef = .pointer (some ⟨g, o, none⟩) := hF 36 (Reg.looksB (by kernel_rfl))
    have hc := hI.cell
    clear hF hI
    simp only [Array.getD_eq_getD_getElem?] at f1
    simp only [execOp]; go_simp) ?_
  refine Reg.rely_plain (.int .i64 n) rfl (fun a w hI hF => by
    have f1 : a.tmps.getD 37 undef = .slice pX n cX := hF 37 (Reg.looksB (by kernel_rfl))
    clear hF hI
    simp only [Array.getD_eq_getD_getElem?] at f1
    simp only [execOp]; go_simp) ?_
  refine Reg.rely_plain (.int .u64 y) rfl (fun a w hI hF => by
    have f1 : a.tmps.getD 38 undef = .int .i64 n := hF 38 (Reg.looksB (by kernel_rfl))
    clear hF hI
    simp only [Array.getD_eq_getD_getElem?] at f1
    simp only [execOp]; go_simp) ?_
  refine Reg.rely_rel (fun v w => ∃ gl, v = .slice (some ⟨gl, 0, none⟩) 1 1 ∧ V.heap.size ≤ gl ∧ Blk w gl 22 #[.int .u64 y]) (fun v w w' h hS => by obtain ⟨gl, h1, h2, h3⟩ := hS; exact ⟨gl, h1, h2, h3.below h⟩) (fun G hG => by cases hG) rfl (fun a w hI hF => by
   have f1 : a.tmps.getD 39 undef = .int .u64 y := hF 39 (Reg.looksB (by kernel_rfl))
   have hK := Lib.hid (Blk.new w 22 #[.int .u64 y])
   have hQ := Lib.hid hI.on.size
   have hW := Lib.hid (show Reg.Grow w (w.alloc (.cells #[.int .u64 y] 22)) from (Below.refl _ w).alloc (Nat.le_refl _) _)
   clear hF hI
   simp only [Array.getD_eq_getD_getElem?] at f1
   unfold Oper.wp
   simp only [execOp]
   go_simp
   exact ⟨_, rfl, ⟨_, rfl, hQ.out, hK.out⟩, hW.out⟩) ?_
  refine Reg.rely_call0 (Reg.Is (.string (Num.lebS y))) (Reg.stab_is _ _) (fun G hG => by cases hG) rfl (fun a w hI hF => by
   obtain ⟨gl, f1, hg1, hgl⟩ : ∃ gl, a.tmps.getD 40 undef = .slice (some ⟨gl, 0, none⟩) 1 1 ∧ V.heap.size ≤ gl ∧ Blk w gl 22 #[.int .u64 y] := hF 40 (Reg.looksB (by kernel_rfl))
   refine ⟨64, #[.slice (some ⟨gl, 0, none⟩) 1 1], ?_, (HW.out w gl hgl).mono fun e w' h => ⟨_, h.1, rfl, h.2⟩⟩
   clear hF hI hgl hg1
   simp only [Array.getD_eq_getD_getElem?] at f1
   simp only [execOp]; go_simp) ?_
  refine Reg.rely_turn (fun v w => w.ownsRow B 5 1 v (out' ++ Ms.bl (Num.lebS y)).length (Lib.byteCells (out' ++ Ms.bl (Num.lebS y)))) (PutG V.heap.size B (.slice pO out'.length cO)) (fun w => w.ownsRow B 5 1 (.slice pO out'.length cO) out'.length (Lib.byteCells out') ∧ B ≤ w.heap.size) (fun v w w' h hS => owns_below hS h) (fun G hG => by cases hG) (fun w w' h hI => hI.turn h) ?_ rfl (fun w w' h hJ => ⟨owns_below hJ.1 h, Nat.le_trans hJ.2 h.size⟩) ⟨HROW.out.1, HROW.out.2⟩ (fun G hG => by cases hG) (fun G hG => by cases hG) (fun a w hI hJ hF => ?_) ?_
  ·intro p hp
   repeat (rcases List.mem_cons.1 hp with rfl | hp; first | exact Reg.stab_is _ _ | exact fun v w w' h hS => by obtain ⟨gl, h1, h2, h3⟩ := hS; exact ⟨gl, h1, h2, h.keep h2 h3⟩)
   cases hp
  ·have f1 : a.tmps.getD 34 undef = .slice pO out'.length cO := hF 34 (Reg.looksB (by kernel_rfl))
   have f2 : a.tmps.getD 41 undef = .string (Num.lebS y) := hF 41 (Reg.looksB (by kernel_rfl))
   exact putRun (t := 48) (u := 9) (sl := .tmp 34) (x := .tmp 41) rfl Tryz.underlying48 Tryz.underlying9 info_u8 rfl f1 f2 hJ.1 HLEN.out hJ.2 HLT.out
  refine Reg.rely_is (.pointer (some ⟨k, 0, none⟩)) (fun a w hI hF => Reg.det_plain rfl ?_) ?_
  ·have f1 : a.tmps.getD 30 undef = .pointer (some ⟨k, 0, none⟩) := hF 30 (Reg.looksB (by kernel_rfl))
   clear hF hI
   simp only [Array.getD_eq_getD_getElem?] at f1
   simp only [execOp]; go_simp
  refine Reg.rely_is (.pointer (some ⟨k, 1, none⟩)) (fun a w hI hF => Reg.det_plain rfl ?_) ?_
  ·have f1 : a.tmps.getD 43 undef = .pointer (some ⟨k, 0, none⟩) := hF 43 (Reg.looksB (by kernel_rfl))
   clear hF hI
   simp only [Array.getD_eq_getD_getElem?] at f1
   simp only [execOp]; go_simp
  refine Reg.rely_nil ?_
  refine Reg.final_is ?_
  refine Reg.final_is ?_
  refine Reg.final_rel (fun v12 => ?_)
  refine Reg.final_is ?_
  refine Reg.final_rel (fun v10 => ?_)
  refine Reg.final_is ?_
  refine Reg.final_is ?_
  refine Reg.final_is ?_
  refine Reg.final_is ?_
  refine Reg.final_is ?_
  refine Reg.final_is ?_
  refine Reg.final_is ?_
  refine Reg.final_is ?_
  refine Reg.final_is ?_
  refine Reg.final_is ?_
  refine Reg.final_nil (fun w9 hF => ?_)
  have HI9 := Lib.hid hF.1.1
  have HS9 := Lib.hid hF.1.2
  clear hF
  simp only [List.drop_succ_cons, List.drop_zero]
  go_simp
  have d1 : w9.cell? ⟨k, 1, none⟩ = some (.slice pO out'.length cO) := by rw [HI9.out.kb.cell 1]; rfl
  have f1 := HI9.out.kb.frozen 1
  obtain ⟨p9, c9, rfl⟩ := owns_slice HS9.out
  generalize hl9 : (out' ++ Ms.bl (Num.lebS y)).length = l9
  have HL9 := Lib.hid hl9
  clear hl9
  go_wp2_with fail
  refine Reg.fin (by kernel_rfl) ?_
  go_upto_region 3 with fail
  have hkw := KWr.put2 HI9.out.kb HGE.out HS9.out
  rw [HL9.out] at hkw
  have HKW := Lib.hid (HFB.out hkw.1)
  have HON := Lib.hid (HOV.out.trans (HI9.out.on.trans hkw.2))
  have x3 := HON.out.cell HG.out HX.out
  clear hkw HI9 HS9 HRV HBV HOV HAV HI0 HROW HLT HW HLEN HFB d1 f1
  generalize World.setCell w9 _ _ = W at *
  have hz0 : LwRel w B k n OUT BAD LL (.int .i64 0) W := ⟨0, Nat.zero_le _, rfl, HKW.out, HON.out⟩
  clear HKW
  go_wp2
  go_loopw [49] (fun u wr => LwRel w B k n OUT BAD LL u wr) (fun u _ => ((n : Int) - intOf u).toNat)
  case atStart => exact hz0
  case round =>
   clear hz0 x3
   obtain ⟨i, hi1, rfl, hK, hO⟩ := hrel
   have HK := Lib.hid hK
   have HOi := Lib.hid hO
   have x4 := hO.cell HG.out HX.out
   clear hK hO
   by_cases hi : i < n
   ·obtain ⟨b, off, rfl, hbl⟩ := HP.out (by omega)
    have HC := Lib.hid (HN.out b off rfl i hi _ HOi.out HK.out)
    have hb9 := Nat.lt_of_lt_of_le hbl HOi.out.size
    have hki : (i : Int) < (n : Int) := by omega
    have hki0 : (0 : Int) ≤ (i : Int) := by omega
    have hn9 := HNB.out
    clear HN
    go_wp2_with (go_at_call 92; go_loud ((with_reducible refine HC.out.mono ?_); rintro e w5 ⟨rfl, h5, o5⟩; have H5 := Lib.hid h5; have O5 := Lib.hid (HOi.out.trans o5); clear h5 o5))
    go_roundw
    case rel => exact ⟨i + 1, by omega, rfl, H5.out, O5.out⟩
    case measure => simp [intOf]; omega
   ·have : i = n := by omega
    subst this
    go_wp2_with fail
    go_end0
    exact ⟨rfl, HK.out, HOi.out⟩
set_option maxRecDepth 100000 in
set_option maxHeartbeats 4000000 in
theorem listw_err {n : Nat} {pX : Option Addr} {cX : Nat} {most : Int} {OUT : Nat → Ls} {BAD : Nat → Bool} {LL : Nat → Nat} {bx : Nat} (c : KWb w B k out bad L) (hB : B ≤ w.heap.size) (hL : L ≤ 1000000000) (hx : w.cell? ⟨g, o, none⟩ = some (.slice pX n cX)) (hg : Away w B k g) (hr : n ≤ 140737488355328)
  (hz : OUT 0 = out ++ Num.leb n ∧ BAD 0 = (bad || decide (most < (n : Int))) ∧ LL 0 = L + 10) (hp : 0 < n → ∃ b off, pX = some ⟨b, off, none⟩ ∧ b < w.heap.size)
  (hone : ∀ b off, pX = some ⟨b, off, none⟩ → ∀ i, i < n → ∀ w', OnW B k w w' → KWb w' B k (OUT i) (BAD i) (LL i) → Calls Tryz.prog 100 #[.pointer (some ⟨b, off + i, none⟩), .pointer (some ⟨bx, 0, none⟩)] w' (WrP w' B k (OUT (i + 1)) (BAD (i + 1)) (LL (i + 1)))) :
  Calls Tryz.prog 99 #[.pointer (some ⟨k, 0, none⟩), .pointer (some ⟨g, o, none⟩), .int .i64 most, .func (.func 100) #[] #[.pointer (some ⟨bx, 0, none⟩)]] w (WrP w B k (OUT n) (BAD n) (LL n)) := by
 obtain ⟨hz1, hz2, hz3⟩ := hz
 have HX := Lib.hid hx
 have HP := Lib.hid hp
 have HN := Lib.hid hone
 clear hp hone
 obtain ⟨out', c, ho, hl⟩ := c
 obtain ⟨vO, h1, h2, h3⟩ := c
 obtain ⟨pO, cO, rfl⟩ := owns_slice h2
 have c0 : w.cell? ⟨k, 0, none⟩ = some (.pointer none) := by rw [h1.cell 0]; rfl
 have c1 : w.cell? ⟨k, 1, none⟩ = some (.slice pO out'.length cO) := by rw [h1.cell 1]; rfl
 have c2 : w.cell? ⟨k, 2, none⟩ = some (.bool bad) := by rw [h1.cell 2]; rfl
 have cf := h1.frozen
 have HBK := Lib.hid h1
 have HRW := Lib.hid h2
 have HGE := Lib.hid h3
 have HG := Lib.hid hg
 have HO := Lib.hid (And.intro ho hl)
 have HL := Lib.hid hL
 have HB := Lib.hid hB
 have hyy : U64 (IntKind.u64.wrap (n : Int)) ∧ IntKind.u64.wrap (n : Int) = n := by rw [IntKind.wrap_u64]; unfold U64; omega
 obtain ⟨y, hy⟩ : ∃ y, IntKind.u64.wrap (n : Int) = y := ⟨_, rfl⟩
 rw [hy] at hyy
 have HY := Lib.hid hyy
 obtain ⟨bb, hbb⟩ : ∃ bb, (bad || decide (most < (n : Int))) = bb := ⟨_, rfl⟩
 rw [hbb] at hz2
 have HBB := Lib.hid hbb
 have HLEN : Hid (out'.length + (Num.lebS y).size ≤ 140737488355328) := Lib.hid (by have := lebS_size HY.out.1.2; have := HO.out.2; have := HL.out; omega)
 have HFB : Hid (∀ {W : World}, KWr W B k (out' ++ Ms.bl (Num.lebS y)) bb → KWb W B k (OUT 0) (BAD 0) (LL 0)) := Lib.hid fun h => by
  rw [hz1, hz2, hz3]
  exact KWr.kwb h HO.out.1 HO.out.2 (fun e => by
   have h := HBB.out
   rw [e, Bool.or_eq_false_iff] at h
   refine ⟨h.1, ?_⟩
   rw [Ms.bl_leb, HY.out.2]
   rfl) (by rw [Ms.bl_len]; exact lebS_size HY.out.1.2)
 have HW : Hid (∀ (w : World) gl, Blk w gl 22 #[.int .u64 y] → Calls Tryz.prog 64 #[.slice (some ⟨gl, 0, none⟩) 1 1] w (StPost (Num.lebS y) w)) := Lib.hid fun w gl h => uintsB HY.out.1 h
 have HNB := Lib.hid hr
 clear h1 h2 h3 hg ho hl hL hB hyy hr hz1 hz2 hz3
 cases bad with
 | true =>
  have hbt : bb = true := by rw [← hbb]; rfl
  clear hbb
  subst hbt
  go_enter Tryz.func99, Tryz.ntmps99
  go_upto_region 2 with fail
  have OV : Only (· = k) w (w.setCell ⟨k, 2, none⟩ (.bool true)) := (Only.refl _ w).set1
  have HBV : Hid (Blk (w.setCell ⟨k, 2, none⟩ (.bool true)) k 58 #[.pointer none, .slice pO out'.length cO, .bool true]) := Lib.hid (HBK.out.set 2 (.bool true))
  have HRV := Lib.hid (owns_only HRW.out OV (owns_ne HRW.out HBK.out (by decide)))
  have HOV : Hid (OnW B k w (w.setCell ⟨k, 2, none⟩ (.bool true))) := Lib.hid (OV.mono fun j _ e => .inl e)
  have y1 := HOV.out.cell HG.out hx
  have HAV := Lib.hid (HG.out.onW HOV.out (World.block_lt_of_cell? _ _ hx))
  have HBS : Hid (B ≤ ((w.setCell ⟨k, 2, none⟩ (.bool true))).heap.size) := Lib.hid (Nat.le_trans HB.out OV.size)
  clear OV c0 c1 c2 cf hx
  generalize (w.setCell ⟨k, 2, none⟩ (.bool true)) = V at *
  have HI0 : Hid (PutI V B k g o (.slice pO out'.length cO) true (.slice pX n cX) V) := Lib.hid ⟨HBV.out, y1, OnW.refl _ _ _, HAV.out⟩
  have HROW : Hid (V.drew.ownsRow B 5 1 (.slice pO out'.length cO) out'.length (Lib.byteCells out') ∧ B ≤ V.drew.heap.size) := Lib.hid ⟨HRV.out, HBS.out⟩
  have HLT : Hid (∀ j, (Value.slice pO out'.length cO).ownBlock = some j → j < V.heap.size) := Lib.hid fun j hj => (owns_type HRV.out hj).choose_spec.2.2
  clear y1
  refine Reg.wp_rely 15 (PutI V B k g o (.slice pO out'.length cO) true (.slice pX n cX)) (by kernel_rfl) (Reg.relyOk_of (by kernel_rfl)) HI0.out.drew (fun w w' h hI => hI.below h) ?_
  refine Reg.rely_plain (.pointer (some ⟨k, 0, none⟩)) rfl (fun a w hI hF => by
    have f1 : a.tmps.getD 0 undef = .pointer (some ⟨k, 0, none⟩) := hF 0 (Reg.looksB (by kernel_rfl))
    clear hF hI
    simp only [Array.getD_eq_getD_getElem?] at f1
    simp only [execOp]; go_simp) ?_
  refine Reg.rely_plain (.pointer (some ⟨k, 0, none⟩)) rfl (fun a w hI hF => by
    have f1 : a.tmps.getD 0 undef = .pointer (some ⟨k, 0, none⟩) := hF 0 (Reg.looksB (by kernel_rfl))
    clear hF hI
    simp only [Array.getD_eq_getD_getElem?] at f1
    simp only [execOp]; go_simp) ?_
  refine Reg.rely_plain (.pointer (some ⟨k, 0, none⟩)) rfl (fun a w hI hF => by
    have f1 : a.tmps.getD 31 undef = .pointer (some ⟨k, 0, none⟩) := hF 31 (Reg.looksB (by kernel_rfl))
    clear hF hI
    simp only [Array.getD_eq_getD_getElem?] at f1
    simp only [execOp]; go_simp) ?_
  refine Reg.rely_plain (.pointer (some ⟨k, 1, none⟩)) rfl (fun a w hI hF => by
    have f1 : a.tmps.getD 32 undef = .pointer (some ⟨k, 0, none⟩) := hF 32 (Reg.looksB (by kernel_rfl))
    clear hF hI
    simp only [Array.getD_eq_getD_getElem?] at f1
    simp only [execOp]; go_simp) ?_
  refine Reg.rely_plain (.slice pO out'.length cO) rfl (fun a w hI hF => by
    have f1 : a.tmps.getD 33 undef = .pointer (some ⟨k, 1, none⟩) := hF 33 (Reg.looksB (by kernel_rfl))
    have hc : w.cell? ⟨k, 1, none⟩ = some (.slice pO out'.length cO) := by rw [hI.kb.cell 1]; rfl
    clear hF hI
    simp only [Array.getD_eq_getD_getElem?] at f1
    simp only [execOp]; go_simp) ?_
  refine Reg.rely_plain (.pointer (some ⟨g, o, none⟩)) rfl (fun a w hI hF => by
    have f1 : a.tmps.getD 1 undef = .pointer (some ⟨g, o, none⟩) := hF 1 (Reg.looksB (by kernel_rfl))
    clear hF hI
    simp only [Array.getD_eq_getD_getElem?] at f1
    simp only [execOp]; go_simp) ?_
  refine Reg.rely_plain (.pointer (some ⟨g, o, none⟩)) rfl (fun a w hI hF => by
    have f1 : a.tmps.getD 35 undef = .pointer (some ⟨g, o, none⟩) := hF 35 (Reg.looksB (by kernel_rfl))
    clear hF hI
    simp only [Array.getD_eq_getD_getElem?] at f1
    simp only [execOp]; go_simp) ?_
  refine Reg.rely_plain (.slice pX n cX) rfl (fun a w hI hF => by
    have f1 : a.tmps.getD 36 undef = .pointer (some ⟨g, o, none⟩) := hF 36 (Reg.looksB (by kernel_rfl))
    have hc := hI.cell
    clear hF hI
    simp only [Array.getD_eq_getD_getElem?] at f1
    simp only [execOp]; go_simp) ?_
  refine Reg.rely_plain (.int .i64 n) rfl (fun a w hI hF => by
    have f1 : a.tmps.getD 37 undef = .slice pX n cX := hF 37 (Reg.looksB (by kernel_rfl))
    clear hF hI
    simp only [Array.getD_eq_getD_getElem?] at f1
    simp only [execOp]; go_simp) ?_
  refine Reg.rely_plain (.int .u64 y) rfl (fun a w hI hF => by
    have f1 : a.tmps.getD 38 undef = .int .i64 n := hF 38 (Reg.looksB (by kernel_rfl))
    clear hF hI
    simp only [Array.getD_eq_getD_getElem?] at f1
    simp only [execOp]; go_simp) ?_
  refine Reg.rely_rel (fun v w => ∃ gl, v = .slice (some ⟨gl, 0, none⟩) 1 1 ∧ V.heap.size ≤ gl ∧ Blk w gl 22 #[.int .u64 y]) (fun v w w' h hS => by obtain ⟨gl, h1, h2, h3⟩ := hS; exact ⟨gl, h1, h2, h3.below h⟩) (fun G hG => by cases hG) rfl (fun a w hI hF => by
   have f1 : a.tmps.getD 39 undef = .int .u64 y := hF 39 (Reg.looksB (by kernel_rfl))
   have hK := Lib.hid (Blk.new w 22 #[.int .u64 y])
   have hQ := Lib.hid hI.on.size
   have hW := Lib.hid (show Reg.Grow w (w.alloc (.cells #[.int .u64 y] 22)) from (Below.refl _ w).alloc (Nat.le_refl _) _)
   clear hF hI
   simp only [Array.getD_eq_getD_getElem?] at f1
   unfold Oper.wp
   simp only [execOp]
   go_simp
   exact ⟨_, rfl, ⟨_, rfl, hQ.out, hK.out⟩, hW.out⟩) ?_
  refine Reg.rely_call0 (Reg.Is (.string (Num.lebS y))) (Reg.stab_is _ _) (fun G hG => by cases hG) rfl (fun a w hI hF => by
   obtain ⟨gl, f1, hg1, hgl⟩ : ∃ gl, a.tmps.getD 40 undef = .slice (some ⟨gl, 0, none⟩) 1 1 ∧ V.heap.size ≤ gl ∧ Blk w gl 22 #[.int .u64 y] := hF 40 (Reg.looksB (by kernel_rfl))
   refine ⟨64, #[.slice (some ⟨gl, 0, none⟩) 1 1], ?_, (HW.out w gl hgl).mono fun e w' h => ⟨_, h.1, rfl, h.2⟩⟩
   clear hF hI hgl hg1
   simp only [Array.getD_eq_getD_getElem?] at f1
   simp only [execOp]; go_simp) ?_
  refine Reg.rely_turn (fun v w => w.ownsRow B 5 1 v (out' ++ Ms.bl (Num.lebS y)).length (Lib.byteCells (out' ++ Ms.bl (Num.lebS y)))) (PutG V.heap.size B (.slice pO out'.length cO)) (fun w => w.ownsRow B 5 1 (.slice pO out'.length cO) out'.length (Lib.byteCells out') ∧ B ≤ w.heap.size) (fun v w w' h hS => owns_below hS h) (fun G hG => by cases hG) (fun w w' h hI => hI.turn h) ?_ rfl (fun w w' h hJ => ⟨owns_below hJ.1 h, Nat.le_trans hJ.2 h.size⟩) ⟨HROW.out.1, HROW.out.2⟩ (fun G hG => by cases hG) (fun G hG => by cases hG) (fun a w hI hJ hF => ?_) ?_
  ·intro p hp
   repeat (rcases List.mem_cons.1 hp with rfl | hp; first | exact Reg.stab_is _ _ | exact fun v w w' h hS => by obtain ⟨gl, h1, h2, h3⟩ := hS; exact ⟨gl, h1, h2, h.keep h2 h3⟩)
   cases hp
  ·have f1 : a.tmps.getD 34 undef = .slice pO out'.length cO := hF 34 (Reg.looksB (by kernel_rfl))
   have f2 : a.tmps.getD 41 undef = .string (Num.lebS y) := hF 41 (Reg.looksB (by kernel_rfl))
   exact putRun (t := 48) (u := 9) (sl := .tmp 34) (x := .tmp 41) rfl Tryz.underlying48 Tryz.underlying9 info_u8 rfl f1 f2 hJ.1 HLEN.out hJ.2 HLT.out
  refine Reg.rely_is (.pointer (some ⟨k, 0, none⟩)) (fun a w hI hF => Reg.det_plain rfl ?_) ?_
  ·have f1 : a.tmps.getD 30 undef = .pointer (some ⟨k, 0, none⟩) := hF 30 (Reg.looksB (by kernel_rfl))
   clear hF hI
   simp only [Array.getD_eq_getD_getElem?] at f1
   simp only [execOp]; go_simp
  refine Reg.rely_is (.pointer (some ⟨k, 1, none⟩)) (fun a w hI hF => Reg.det_plain rfl ?_) ?_
  ·have f1 : a.tmps.getD 43 undef = .pointer (some ⟨k, 0, none⟩) := hF 43 (Reg.looksB (by kernel_rfl))
   clear hF hI
   simp only [Array.getD_eq_getD_getElem?] at f1
   simp only [execOp]; go_simp
  refine Reg.rely_nil ?_
  refine Reg.final_is ?_
  refine Reg.final_is ?_
  refine Reg.final_rel (fun v12 => ?_)
  refine Reg.final_is ?_
  refine Reg.final_rel (fun v10 => ?_)
  refine Reg.final_is ?_
  refine Reg.final_is ?_
  refine Reg.final_is ?_
  refine Reg.final_is ?_
  refine Reg.final_is ?_
  refine Reg.final_is ?_
  refine Reg.final_is ?_
  refine Reg.final_is ?_
  refine Reg.final_is ?_
  refine Reg.final_is ?_
  refine Reg.final_nil (fun w9 hF => ?_)
  have HI9 := Lib.hid hF.1.1
  have HS9 := Lib.hid hF.1.2
  clear hF
  simp only [List.drop_succ_cons, List.drop_zero]
  go_simp
  have d1 : w9.cell? ⟨k, 1, none⟩ = some (.slice pO out'.length cO) := by rw [HI9.out.kb.cell 1]; rfl
  have f1 := HI9.out.kb.frozen 1
  obtain ⟨p9, c9, rfl⟩ := owns_slice HS9.out
  generalize hl9 : (out' ++ Ms.bl (Num.lebS y)).length = l9
  have HL9 := Lib.hid hl9
  clear hl9
  go_wp2_with fail
  refine Reg.fin (by kernel_rfl) ?_
  go_upto_region 3 with fail
  have hkw := KWr.put2 HI9.out.kb HGE.out HS9.out
  rw [HL9.out] at hkw
  have HKW := Lib.hid (HFB.out hkw.1)
  have HON := Lib.hid (HOV.out.trans (HI9.out.on.trans hkw.2))
  have x3 := HON.out.cell HG.out HX.out
  clear hkw HI9 HS9 HRV HBV HOV HAV HI0 HROW HLT HW HLEN HFB d1 f1
  generalize World.setCell w9 _ _ = W at *
  have hz0 : LwRel w B k n OUT BAD LL (.int .i64 0) W := ⟨0, Nat.zero_le _, rfl, HKW.out, HON.out⟩
  clear HKW
  go_wp2
  go_loopw [49] (fun u wr => LwRel w B k n OUT BAD LL u wr) (fun u _ => ((n : Int) - intOf u).toNat)
  case atStart => exact hz0
  case round =>
   clear hz0 x3
   obtain ⟨i, hi1, rfl, hK, hO⟩ := hrel
   have HK := Lib.hid hK
   have HOi := Lib.hid hO
   have x4 := hO.cell HG.out HX.out
   clear hK hO
   by_cases hi : i < n
   ·obtain ⟨b, off, rfl, hbl⟩ := HP.out (by omega)
    have HC := Lib.hid (HN.out b off rfl i hi _ HOi.out HK.out)
    have hb9 := Nat.lt_of_lt_of_le hbl HOi.out.size
    have hki : (i : Int) < (n : Int) := by omega
    have hki0 : (0 : Int) ≤ (i : Int) := by omega
    have hn9 := HNB.out
    clear HN
    go_wp2_with (go_at_call 100; go_loud ((with_reducible refine HC.out.mono ?_); rintro e w5 ⟨rfl, h5, o5⟩; have H5 := Lib.hid h5; have O5 := Lib.hid (HOi.out.trans o5); clear h5 o5))
    go_roundw
    case rel => exact ⟨i + 1, by omega, rfl, H5.out, O5.out⟩
    case measure => simp [intOf]; omega
   ·have : i = n := by omega
    subst this
    go_wp2_with fail
    go_end0
    exact ⟨rfl, HK.out, HOi.out⟩
 | false =>
  have hbb2 : decide (most < (n : Int)) = bb := by rw [← hbb]; rfl
  clear hbb
  go_enter Tryz.func99, Tryz.ntmps99
  go_upto_region 2 with fail
  have OV : Only (· = k) w (w.setCell ⟨k, 2, none⟩ (.bool bb)) := (Only.refl _ w).set1
  have HBV : Hid (Blk (w.setCell ⟨k, 2, none⟩ (.bool bb)) k 58 #[.pointer none, .slice pO out'.length cO, .bool bb]) := Lib.hid (HBK.out.set 2 (.bool bb))
  have HRV := Lib.hid (owns_only HRW.out OV (owns_ne HRW.out HBK.out (by decide)))
  have HOV : Hid (OnW B k w (w.setCell ⟨k, 2, none⟩ (.bool bb))) := Lib.hid (OV.mono fun j _ e => .inl e)
  have y1 := HOV.out.cell HG.out hx
  have HAV := Lib.hid (HG.out.onW HOV.out (World.block_lt_of_cell? _ _ hx))
  have HBS : Hid (B ≤ ((w.setCell ⟨k, 2, none⟩ (.bool bb))).heap.size) := Lib.hid (Nat.le_trans HB.out OV.size)
  clear OV c0 c1 c2 cf hx
  generalize (w.setCell ⟨k, 2, none⟩ (.bool bb)) = V at *
  have HI0 : Hid (PutI V B k g o (.slice pO out'.length cO) bb (.slice pX n cX) V) := Lib.hid ⟨HBV.out, y1, OnW.refl _ _ _, HAV.out⟩
  have HROW : Hid (V.drew.ownsRow B 5 1 (.slice pO out'.length cO) out'.length (Lib.byteCells out') ∧ B ≤ V.drew.heap.size) := Lib.hid ⟨HRV.out, HBS.out⟩
  have HLT : Hid (∀ j, (Value.slice pO out'.length cO).ownBlock = some j → j < V.heap.size) := Lib.hid fun j hj => (owns_type HRV.out hj).choose_spec.2.2
  clear y1
  refine Reg.wp_rely 15 (PutI V B k g o (.slice pO out'.length cO) bb (.slice pX n cX)) (by kernel_rfl) (Reg.relyOk_of (by kernel_rfl)) HI0.out.drew (fun w w' h hI => hI.below h) ?_
  refine Reg.rely_plain (.pointer (some ⟨k, 0, none⟩)) rfl (fun a w hI hF => by
    have f1 : a.tmps.getD 0 undef = .pointer (some ⟨k, 0, none⟩) := hF 0 (Reg.looksB (by kernel_rfl))
    clear hF hI
    simp only [Array.getD_eq_getD_getElem?] at f1
    simp only [execOp]; go_simp) ?_
  refine Reg.rely_plain (.pointer (some ⟨k, 0, none⟩)) rfl (fun a w hI hF => by
    have f1 : a.tmps.getD 0 undef = .pointer (some ⟨k, 0, none⟩) := hF 0 (Reg.looksB (by kernel_rfl))
    clear hF hI
    simp only [Array.getD_eq_getD_getElem?] at f1
    simp only [execOp]; go_simp) ?_
  refine Reg.rely_plain (.pointer (some ⟨k, 0, none⟩)) rfl (fun a w hI hF => by
    have f1 : a.tmps.getD 31 undef = .pointer (some ⟨k, 0, none⟩) := hF 31 (Reg.looksB (by kernel_rfl))
    clear hF hI
    simp only [Array.getD_eq_getD_getElem?] at f1
    simp only [execOp]; go_simp) ?_
  refine Reg.rely_plain (.pointer (some ⟨k, 1, none⟩)) rfl (fun a w hI hF => by
    have f1 : a.tmps.getD 32 undef = .pointer (some ⟨k, 0, none⟩) := hF 32 (Reg.looksB (by kernel_rfl))
    clear hF hI
    simp only [Array.getD_eq_getD_getElem?] at f1
    simp only [execOp]; go_simp) ?_
  refine Reg.rely_plain (.slice pO out'.length cO) rfl (fun a w hI hF => by
    have f1 : a.tmps.getD 33 undef = .pointer (some ⟨k, 1, none⟩) := hF 33 (Reg.looksB (by kernel_rfl))
    have hc : w.cell? ⟨k, 1, none⟩ = some (.slice pO out'.length cO) := by rw [hI.kb.cell 1]; rfl
    clear hF hI
    simp only [Array.getD_eq_getD_getElem?] at f1
    simp only [execOp]; go_simp) ?_
  refine Reg.rely_plain (.pointer (some ⟨g, o, none⟩)) rfl (fun a w hI hF => by
    have f1 : a.tmps.getD 1 undef = .pointer (some ⟨g, o, none⟩) := hF 1 (Reg.looksB (by kernel_rfl))
    clear hF hI
    simp only [Array.getD_eq_getD_getElem?] at f1
    simp only [execOp]; go_simp) ?_
  refine Reg.rely_plain (.pointer (some ⟨g, o, none⟩)) rfl (fun a w hI hF => by
    have f1 : a.tmps.getD 35 undef = .pointer (some ⟨g, o, none⟩) := hF 35 (Reg.looksB (by kernel_rfl))
    clear hF hI
    simp only [Array.getD_eq_getD_getElem?] at f1
    simp only [execOp]; go_simp) ?_
  refine Reg.rely_plain (.slice pX n cX) rfl (fun a w hI hF => by
    have f1 : a.tmps.getD 36 undef = .pointer (some ⟨g, o, none⟩) := hF 36 (Reg.looksB (by kernel_rfl))
    have hc := hI.cell
    clear hF hI
    simp only [Array.getD_eq_getD_getElem?] at f1
    simp only [execOp]; go_simp) ?_
  refine Reg.rely_plain (.int .i64 n) rfl (fun a w hI hF => by
    have f1 : a.tmps.getD 37 undef = .slice pX n cX := hF 37 (Reg.looksB (by kernel_rfl))
    clear hF hI
    simp only [Array.getD_eq_getD_getElem?] at f1
    simp only [execOp]; go_simp) ?_
  refine Reg.rely_plain (.int .u64 y) rfl (fun a w hI hF => by
    have f1 : a.tmps.getD 38 undef = .int .i64 n := hF 38 (Reg.looksB (by kernel_rfl))
    clear hF hI
    simp only [Array.getD_eq_getD_getElem?] at f1
    simp only [execOp]; go_simp) ?_
  refine Reg.rely_rel (fun v w => ∃ gl, v = .slice (some ⟨gl, 0, none⟩) 1 1 ∧ V.heap.size ≤ gl ∧ Blk w gl 22 #[.int .u64 y]) (fun v w w' h hS => by obtain ⟨gl, h1, h2, h3⟩ := hS; exact ⟨gl, h1, h2, h3.below h⟩) (fun G hG => by cases hG) rfl (fun a w hI hF => by
   have f1 : a.tmps.getD 39 undef = .int .u64 y := hF 39 (Reg.looksB (by kernel_rfl))
   have hK := Lib.hid (Blk.new w 22 #[.int .u64 y])
   have hQ := Lib.hid hI.on.size
   have hW := Lib.hid (show Reg.Grow w (w.alloc (.cells #[.int .u64 y] 22)) from (Below.refl _ w).alloc (Nat.le_refl _) _)
   clear hF hI
   simp only [Array.getD_eq_getD_getElem?] at f1
   unfold Oper.wp
   simp only [execOp]
   go_simp
   exact ⟨_, rfl, ⟨_, rfl, hQ.out, hK.out⟩, hW.out⟩) ?_
  refine Reg.rely_call0 (Reg.Is (.string (Num.lebS y))) (Reg.stab_is _ _) (fun G hG => by cases hG) rfl (fun a w hI hF => by
   obtain ⟨gl, f1, hg1, hgl⟩ : ∃ gl, a.tmps.getD 40 undef = .slice (some ⟨gl, 0, none⟩) 1 1 ∧ V.heap.size ≤ gl ∧ Blk w gl 22 #[.int .u64 y] := hF 40 (Reg.looksB (by kernel_rfl))
   refine ⟨64, #[.slice (some ⟨gl, 0, none⟩) 1 1], ?_, (HW.out w gl hgl).mono fun e w' h => ⟨_, h.1, rfl, h.2⟩⟩
   clear hF hI hgl hg1
   simp only [Array.getD_eq_getD_getElem?] at f1
   simp only [execOp]; go_simp) ?_
  refine Reg.rely_turn (fun v w => w.ownsRow B 5 1 v (out' ++ Ms.bl (Num.lebS y)).length (Lib.byteCells (out' ++ Ms.bl (Num.lebS y)))) (PutG V.heap.size B (.slice pO out'.length cO)) (fun w => w.ownsRow B 5 1 (.slice pO out'.length cO) out'.length (Lib.byteCells out') ∧ B ≤ w.heap.size) (fun v w w' h hS => owns_below hS h) (fun G hG => by cases hG) (fun w w' h hI => hI.turn h) ?_ rfl (fun w w' h hJ => ⟨owns_below hJ.1 h, Nat.le_trans hJ.2 h.size⟩) ⟨HROW.out.1, HROW.out.2⟩ (fun G hG => by cases hG) (fun G hG => by cases hG) (fun a w hI hJ hF => ?_) ?_
  ·intro p hp
   repeat (rcases List.mem_cons.1 hp with rfl | hp; first | exact Reg.stab_is _ _ | exact fun v w w' h hS => by obtain ⟨gl, h1, h2, h3⟩ := hS; exact ⟨gl, h1, h2, h.keep h2 h3⟩)
   cases hp
  ·have f1 : a.tmps.getD 34 undef = .slice pO out'.length cO := hF 34 (Reg.looksB (by kernel_rfl))
   have f2 : a.tmps.getD 41 undef = .string (Num.lebS y) := hF 41 (Reg.looksB (by kernel_rfl))
   exact putRun (t := 48) (u := 9) (sl := .tmp 34) (x := .tmp 41) rfl Tryz.underlying48 Tryz.underlying9 info_u8 rfl f1 f2 hJ.1 HLEN.out hJ.2 HLT.out
  refine Reg.rely_is (.pointer (some ⟨k, 0, none⟩)) (fun a w hI hF => Reg.det_plain rfl ?_) ?_
  ·have f1 : a.tmps.getD 30 undef = .pointer (some ⟨k, 0, none⟩) := hF 30 (Reg.looksB (by kernel_rfl))
   clear hF hI
   simp only [Array.getD_eq_getD_getElem?] at f1
   simp only [execOp]; go_simp
  refine Reg.rely_is (.pointer (some ⟨k, 1, none⟩)) (fun a w hI hF => Reg.det_plain rfl ?_) ?_
  ·have f1 : a.tmps.getD 43 undef = .pointer (some ⟨k, 0, none⟩) := hF 43 (Reg.looksB (by kernel_rfl))
   clear hF hI
   simp only [Array.getD_eq_getD_getElem?] at f1
   simp only [execOp]; go_simp
  refine Reg.rely_nil ?_
  refine Reg.final_is ?_
  refine Reg.final_is ?_
  refine Reg.final_rel (fun v12 => ?_)
  refine Reg.final_is ?_
  refine Reg.final_rel (fun v10 => ?_)
  refine Reg.final_is ?_
  refine Reg.final_is ?_
  refine Reg.final_is ?_
  refine Reg.final_is ?_
  refine Reg.final_is ?_
  refine Reg.final_is ?_
  refine Reg.final_is ?_
  refine Reg.final_is ?_
  refine Reg.final_is ?_
  refine Reg.final_is ?_
  refine Reg.final_nil (fun w9 hF => ?_)
  have HI9 := Lib.hid hF.1.1
  have HS9 := Lib.hid hF.1.2
  clear hF
  simp only [List.drop_succ_cons, List.drop_zero]
  go_simp
  have d1 : w9.cell? ⟨k, 1, none⟩ = some (.slice pO out'.length cO) := by rw [HI9.out.kb.cell 1]; rfl
  have f1 := HI9.out.kb.frozen 1
  obtain ⟨p9, c9, rfl⟩ := owns_slice HS9.out
  generalize hl9 : (out' ++ Ms.bl (Num.lebS y)).length = l9
  have HL9 := Lib.hid hl9
  clear hl9
  go_wp2_with fail
  refine Reg.fin (by kernel_rfl) ?_
  go_upto_region 3 with fail
  have hkw := KWr.put2 HI9.out.kb HGE.out HS9.out
  rw [HL9.out] at hkw
  have HKW := Lib.hid (HFB.out hkw.1)
  have HON := Lib.hid (HOV.out.trans (HI9.out.on.trans hkw.2))
  have x3 := HON.out.cell HG.out HX.out
  clear hkw HI9 HS9 HRV HBV HOV HAV HI0 HROW HLT HW HLEN HFB d1 f1
  generalize World.setCell w9 _ _ = W at *
  have hz0 : LwRel w B k n OUT BAD LL (.int .i64 0) W := ⟨0, Nat.zero_le _, rfl, HKW.out, HON.out⟩
  clear HKW
  go_wp2
  go_loopw [49] (fun u wr => LwRel w B k n OUT BAD LL u wr) (fun u _ => ((n : Int) - intOf u).toNat)
  case atStart => exact hz0
  case round =>
   clear hz0 x3
   obtain ⟨i, hi1, rfl, hK, hO⟩ := hrel
   have HK := Lib.hid hK
   have HOi := Lib.hid hO
   have x4 := hO.cell HG.out HX.out
   clear hK hO
   by_cases hi : i < n
   ·obtain ⟨b, off, rfl, hbl⟩ := HP.out (by omega)
    have HC := Lib.hid (HN.out b off rfl i hi _ HOi.out HK.out)
    have hb9 := Nat.lt_of_lt_of_le hbl HOi.out.size
    have hki : (i : Int) < (n : Int) := by omega
    have hki0 : (0 : Int) ≤ (i : Int) := by omega
    have hn9 := HNB.out
    clear HN
    go_wp2_with (go_at_call 100; go_loud ((with_reducible refine HC.out.mono ?_); rintro e w5 ⟨rfl, h5, o5⟩; have H5 := Lib.hid h5; have O5 := Lib.hid (HOi.out.trans o5); clear h5 o5))
    go_roundw
    case rel => exact ⟨i + 1, by omega, rfl, H5.out, O5.out⟩
    case measure => simp [intOf]; omega
   ·have : i = n := by omega
    subst this
    go_wp2_with fail
    go_end0
    exact ⟨rfl, HK.out, HOi.out⟩
end
end Go.Proofs.YtghbjknpffiaiaaGreat

namespace Go.Proofs.YtghbjknpffiaiaaGreat
open Go.RowKit Wire Ms
set_option linter.unusedVariables false
set_option linter.unusedSimpArgs false
structure LrSt {α : Type} (LAY : α → List Value) (TX : TypeId) (sz : Nat) (w : World) (k rb g : Nat) (T : TypeId) (A : Array Value) (o : Nat) (q : RS) (bad : Bool) (ys : List α) (v : Value) (w' : World) : Prop where
 kr : KRd w' k rb q bad
 blk : Blk w' g T (A.setIfInBounds o v)
 row : w'.ownsRow w.heap.size TX sz v ys.length (ys.flatMap LAY)
 on : OnRd k rb g w w'
def LrRel {α : Type} (R : RS → α × RS) (XB : α → Bool) (LAY : α → List Value) (TX : TypeId) (sz : Nat) (w : World) (k rb g : Nat) (T : TypeId) (A : Array Value) (o : Nat) (q1 : RS) (bad : Bool) (n : Nat) (u : Value) (wr : World) : Prop :=
 ∃ (i : Nat) (ys : List α) (qi : RS) (v : Value), i ≤ n ∧ u = .int .i64 i ∧ LrSt LAY TX sz w k rb g T A o qi (bad || ys.any XB) ys v wr ∧ ys.length = i ∧ rdL R n q1 = (ys ++ (rdL R (n - i) qi).1, (rdL R (n - i) qi).2)
def LrP {α : Type} (R : RS → α × RS) (XB : α → Bool) (LAY : α → List Value) (TX : TypeId) (sz : Nat) (most : Int) (w : World) (k rb g : Nat) (T : TypeId) (A : Array Value) (o : Nat) (q : RS) (bad : Bool) (e : Ending) (w' : World) : Prop :=
 e = .returned (.tuple #[]) ∧ ∃ v, LrSt LAY TX sz w k rb g T A o (rL most R q).2 (bad || (rL most R q).1.any XB) (rL most R q).1 v w'
section
variable {α : Type} {R : RS → α × RS} {XB : α → Bool} {LAY : α → List Value} {TX : TypeId} {sz : Nat} {w : World} {k rb g : Nat} {T : TypeId} {A : Array Value} {o : Nat} {q q1 : RS} {bad : Bool} {n : Nat}
theorem rdL_stop {m : Nat} (h : q.e ≠ 0) : rdL R m q = ([], q) := by
 cases m with
 | zero => rfl
 | succ m => unfold rdL; rw [if_pos h]
theorem rdL_step {m : Nat} (h : q.e = 0) : rdL R (m + 1) q = ((R q).1 :: (rdL R m (R q).2).1, (rdL R m (R q).2).2) := by
 rw [rdL, if_neg (fun e => e h)]
theorem LrSt.app {ys : List α} {v v6 : Value} {w1 w6 : World} {x : α} (h : LrSt LAY TX sz w k rb g T A o q bad ys v w1) (hgk : g ≠ k) (hgr : g ≠ rb) (hlt : k < w.heap.size ∧ rb < w.heap.size ∧ g < w.heap.size)
  (h6 : w6.ownsRow w.heap.size TX sz v6 (ys.length + 1) (ys.flatMap LAY ++ LAY x)) (o6 : Only (fun j => v.ownBlock = some j) w1 w6) :
  Blk w6 g T (A.setIfInBounds o v) ∧ LrSt LAY TX sz w k rb g T A o q bad (ys ++ [x]) v6 (w6.setCell ⟨g, o, none⟩ v6) := by
 have hne : ∀ j, v.ownBlock = some j → w.heap.size ≤ j := fun j hj => (owns_type h.row hj).choose_spec.2.1
 have hne6 : ∀ j, v6.ownBlock = some j → w.heap.size ≤ j := fun j hj => (owns_type h6 hj).choose_spec.2.1
 have b6 := h.blk.only o6 (fun e => by have := hne _ e; omega)
 have o7 : Only (· = g) w6 (w6.setCell ⟨g, o, none⟩ v6) := (Only.refl _ w6).set1
 have k6 : KRd w6 k rb q bad := ⟨h.kr.1.only o6 (fun e => by have := hne _ e; omega), h.kr.2.only o6 (fun e => by have := hne _ e; omega)⟩
 refine ⟨b6, ⟨⟨k6.1.only o7 (fun e => hgk e.symm), k6.2.only o7 (fun e => hgr e.symm)⟩, ?_, ?_, ?_⟩⟩
 ·have hb := b6.set o v6
  rwa [Array.setIfInBounds_setIfInBounds] at hb
 ·rw [List.length_append, List.flatMap_append]
  refine owns_only (by simpa using h6) o7 (fun j hj e => by have := hne6 j hj; omega)
 ·refine ⟨o7.os.trans (o6.os.trans h.on.os), o7.tape.trans (o6.tape.trans h.on.tape), o7.output.trans (o6.output.trans h.on.output), Nat.le_trans h.on.size (Nat.le_trans o6.size o7.size), fun j hj hs => ?_⟩
  rw [o7.block j (by have := h.on.size; have := o6.size; omega) (fun e => hs (.inr (.inr e))), o6.block j (by have := h.on.size; omega) (fun e => by have := hne _ e; omega), h.on.block j hj hs]
theorem LrSt.one {ys : List α} {v : Value} {w1 w2 : World} {q2 : RS} {b2 : Bool} (h : LrSt LAY TX sz w k rb g T A o q bad ys v w1) (hlt : k < w.heap.size ∧ rb < w.heap.size ∧ g < w.heap.size) (hgk : g ≠ k) (hgr : g ≠ rb) {ob : Obj}
  (hk : KRd w2 k rb q2 b2) (ho : OnRd k rb w1.heap.size (w1.alloc ob) w2) : LrSt LAY TX sz w k rb g T A o q2 b2 ys v w2 := by
 have hne : ∀ j, v.ownBlock = some j → w.heap.size ≤ j ∧ j < w1.heap.size := fun j hj => ⟨(owns_type h.row hj).choose_spec.2.1, (owns_type h.row hj).choose_spec.2.2⟩
 have hsz := h.on.size
 refine ⟨hk, (h.blk.alloc ob).only ho (by omega), owns_only (h.row.alloc ob) ho (fun j hj e => by have := hne j hj; omega), ?_⟩
 have h1 : OnRd k rb g w (w1.alloc ob) := Only.step h.on ((Below.refl _ w1).alloc (Nat.le_refl _) _)
 refine ⟨ho.os.trans h1.os, ho.tape.trans h1.tape, ho.output.trans h1.output, Nat.le_trans h1.size ho.size, fun j hj hs => ?_⟩
 exact (ho.block j (Nat.lt_of_lt_of_le hj h1.size) (fun e => by rcases e with e | e | e <;> first | exact hs (.inl e) | exact hs (.inr (.inl e)) | omega)).trans (h1.block j hj hs)
end
set_option maxRecDepth 100000 in
set_option maxHeartbeats 4000000 in
theorem listr_i64 {w : World} {k rb g o : Nat} {q : RS} {bad : Bool} {T : TypeId} {A : Array Value} {most : Int}  (c : KRd w k rb q bad) (hb : Blk w g T A) (ho : A[o]? = some (.slice none 0 0)) (hgk : g ≠ k) (hgr : g ≠ rb) (hm : I64 most) (hm2 : most ≤ 1000000)
  (hone : ∀ (w1 : World) (q' : RS) (b' : Bool) (gx : Nat), KRd w1 k rb q' b' → Blk w1 gx 2 #[.int .i64 0] → w.heap.size ≤ gx → OnRd k rb g w w1 → Calls Tryz.prog 96 #[.pointer (some ⟨k, 0, none⟩), .pointer (some ⟨gx, 0, none⟩)] w1 (RdP w1 k rb gx 2 ((fun (x : Int) => [Value.int .i64 x]) (rI q').1).toArray (rI q').2 (b' || (fun (_ : Int) => false) (rI q').1))) :
  Calls Tryz.prog 95 #[.pointer (some ⟨k, 0, none⟩), .pointer (some ⟨g, o, none⟩), .int .i64 most, .func (.func 96) #[.pointer (some ⟨k, 0, none⟩)] #[]] w (LrP rI (fun (_ : Int) => false) (fun (x : Int) => [Value.int .i64 x]) 2 1 most w k rb g T A o q bad) := by
 have HC := Lib.hid (pcount_any c.2 most hm)
 have hr := cnt_range (s := q.s) (e := q.e) hm
 obtain ⟨n, hn⟩ : ∃ n : Nat, cV most q = n := ⟨(cV most q).toNat, by unfold cV; omega⟩
 have hn2 : n ≤ 1000000 := by
  by_cases h0 : cV most q = 0
  ·omega
  ·have h1 := (cnt_ok (s := q.s) (e := q.e) (most := most) (.inl h0))
   have h2 : cV most q = xI q.s := h1.1
   have h3 := h1.2.2.2.1
   omega
 have HRL : Hid (rL most rI q = rdL rI n (cS most q)) := Lib.hid (by unfold rL; rw [hn]; rfl)
 rw [show numV q.s q.e (cC q.s most) = n from hn] at HC
 have HLT := Lib.hid (And.intro c.1.lt (And.intro c.2.blk.lt hb.lt))
 have HG := Lib.hid (And.intro hgk hgr)
 have HA := Lib.hid ho
 have HBB := Lib.hid hb
 have HK := Lib.hid c
 have HO := Lib.hid hone
 have HN2 := Lib.hid hn2
 have c0 := c.c0
 unfold LrP
 rw [HRL.out]
 clear c hb ho hgk hgr hm hm2 hone hr hn hn2
 generalize hq1 : cS most q = q1 at *
 have HQ1 := Lib.hid hq1
 clear hq1
 go_enter Tryz.func95, Tryz.ntmps95
 go_upto_region 9 with (go_at_call 108; go_loud ((with_reducible refine HC.out.mono ?_); rintro e w1 ⟨rfl, hP, hOc⟩; have H1 := Lib.hid hP; have O1 := Lib.hid hOc; clear hP hOc))
 have hz0 : LrRel rI (fun (_ : Int) => false) (fun (x : Int) => [Value.int .i64 x]) 2 1 w k rb g T A o q1 bad n (.int .i64 0) w1 := ⟨0, [], q1, .slice none 0 0, Nat.zero_le _, rfl, ⟨⟨by
   have hkr : k ≠ rb := fun e => by have h1 := HK.out.1; rw [e] at h1; exact absurd (blk_ne h1 HK.out.2.blk) (by decide)
   have := HK.out.1.only O1.out hkr
   simpa using this, by rw [← HQ1.out]; exact H1.out⟩, by
   have := HBB.out.only O1.out HG.out.2
   rwa [show A.setIfInBounds o (.slice none 0 0) = A from by
    apply Array.ext_getElem?
    intro j
    rw [Array.getElem?_setIfInBounds]
    split
    ·next e => subst e; rw [HA.out, if_pos (Array.getElem?_eq_some_iff.1 HA.out).1]
    ·rfl], ⟨rfl, .inl ⟨rfl, rfl⟩⟩, O1.out.mono fun j _ e => .inr (.inl e)⟩, rfl, by simp⟩
 have HAS := Lib.hid (Array.getElem?_eq_some_iff.1 HA.out).1
 clear HC HRL H1 O1 HBB HA c0 HK HQ1
 go_wp2
 go_loopw [66] (fun u wr => LrRel rI (fun (_ : Int) => false) (fun (x : Int) => [Value.int .i64 x]) 2 1 w k rb g T A o q1 bad n u wr) (fun u _ => ((n : Int) - intOf u).toNat)
 case atStart => exact hz0
 case round =>
  clear hz0
  obtain ⟨i, ys, qi, v, hi1, rfl, hS, hyl, hrd⟩ := hrel
  have HS := Lib.hid hS
  have HYL := Lib.hid hyl
  have HRD := Lib.hid hrd
  have c0 := hS.kr.c0
  obtain ⟨pv, cv, rfl⟩ := owns_slice hS.row
  clear hS hyl hrd
  by_cases hi : i < n
  ·have hki : (i : Int) < (n : Int) := by omega
   have hn9 : n ≤ 140737488355328 := by have := HN2.out; omega
   have HE := Lib.hid (perr_any HS.out.kr.2)
   by_cases he : qi.e = 0
   ·have he' : (qi.e != 0) = false := by simpa using he
    have HE0 := Lib.hid he
    clear he
    generalize hqe : qi.e = qe at *
    have HONE := Lib.hid (HO.out (wr.alloc (.cells #[.int .i64 0] 2)) qi (bad || ys.any (fun (_ : Int) => false)) wr.heap.size (HS.out.kr.below ((Below.refl _ wr).alloc (Nat.le_refl _) _)) (Blk.new wr 2 #[.int .i64 0]) HS.out.on.size (Only.step HS.out.on ((Below.refl _ wr).alloc (Nat.le_refl _) _)))
    have HQE := Lib.hid hqe
    clear hqe
    go_upto_region 12 with (go_at_call 109; go_loud ((with_reducible refine HE.out.mono ?_); rintro e w9 ⟨rfl, hw9⟩; subst hw9))
    go_upto_region 13 with (go_at_call 96; ((with_reducible refine HONE.out.mono ?_); rintro e w2 ⟨rfl, b2, k2, o2⟩; have B2 := Lib.hid b2; have S2 := Lib.hid (LrSt.one (ob := .cells #[.int .i64 0] 2) HS.out HLT.out HG.out.1 HG.out.2 k2 (show OnRd k rb _ _ _ from o2)); clear b2 k2 o2))
    have x0 : w2.cell? ⟨g, o, none⟩ = some (.slice pv ys.length cv) := by rw [S2.out.blk.cell o]; simp [HAS.out]
    have x0n : ∀ ob, (w2.alloc ob).cell? ⟨g, o, none⟩ = some (.slice pv ys.length cv) := fun ob => by rw [(S2.out.blk.alloc ob).cell o]; simp [HAS.out]
    obtain ⟨x, hx⟩ : ∃ x, (rI qi).1 = x := ⟨_, rfl⟩
    have HXX := Lib.hid hx
    rw [hx] at B2
    clear hx
    have x1 : w2.cell? ⟨wr.heap.size, 0, none⟩ = some (.int .i64 x) := by rw [B2.out.cell 0]; rfl
    have x1n : ∀ ob, (w2.alloc ob).cell? ⟨wr.heap.size, 0, none⟩ = some (.int .i64 x) := fun ob => by rw [(B2.out.alloc ob).cell 0]; rfl
    have HROW : Hid (w2.drew.ownsRow w.heap.size 2 1 (.slice pv ys.length cv) ys.length (ys.flatMap (fun (x : Int) => [Value.int .i64 x]))) := Lib.hid S2.out.row
    have HLEN : Hid (ys.length < 2147483648) := Lib.hid (by have := HYL.out; have := HN2.out; omega)
    have HBS : Hid (w.heap.size ≤ w2.drew.heap.size) := Lib.hid S2.out.on.size
    have HFIN : Hid (∀ v6 w6, w6.ownsRow w.heap.size 2 1 v6 (ys.length + 1) (ys.flatMap (fun (x : Int) => [Value.int .i64 x]) ++ (fun (x : Int) => [Value.int .i64 x]) x) → Only (fun j => (Value.slice pv ys.length cv).ownBlock = some j) w2.drew w6 → (w6.cell? ⟨g, o, none⟩ = some (.slice pv ys.length cv) ∧ w6.frozen? ⟨g, o, none⟩ = false) ∧ LrRel rI (fun (_ : Int) => false) (fun (x : Int) => [Value.int .i64 x]) 2 1 w k rb g T A o q1 bad n (.int .i64 ((i + 1 : Nat) : Int)) (w6.setCell ⟨g, o, none⟩ v6)) := Lib.hid fun v6 w6 h6 o6 => by
     have h := S2.out.app HG.out.1 HG.out.2 HLT.out h6 ⟨o6.os, o6.tape, o6.output, o6.size, o6.block⟩
     refine ⟨⟨by rw [h.1.cell o]; simp [HAS.out], h.1.frozen o⟩, i + 1, ys ++ [x], (rI qi).2, v6, by omega, rfl, ?_, by rw [List.length_append]; simp [HYL.out], ?_⟩
     ·have := h.2
      first
       | (rw [HXX.out] at this; simpa only [List.any_append, List.any_cons, List.any_nil, Bool.or_false, Bool.or_assoc] using this)
       | simpa only [List.any_append, List.any_cons, List.any_nil, Bool.or_false, Bool.or_assoc] using this
     ·rw [HRD.out, show n - i = (n - (i + 1)) + 1 by omega, rdL_step (HQE.out.trans HE0.out), HXX.out]
      simp
    clear HE HONE HO HRD HXX S2 B2 HS
    go_region_law (go_loud (refine step_append_row2 (ys := (fun (x : Int) => [Value.int .i64 x]) x) (by rfl) (by rfl) (by rfl) (by rfl) Tryz.underlying23 info_i64 rfl rfl rfl (by decide) (by decide) HROW.out HLEN.out HBS.out (by first | rfl | simp) ?_; intro v6 w6 h6 o6; have HF6 := Lib.hid (HFIN.out _ _ h6 o6); obtain ⟨p6, c6, rfl⟩ := owns_slice h6; have d1 := HF6.out.1.1; have f1 := HF6.out.1.2; clear h6 o6))
    all_goals (go_wp2_with fail; go_roundw)
    all_goals first
     | (case rel => exact HF6.out.2)
     | (case measure => simp [intOf]; omega)
     | skip
   ·have he' : (qi.e != 0) = true := by simpa using he
    have HE0 := Lib.hid he
    clear he
    generalize hqe : qi.e = qe at *
    have HQE := Lib.hid hqe
    clear hqe
    go_wp2_with (go_at_call 109; go_loud ((with_reducible refine HE.out.mono ?_); rintro e w9 ⟨rfl, hw9⟩; subst hw9))
    refine bodyPost_ret (results_none rfl _ _ _) rfl ?_
    refine ⟨rfl, .slice pv ys.length cv, ?_⟩
    rw [HRD.out, rdL_stop (fun e => HE0.out (HQE.out.symm.trans e))]
    have := HS.out
    simpa using this
  ·have : i = n := by omega
   subst this
   go_wp2_with fail
   go_end0
   refine ⟨rfl, .slice pv ys.length cv, ?_⟩
   have h1 := HRD.out
   rw [Nat.sub_self] at h1
   rw [h1]
   have := HS.out
   simpa [rdL] using this
end Go.Proofs.YtghbjknpffiaiaaGreat
