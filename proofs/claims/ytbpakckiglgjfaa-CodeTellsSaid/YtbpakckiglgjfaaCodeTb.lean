
/- The law 'CodeTells' at every two programs. No condition. -/
import Derived.Test.YtbpakckiglgjfaaCodeHa
import Derived.Test.YtbpakckiglgjfaaCodeLa
import Derived.Test.YtbpakckiglgjfaaCodeCa
import Derived.Test.YtbpakckiglgjfaaCodeXa
import Derived.Test.YtbpakckiglgjfaaRely4
namespace Go.Proofs.Ytbpakckiglgjfaa
open Go.RowKit Cd Wire
set_option linter.unusedVariables false
/-- Both programs lie in blocks b and b + 1. -/
structure TlW (W : World) (x y : Value) (l m : List FunV) (w : World) : Prop where
  t1 : Blk w W.heap.size 24 #[x]
  t2 : Blk w (W.heap.size + 1) 24 #[y]
  a : FunsAt w x l
  b : FunsAt w y m
  bel : Below W.heap.size W w
theorem TlW.step {W : World} {x y : Value} {l m : List FunV} {w w' : World} (h : TlW W x y l m w) (k : Below w.heap.size w w') : TlW W x y l m w' := ⟨h.t1.below k, h.t2.below k, h.a.below k, h.b.below k, h.bel.step k⟩
theorem TlW.cells {W : World} {x y : Value} {l m : List FunV} {w : World} (h : TlW W x y l m w) : w.cell? ⟨W.heap.size, 0, none⟩ = some x ∧ w.cell? ⟨W.heap.size + 1, 0, none⟩ = some y := ⟨h.t1.cell 0, h.t2.cell 0⟩
theorem TlW.celln {W : World} {x y : Value} {l m : List FunV} {w : World} (h : TlW W x y l m w) (o : Obj) : (w.alloc o).cell? ⟨W.heap.size, 0, none⟩ = some x := (h.t1.alloc o).cell 0
/-- Rows that lie from B to E: their slices, and that there are cells. -/
structure Shp (w : World) (B E : Nat) (v : Value) (l : List FunV) (vs : List Value) : Prop where
  len : vs.length = l.length
  top : 0 < l.length → ∃ G cap cur, v = .slice (some ⟨G, 0, none⟩) l.length cap ∧ Blk w G 41 cur ∧ B ≤ G ∧ G < E ∧ ∀ i (h : i < vs.length), (∃ z, cur[i * 3]? = some z) ∧ cur[i * 3 + 2]? = some vs[i]
  ops : ∀ i (h : i < l.length) (h' : i < vs.length), ∃ p cap, vs[i] = .slice p l[i].ops.length cap ∧ (0 < l[i].ops.length → ∃ g cur, p = some ⟨g, 0, none⟩ ∧ Blk w g 43 cur ∧ B ≤ g ∧ g < E ∧ ∀ j, j < l[i].ops.length → ∃ z, cur[j * 5]? = some z)
theorem Shp.of {w : World} {B : Nat} {v : Value} {l : List FunV} (h : FunsRow w B v l) : ∃ vs, Shp w B w.heap.size v l vs := by
  obtain ⟨vs, h1, h2, h3⟩ := h
  refine ⟨vs, h1, fun hl => ?_, fun i hi hi' => ?_⟩
  · have hlen := h2.1
    obtain ⟨G, cap, cur, e, hG, hB, hc⟩ := owns_cells h2 hl
    refine ⟨G, cap, cur, e, hG, hB, hG.lt, fun i hi => ⟨?_, ?_⟩⟩
    · have := hc (i * 3) (by omega)
      rw [hG.cell] at this
      rw [this]
      exact ⟨_, List.getElem?_eq_getElem (by omega)⟩
    · have := hc (i * 3 + 2) (by omega)
      rw [hG.cell] at this
      rw [this, rowsF_at h1 (by omega)]
  · obtain ⟨p, cap, e⟩ := owns_slice (h3 i hi hi')
    refine ⟨p, cap, e, fun hl => ?_⟩
    have hlen := (h3 i hi hi').1
    obtain ⟨G, cap', cur, e', hG, hB, hc⟩ := owns_cells (h3 i hi hi') hl
    rw [e] at e'
    injection e' with e1 _ _
    refine ⟨G, cur, e1, hG, hB, hG.lt, fun j hj => ?_⟩
    have := hc (j * 5) (by omega)
    rw [hG.cell] at this
    rw [this]
    exact ⟨_, List.getElem?_eq_getElem (by omega)⟩
theorem Shp.below {w w' : World} {B E : Nat} {v : Value} {l : List FunV} {vs : List Value} (h : Shp w B E v l vs) (hb : Below w.heap.size w w') : Shp w' B E v l vs :=
  ⟨h.len, fun hl => by obtain ⟨G, cap, cur, e, hG, h1⟩ := h.top hl; exact ⟨G, cap, cur, e, hG.below hb, h1⟩,
    fun i hi hi' => by obtain ⟨p, cap, e, hx⟩ := h.ops i hi hi'; exact ⟨p, cap, e, fun hl => by obtain ⟨g, cur, e1, hg, h1⟩ := hx hl; exact ⟨g, cur, e1, hg.below hb, h1⟩⟩⟩
theorem set_get {cur : Array Value} {k j : Nat} {z x : Value} (h : cur[j]? = some z) : ∃ z', (cur.setIfInBounds k x)[j]? = some z' := by
  have hj := (Array.getElem?_eq_some_iff.1 h).1
  exact ⟨_, Array.getElem?_eq_getElem (by simpa using hj)⟩
theorem Blk.same {w : World} {g : Nat} {T T' : TypeId} {A A' : Array Value} (h : Blk w g T A) (h' : Blk w g T' A') : T = T' ∧ A = A' := by
  unfold Blk at h h'
  rw [h] at h'
  injection h' with h'
  injection h' with h1 h2
  exact ⟨h2, h1⟩
theorem Shp.set {w : World} {B E : Nat} {v : Value} {l : List FunV} {vs : List Value} (h : Shp w B E v l vs) {g k : Nat} {x : Value} (hk : ∀ cur, Blk w g 41 cur → ∃ i, k = i * 3) : Shp (w.setCell ⟨g, k, none⟩ x) B E v l vs := by
  refine ⟨h.len, fun hl => ?_, fun i hi hi' => ?_⟩
  · obtain ⟨G, cap, cur, e, hG, h1, h2, h3⟩ := h.top hl
    by_cases hg : G = g
    · subst hg
      obtain ⟨i0, rfl⟩ := hk _ hG
      refine ⟨G, cap, _, e, hG.set _ x, h1, h2, fun i hi => ⟨?_, ?_⟩⟩
      · obtain ⟨z, hz⟩ := (h3 i hi).1
        exact set_get hz
      · rw [Array.getElem?_setIfInBounds, if_neg (by omega)]
        exact (h3 i hi).2
    · exact ⟨G, cap, cur, e, hG.set_ne x hg, h1, h2, h3⟩
  · obtain ⟨p, cap, e, hx⟩ := h.ops i hi hi'
    refine ⟨p, cap, e, fun hl => ?_⟩
    obtain ⟨G, cur, e1, hG, h1, h2, h3⟩ := hx hl
    by_cases hg : G = g
    · subst hg
      exact ⟨G, _, e1, hG.set _ x, h1, h2, fun j hj => by obtain ⟨z, hz⟩ := h3 j hj; exact set_get hz⟩
    · exact ⟨G, cur, e1, hG.set_ne x hg, h1, h2, h3⟩
theorem FunsRow.above {S : Nat → Prop} {w w' : World} {B : Nat} {v : Value} {l : List FunV} (h : FunsRow w B v l) (ho : Only S w w') (hS : ∀ k, S k → k < B) : FunsRow w' B v l := by
  obtain ⟨vs, h1, h2, h3⟩ := h
  refine ⟨vs, h1, owns_only h2 ho fun g hg hs => ?_, fun i hi hi' => owns_only (h3 i hi hi') ho fun g hg hs => ?_⟩
  · obtain ⟨cur, _, hb, _⟩ := owns_type h2 hg
    have := hS g hs
    omega
  · obtain ⟨cur, _, hb, _⟩ := owns_type (h3 i hi hi') hg
    have := hS g hs
    omega
def InBE (B E : Nat) (k : Nat) : Prop := B ≤ k ∧ k < E
def TRel (w0 : World) (B E : Nat) (v : Value) (l : List FunV) (vs : List Value) (u : Value) (wr : World) : Prop := ∃ i : Nat, i ≤ l.length ∧ u = .int .i64 i ∧ Shp wr B E v l vs ∧ Only (InBE B E) w0 wr
def TRel2 (w0 : World) (B E : Nat) (v : Value) (l : List FunV) (vs : List Value) (n : Nat) (u : Value) (wr : World) : Prop := ∃ j : Nat, j ≤ n ∧ u = .int .i64 j ∧ Shp wr B E v l vs ∧ Only (InBE B E) w0 wr
set_option maxRecDepth 100000 in
set_option maxHeartbeats 8000000 in
theorem ctells_run {l m : List FunV} {W : World} {x y : Value} (hx : FunsAt W x l) (hy : FunsAt W y m) :
    Calls Try.prog 5 #[.agg #[x], .agg #[y]] W fun e w' => e = .returned (.bool true) ∧ Below W.heap.size W w' := by
  have HT : Hid (TlW W x y l m ((W.alloc (.cells #[x] 24)).alloc (.cells #[y] 24))) := Lib.hid ⟨(Blk.new _ _ _).alloc _, Blk.new2 _ _ _ _, (hx.alloc _).alloc _, (hy.alloc _).alloc _, ((Below.refl _ W).alloc (Nat.le_refl _) _).alloc (by simp) _⟩
  obtain ⟨p1, c1, rfl⟩ := hx.slice
  obtain ⟨p2, c2, rfl⟩ := hy.slice
  have HX0 := Lib.hid hx
  clear hx hy
  have HHA := Lib.hid (fun w (h : FunsAt w (.slice p1 l.length c1) l) => heavy_any h)
  have HHB := Lib.hid (fun w (h : FunsAt w (.slice p2 m.length c2) m) => heavy_any h)
  cases ha : heavyB l with
  | true =>
    rw [ha] at HHA
    clear ha
    as_aux_lemma =>
      go_enter Try.func5, Try.ntmps5
      go_wp2_with (first | (go_at_call 10; ((with_reducible refine (calive_any _).mono ?_); rintro e w9 ⟨rfl, b9⟩; have HT := Lib.hid (HT.out.step b9))) | (go_at_call 9; (first | ((with_reducible refine (HHA.out _ HT.out.a).mono ?_); rintro e w1 ⟨rfl, b1⟩; have HT := Lib.hid (HT.out.step b1); obtain ⟨x0, y0⟩ := HT.out.cells; clear b1) | ((with_reducible refine (HHB.out _ HT.out.b).mono ?_); rintro e w2 ⟨rfl, b1⟩; have HT := Lib.hid (HT.out.step b1); obtain ⟨x0, y0⟩ := HT.out.cells; clear b1))))
      go_ret
      exact ⟨rfl, HT.out.bel⟩
  | false =>
    rw [ha] at HHA
    have LA := Lib.hid (heavy_lim ha)
    clear ha
    cases hb : heavyB m with
    | true =>
      rw [hb] at HHB
      clear hb
      as_aux_lemma =>
        go_enter Try.func5, Try.ntmps5
        go_wp2_with (first | (go_at_call 10; ((with_reducible refine (calive_any _).mono ?_); rintro e w9 ⟨rfl, b9⟩; have HT := Lib.hid (HT.out.step b9))) | (go_at_call 9; (first | ((with_reducible refine (HHA.out _ HT.out.a).mono ?_); rintro e w1 ⟨rfl, b1⟩; have HT := Lib.hid (HT.out.step b1); obtain ⟨x0, y0⟩ := HT.out.cells; clear b1) | ((with_reducible refine (HHB.out _ HT.out.b).mono ?_); rintro e w2 ⟨rfl, b1⟩; have HT := Lib.hid (HT.out.step b1); obtain ⟨x0, y0⟩ := HT.out.cells; clear b1))))
        go_ret
        exact ⟨rfl, HT.out.bel⟩
    | false =>
    rw [hb] at HHB
    clear hb
    have HCP := Lib.hid (fun w (h : FunsAt w (.slice p1 l.length c1) l) => copy_any h LA.out)
    have HRP := Lib.hid (fun w (h : FunsAt w (.slice p1 l.length c1) l) => rcopy_any h LA.out)
    have HS1 := Lib.hid (fun w (h : FunsAt w (.slice p1 l.length c1) l) (k : FunsAt w (.slice p2 m.length c2) m) => csame_any h k LA.out)
    have HS2 := Lib.hid (fun w (h : FunsAt w (.slice p1 l.length c1) l) (k : FunsAt w (.slice p2 m.length c2) m) => rsame_any h k LA.out)
    generalize decide (l = m) = d at *
    go_enter Try.func5, Try.ntmps5
    go_upto_region 5 with (first | (go_at_call 9; (first | ((with_reducible refine (HHA.out _ HT.out.a).mono ?_); rintro e w1 ⟨rfl, b1⟩; have HT := Lib.hid (HT.out.step b1); obtain ⟨x0, y0⟩ := HT.out.cells; clear b1) | ((with_reducible refine (HHB.out _ HT.out.b).mono ?_); rintro e w2 ⟨rfl, b1⟩; have HT := Lib.hid (HT.out.step b1); obtain ⟨x0, y0⟩ := HT.out.cells; clear b1))) | (go_at_call 18; ((with_reducible refine (HCP.out _ HT.out.a).mono ?_); rintro e w3 ⟨v3, rfl, hr, b1⟩; obtain ⟨p3, c3, rfl⟩ := hr.slice; have HLT := Lib.hid (And.intro HT.out.t2.lt b1.size); have HT := Lib.hid (HT.out.step b1); have HR3 := Lib.hid hr; have x1 := HT.out.celln; clear b1 hr)) | (go_at_call 19; ((with_reducible refine (HRP.out _ (HT.out.a.alloc _)).mono ?_); rintro e w4 ⟨v4, rfl, hr, b4⟩; obtain ⟨p4, c4, rfl⟩ := hr.slice; have HB4 := Lib.hid b4; have HR4 := Lib.hid hr; clear b4 hr)))
    have hb5 := HB4.out.alloc HB4.out.size (.cells #[.slice p4 l.length c4] 24)
    have hb35 := ((Below.refl w3.heap.size w3).alloc (Nat.le_refl _) (.cells #[.slice p3 l.length c3] 24)).step hb5
    have HT5 := Lib.hid (HT.out.step hb35)
    have TC := Lib.hid ((Blk.new w3 24 #[.slice p3 l.length c3]).below hb5)
    have TD := Lib.hid (Blk.new w4 24 #[.slice p4 l.length c4])
    have HC := Lib.hid (HR3.out.at.below hb35)
    obtain ⟨vs, hsh⟩ := Shp.of HR3.out
    have HSH := Lib.hid (hsh.below hb35)
    have HR5 := Lib.hid (HR4.out.below ((Below.refl _ w4).alloc (Nat.le_refl _) (.cells #[.slice p4 l.length c4] 24)))
    have hDC : w3.heap.size < w4.heap.size := by have := HB4.out.size; simp at this; omega
    have hC0 : (w3.alloc (.cells #[.slice p3 l.length c3] 24)).heap.size = w3.heap.size + 1 := by simp
    rw [hC0] at HR5
    have hlt := HLT.out
    have T0 := Lib.hid HT5.out.t1
    have T1 := Lib.hid HT5.out.t2
    have HA := Lib.hid HT5.out.a
    have HB := Lib.hid HT5.out.b
    have HBEL := Lib.hid HT5.out.bel
    clear hb5 hb35 hsh hC0 HT HT5 HR3 HR4 HB4 HLT HCP HRP x0 y0 x1
    generalize w4.alloc (.cells #[.slice p4 l.length c4] 24) = w5 at *
    generalize w3.heap.size = C at *
    generalize w4.heap.size = D at *
    generalize w2.heap.size = B at *
    refine Reg.wp_rely 19 (fun w => (FunsAt w (.slice p1 l.length c1) l ∧ FunsAt w (.slice p2 m.length c2) m ∧ FunsAt w (.slice p3 l.length c3) l) ∧ (Blk w W.heap.size 24 #[.slice p1 l.length c1] ∧ Blk w (W.heap.size + 1) 24 #[.slice p2 m.length c2] ∧ Blk w C 24 #[.slice p3 l.length c3]) ∧ Below w5.heap.size w5 w) (by kernel_rfl) (Reg.relyOk_of (by kernel_rfl)) ⟨⟨HA.out.drew, HB.out.drew, HC.out.drew⟩, ⟨T0.out.drew, T1.out.drew, TC.out.drew⟩, (Below.refl _ _).drew⟩ (fun w w' h hI => ⟨⟨hI.1.1.below h, hI.1.2.1.below h, hI.1.2.2.below h⟩, ⟨hI.2.1.1.below h, hI.2.1.2.1.below h, hI.2.1.2.2.below h⟩, hI.2.2.trans (h.mono hI.2.2.size)⟩) ?_
    refine Reg.rely_plain (.agg #[.slice p1 l.length c1]) rfl (fun a w hI hF => by
        have f1 : a.tmps.getD 2 undef = .pointer (some ⟨W.heap.size, 0, none⟩) := hF 2 (Reg.looksB (by kernel_rfl))
        have hc := hI.2.1.1.cell 0
        clear hF hI
        simp only [Array.getD_eq_getD_getElem?] at f1
        simp only [execOp]; go_simp) ?_
    refine Reg.rely_plain (.agg #[.slice p2 m.length c2]) rfl (fun a w hI hF => by
        have f1 : a.tmps.getD 3 undef = .pointer (some ⟨W.heap.size + 1, 0, none⟩) := hF 3 (Reg.looksB (by kernel_rfl))
        have hc := hI.2.1.2.1.cell 0
        clear hF hI
        simp only [Array.getD_eq_getD_getElem?] at f1
        simp only [execOp]; go_simp) ?_
    refine Reg.rely_call0 (Reg.Is (.bool d)) (Reg.stab_is _ _) (fun G hG => by cases hG) rfl (fun a w hI hF => by
        have f1 : a.tmps.getD 20 undef = .agg #[.slice p1 l.length c1] := hF 20 (Reg.looksB (by kernel_rfl))
        have f2 : a.tmps.getD 21 undef = .agg #[.slice p2 m.length c2] := hF 21 (Reg.looksB (by kernel_rfl))
        refine ⟨20, #[.agg #[.slice p1 l.length c1], .agg #[.slice p2 m.length c2]], ?_, (HS1.out _ hI.1.1 hI.1.2.1).mono fun e w' h => ⟨_, h.1, rfl, h.2⟩⟩
        clear hF hI
        simp only [Array.getD_eq_getD_getElem?] at f1 f2
        simp only [execOp]; go_simp) ?_
    refine Reg.rely_plain (.agg #[.slice p1 l.length c1]) rfl (fun a w hI hF => by
        have f1 : a.tmps.getD 2 undef = .pointer (some ⟨W.heap.size, 0, none⟩) := hF 2 (Reg.looksB (by kernel_rfl))
        have hc := hI.2.1.1.cell 0
        clear hF hI
        simp only [Array.getD_eq_getD_getElem?] at f1
        simp only [execOp]; go_simp) ?_
    refine Reg.rely_plain (.agg #[.slice p2 m.length c2]) rfl (fun a w hI hF => by
        have f1 : a.tmps.getD 3 undef = .pointer (some ⟨W.heap.size + 1, 0, none⟩) := hF 3 (Reg.looksB (by kernel_rfl))
        have hc := hI.2.1.2.1.cell 0
        clear hF hI
        simp only [Array.getD_eq_getD_getElem?] at f1
        simp only [execOp]; go_simp) ?_
    refine Reg.rely_call0 (Reg.Is (.bool d)) (Reg.stab_is _ _) (fun G hG => by cases hG) rfl (fun a w hI hF => by
        have f1 : a.tmps.getD 23 undef = .agg #[.slice p1 l.length c1] := hF 23 (Reg.looksB (by kernel_rfl))
        have f2 : a.tmps.getD 24 undef = .agg #[.slice p2 m.length c2] := hF 24 (Reg.looksB (by kernel_rfl))
        refine ⟨17, #[.agg #[.slice p1 l.length c1], .agg #[.slice p2 m.length c2]], ?_, (HS2.out _ hI.1.1 hI.1.2.1).mono fun e w' h => ⟨_, h.1, rfl, h.2⟩⟩
        clear hF hI
        simp only [Array.getD_eq_getD_getElem?] at f1 f2
        simp only [execOp]; go_simp) ?_
    refine Reg.rely_plain (.bool false) rfl (fun a w hI hF => by
        have f1 : a.tmps.getD 22 undef = .bool d := hF 22 (Reg.looksB (by kernel_rfl))
        have f2 : a.tmps.getD 25 undef = .bool d := hF 25 (Reg.looksB (by kernel_rfl))
        clear hF hI
        simp only [Array.getD_eq_getD_getElem?] at f1 f2
        simp only [execOp]; go_simp) ?_
    refine Reg.rely_plain (.bool false) rfl (fun a w hI hF => by
        have f1 : a.tmps.getD 26 undef = .bool false := hF 26 (Reg.looksB (by kernel_rfl))
        clear hF hI
        simp only [Array.getD_eq_getD_getElem?] at f1
        simp only [execOp]; go_simp) ?_
    refine Reg.rely_isb (.agg #[.slice p1 l.length c1]) 7 false 27 rfl rfl (fun v w h => h) (fun a w hI hF => by
        have f1 : a.tmps.getD 2 undef = .pointer (some ⟨W.heap.size, 0, none⟩) := hF 2 (Reg.looksB (by kernel_rfl))
        have hc := hI.2.1.1.cell 0
        clear hF hI
        simp only [Array.getD_eq_getD_getElem?] at f1
        simp only [execOp]; go_simp) ?_
    refine Reg.rely_isb (.agg #[.slice p1 l.length c1]) 7 false 27 rfl rfl (fun v w h => h) (fun a w hI hF => by
        have f1 : a.tmps.getD 2 undef = .pointer (some ⟨W.heap.size, 0, none⟩) := hF 2 (Reg.looksB (by kernel_rfl))
        have hc := hI.2.1.1.cell 0
        clear hF hI
        simp only [Array.getD_eq_getD_getElem?] at f1
        simp only [execOp]; go_simp) ?_
    refine Reg.rely_callb (Reg.Is (.bool true)) (Reg.stab_is _ _) (fun G hG => by cases hG) 7 false 27 rfl rfl (fun v w h => h) (fun a w hI hF => by
        have f1 : a.tmps.getD 28 undef = .agg #[.slice p1 l.length c1] := hF 28 (Reg.looksB (by kernel_rfl))
        have f2 : a.tmps.getD 29 undef = .agg #[.slice p1 l.length c1] := hF 29 (Reg.looksB (by kernel_rfl))
        refine ⟨20, #[.agg #[.slice p1 l.length c1], .agg #[.slice p1 l.length c1]], ?_, (csame_t hI.1.1 hI.1.1 LA.out).mono fun e w' h => ⟨_, h.1, rfl, h.2⟩⟩
        clear hF hI
        simp only [Array.getD_eq_getD_getElem?] at f1 f2
        simp only [execOp]; go_simp) ?_
    refine Reg.rely_isb (.bool false) 7 false 27 rfl rfl (fun v w h => h) (fun a w hI hF => by
        have f1 : a.tmps.getD 30 undef = .bool true := hF 30 (Reg.looksB (by kernel_rfl))
        clear hF hI
        simp only [Array.getD_eq_getD_getElem?] at f1
        simp only [execOp]; go_simp) ?_
    refine Reg.rely_plain (.bool false) rfl (fun a w hI hF => by
        have f1 : a.tmps.getD 27 undef = .bool false := hF 27 (Reg.looksB (by kernel_rfl))
        have f2 : a.tmps.getD 31 undef = .bool false := hF 31 (Reg.looksB (by kernel_rfl))
        clear hF hI
        simp only [Array.getD_eq_getD_getElem?] at f1 f2
        simp only [execOp]; go_simp) ?_
    refine Reg.rely_plain (.bool false) rfl (fun a w hI hF => by
        have f1 : a.tmps.getD 32 undef = .bool false := hF 32 (Reg.looksB (by kernel_rfl))
        clear hF hI
        simp only [Array.getD_eq_getD_getElem?] at f1
        simp only [execOp]; go_simp) ?_
    refine Reg.rely_isb (.agg #[.slice p3 l.length c3]) 13 false 33 rfl rfl (fun v w h => h) (fun a w hI hF => by
        have f1 : a.tmps.getD 5 undef = .pointer (some ⟨C, 0, none⟩) := hF 5 (Reg.looksB (by kernel_rfl))
        have hc := hI.2.1.2.2.cell 0
        clear hF hI
        simp only [Array.getD_eq_getD_getElem?] at f1
        simp only [execOp]; go_simp) ?_
    refine Reg.rely_isb (.agg #[.slice p1 l.length c1]) 13 false 33 rfl rfl (fun v w h => h) (fun a w hI hF => by
        have f1 : a.tmps.getD 2 undef = .pointer (some ⟨W.heap.size, 0, none⟩) := hF 2 (Reg.looksB (by kernel_rfl))
        have hc := hI.2.1.1.cell 0
        clear hF hI
        simp only [Array.getD_eq_getD_getElem?] at f1
        simp only [execOp]; go_simp) ?_
    refine Reg.rely_callb (Reg.Is (.bool true)) (Reg.stab_is _ _) (fun G hG => by cases hG) 13 false 33 rfl rfl (fun v w h => h) (fun a w hI hF => by
        have f1 : a.tmps.getD 34 undef = .agg #[.slice p3 l.length c3] := hF 34 (Reg.looksB (by kernel_rfl))
        have f2 : a.tmps.getD 35 undef = .agg #[.slice p1 l.length c1] := hF 35 (Reg.looksB (by kernel_rfl))
        refine ⟨17, #[.agg #[.slice p3 l.length c3], .agg #[.slice p1 l.length c1]], ?_, (rsame_t hI.1.2.2 hI.1.1 LA.out).mono fun e w' h => ⟨_, h.1, rfl, h.2⟩⟩
        clear hF hI
        simp only [Array.getD_eq_getD_getElem?] at f1 f2
        simp only [execOp]; go_simp) ?_
    refine Reg.rely_isb (.bool false) 13 false 33 rfl rfl (fun v w h => h) (fun a w hI hF => by
        have f1 : a.tmps.getD 36 undef = .bool true := hF 36 (Reg.looksB (by kernel_rfl))
        clear hF hI
        simp only [Array.getD_eq_getD_getElem?] at f1
        simp only [execOp]; go_simp) ?_
    refine Reg.rely_plain (.bool false) rfl (fun a w hI hF => by
        have f1 : a.tmps.getD 33 undef = .bool false := hF 33 (Reg.looksB (by kernel_rfl))
        have f2 : a.tmps.getD 37 undef = .bool false := hF 37 (Reg.looksB (by kernel_rfl))
        clear hF hI
        simp only [Array.getD_eq_getD_getElem?] at f1 f2
        simp only [execOp]; go_simp) ?_
    refine Reg.rely_nil ?_
    refine Reg.final_is ?_
    refine Reg.final_is ?_
    refine Reg.final_is ?_
    refine Reg.final_is ?_
    refine Reg.final_is ?_
    refine Reg.final_is ?_
    refine Reg.final_is ?_
    refine Reg.final_is ?_
    refine Reg.final_is ?_
    refine Reg.final_is ?_
    refine Reg.final_is ?_
    refine Reg.final_is ?_
    refine Reg.final_is ?_
    refine Reg.final_is ?_
    refine Reg.final_is ?_
    refine Reg.final_is ?_
    refine Reg.final_is ?_
    refine Reg.final_is ?_
    refine Reg.final_is ?_
    refine Reg.final_nil (fun w9 hF => ?_)
    obtain ⟨⟨_, _, _⟩, ⟨t0, _, tc⟩, hb59⟩ := hF
    have T0 := Lib.hid t0
    have TC := Lib.hid tc
    have TD := Lib.hid (TD.out.below hb59)
    have HSH := Lib.hid (HSH.out.below hb59)
    have HR := Lib.hid (HR5.out.below hb59)
    have HW9 := Lib.hid (HBEL.out.step hb59)
    clear t0 tc hb59 HR5 HBEL HC HA HB T1 HS1 HS2 HHA HHB
    simp only [List.drop_succ_cons, List.drop_zero]
    go_simp
    go_wp2_with fail
    refine Reg.fin (by kernel_rfl) ?_
    go_wp2_with fail
    have hz0 : TRel w9 B C (.slice p3 l.length c3) l vs (.int .i64 0) w9 := ⟨0, by omega, rfl, HSH.out, Only.refl _ _⟩
    clear HSH
    go_loopw [7] (fun u wr => TRel w9 B C (.slice p3 l.length c3) l vs u wr) (fun u _ => ((l.length : Int) - intOf u).toNat)
    case atStart => exact hz0
    case round =>
      clear hz0
      obtain ⟨i, hi1, rfl, hS, hO⟩ := hrel
      have HSH := Lib.hid hS
      have HO := Lib.hid hO
      have z5 : wr.cell? ⟨C, 0, none⟩ = some (.slice p3 l.length c3) := (TC.out.only hO (by unfold InBE; omega)).cell 0
      have hCl := (TC.out.only hO (by unfold InBE; omega)).lt
      by_cases hi : i < l.length
      · have hi' : i < vs.length := by rw [hS.len]; exact hi
        obtain ⟨G, cap, cur, e, hG, hG1, hG2, hcur⟩ := hS.top (by omega)
        injection e with e1 e2 e3
        subst e1 e3
        have y2 : wr.cell? ⟨G, i * 3 + 2, none⟩ = some vs[i] := by rw [hG.cell]; exact (hcur i hi').2
        obtain ⟨pi, ci, hvi, _⟩ := hS.ops i hi hi'
        rw [hvi] at y2
        have hki : (i : Int) < (l.length : Int) := by omega
        have hki0 : (0 : Int) ≤ (i : Int) := by omega
        have hz1 : TRel2 w9 B C (.slice (some ⟨G, 0, none⟩) l.length c3) l vs l[i].ops.length (.int .i64 0) wr := ⟨0, by omega, rfl, hS, hO⟩
        have HVI := Lib.hid hvi
        have HG12 := Lib.hid (And.intro hG1 hG2)
        clear hS hO hG hG1 hG2 hcur hvi y2 HSH HO
        have hn200 := LA.out.2 _ (List.getElem_mem hi)
        have hl60 := LA.out.1
        generalize hol : l[i].ops.length = n at *
        have HOL := Lib.hid hol
        clear hol
        obtain ⟨wz, rfl⟩ : ∃ wz, wz = wr := ⟨_, rfl⟩
        go_wp2_with fail
        go_loopw [8] (fun u wq => TRel2 w9 B C (.slice (some ⟨G, 0, none⟩) l.length c3) l vs n u wq) (fun u _ => ((n : Int) - intOf u).toNat)
        case atStart => exact hz1
        case round =>
          clear hz1 z5 hCl
          obtain ⟨j, hj1, rfl, hS, hO⟩ := hrel
          obtain ⟨G', cap', cur', e', hG', hG1, hG2, hcur'⟩ := hS.top (by omega)
          injection e' with e1 _ e3
          injection e1 with e1
          injection e1 with e1 _ _
          subst e1
          have z5 : wr.cell? ⟨C, 0, none⟩ = some (.slice (some ⟨G, 0, none⟩) l.length c3) := (TC.out.only hO (by unfold InBE; omega)).cell 0
          have y2 : wr.cell? ⟨G, i * 3 + 2, none⟩ = some (.slice pi n ci) := by rw [hG'.cell, (hcur' i hi').2, HVI.out]
          have HSH := Lib.hid hS
          have HO := Lib.hid hO
          by_cases hj : j < n
          · have hjn : (j : Int) < (n : Int) := by omega
            have hjn0 : (0 : Int) ≤ (j : Int) := by omega
            obtain ⟨p', cap'', e'', hx⟩ := hS.ops i hi hi'
            rw [HVI.out] at e''
            injection e'' with e1 _ _
            subst e1
            obtain ⟨g, cur2, rfl, hg, hg1, hg2, hz⟩ := hx (by have := HOL.out; omega)
            obtain ⟨z, hz⟩ := hz j (by have := HOL.out; omega)
            have x0 : wr.cell? ⟨g, j * 5, none⟩ = some z := by rw [hg.cell]; exact hz
            have fz : ∀ o, wr.frozen? ⟨g, o, none⟩ = false := hg.frozen
            have HG := Lib.hid hg
            have HGG := Lib.hid (And.intro hg1 hg2)
            clear hS hO hG' hG1 hG2 hcur' hx hg hz hg1 hg2
            as_aux_lemma =>
            go_wp2_with fail
            go_roundw
            case rel => exact ⟨j + 1, by omega, rfl, HSH.out.set (fun cur hc => absurd (Blk.same HG.out hc).1 (by decide)), HO.out.setCell (Or.inl (show InBE B C g from HGG.out)) _⟩
            case measure => simp [intOf]; omega
          · have : j = n := by omega
            subst this
            obtain ⟨z, hz⟩ := (hcur' i hi').1
            have x0 : wr.cell? ⟨G, i * 3, none⟩ = some z := by rw [hG'.cell]; exact hz
            have fz : ∀ o, wr.frozen? ⟨G, o, none⟩ = false := hG'.frozen
            clear hS hO hG' hG1 hG2 hcur' hz
            as_aux_lemma =>
            go_wp2_with fail
            go_roundw
            case rel => exact ⟨i + 1, by omega, rfl, HSH.out.set (fun cur hc => ⟨i, rfl⟩), HO.out.setCell (Or.inl (show InBE B C G from HG12.out)) _⟩
            case measure => simp [intOf]; omega
      · have : i = l.length := by omega
        subst this
        have x0 : wr.cell? ⟨W.heap.size, 0, none⟩ = some (.slice p1 l.length c1) := (T0.out.only hO (by unfold InBE; omega)).cell 0
        have d0 : wr.cell? ⟨D, 0, none⟩ = some (.slice p4 l.length c4) := (TD.out.only hO (by unfold InBE; omega)).cell 0
        have hW := HW9.out.trans (hO.below (B := W.heap.size) HW9.out.size (fun k hk => by unfold InBE at hk; omega))
        have HA := Lib.hid (HX0.out.below hW)
        have HD := Lib.hid (HR.out.above hO (fun k hk => by unfold InBE at hk; omega)).at
        have HW := Lib.hid hW
        have HS3 := Lib.hid (fun w (h : FunsAt w (.slice p1 l.length c1) l) (k : FunsAt w (.slice p4 l.length c4) l) => rsame_t h k LA.out)
        clear hS hO hW HX0 T0 TC TD HSH HO HR HW9 hCl
        as_aux_lemma =>
        go_wp2_with (first | (go_at_call 17; ((with_reducible refine (HS3.out _ HA.out HD.out).mono ?_); rintro e w7 ⟨rfl, b1⟩; have HW := Lib.hid (HW.out.step b1); clear b1)) | (go_at_call 10; ((with_reducible refine (calive_any _).mono ?_); rintro e w8 ⟨rfl, b8⟩)))
        go_ret
        exact ⟨rfl, HW.out.step b8⟩
set_option maxRecDepth 100000 in
theorem ctells_open {H : Type} {enc : TypeId × Value → H} {W : World} {base : Nat} {held : Bool} {r : Reach} {b0 b1 : Nat} {d1 d2 : DataW H} {ps1 ps2 : List MemPlace} {x y : Value}
    (hval1 : Value.okWide Try.prog W r b0 24 x) (hd1 : DataW.Trod enc Try.prog W base (fun _ => true) held 24 x d1 ps1) (_ : ∀ x ∈ ps1, x.block < W.heap.size)
    (hval2 : Value.okWide Try.prog W r b1 24 y) (hd2 : DataW.Trod enc Try.prog W base (fun _ => true) held 24 y d2 ps2) (_ : ∀ x ∈ ps2, x.block < W.heap.size) :
    Calls Try.prog 5 #[x, y] W fun e w' => e = .returned (.bool true) ∧ Below W.heap.size W w' := by
  obtain ⟨u, l, rfl, hv, ho⟩ := open_prog hval1 hd1
  obtain ⟨u2, m, rfl, hv2, ho2⟩ := open_prog hval2 hd2
  exact ctells_run hv hv2
end Go.Proofs.Ytbpakckiglgjfaa
