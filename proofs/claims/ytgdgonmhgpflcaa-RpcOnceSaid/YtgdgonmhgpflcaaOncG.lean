import Derived.Test.YtgdgonmhgpflcaaMgm

/- The walk of RpcOnce's 'caller': the caller begins anew. No condition but that there were not too many. -/
namespace Go.Proofs.Ytgdgonmhgpflcaa
open Go.RowKit Go.Maps Wire Rp
set_option linter.unusedVariables false
set_option linter.unusedSimpArgs false
def newS (inc : Int) : St := ⟨inc, 4, 16, 60, 0, [], [], []⟩
/-- The world and a caller that was made just now. -/
structure OC (w0 w : World) (g cx hx : Nat) (Bp Mp : Int → Nat) (d : Wd) (vc va vn vw vj : Value) (N bd b h : Nat) (st : St) : Prop where
  ob : OB w0 w g cx hx Bp Mp d vc va vn vw vj N
  cw : CW w w0.heap.size bd bd b h (fun _ => 0) st (.slice none 0 0) (.slice none 0 0) N
  ap : ¬ MO hx Mp d.d h
  bd : w0.heap.size ≤ bd
section
variable {w0 w w' : World} {g b h cx hx bd ha hd N : Nat} {Bp Mp : Int → Nat} {d : Wd} {vw vj vc va vn v : Value} {st : St}
theorem OC.below (x : OC w0 w g cx hx Bp Mp d vc va vn vw vj N bd b h st) (hb : Below w.heap.size w w') : OC w0 w' g cx hx Bp Mp d vc va vn vw vj N bd b h st := ⟨x.ob.below hb, x.cw.below hb, x.ap, x.bd⟩
theorem OC.set (x : OC w0 w g cx hx Bp Mp d vc va vn vw vj N bd b h st) (hs : st.L = []) {f : Nat} {vc' va' vn' : Value} (hc : (#[vc, .pointer (some ⟨cx, 0, none⟩), .int .u64 d.inc, .int .i64 d.now, vw, vj, va, vn, .bool true] : Array Value).setIfInBounds f v = #[vc', .pointer (some ⟨cx, 0, none⟩), .int .u64 d.inc, .int .i64 d.now, vw, vj, va', vn', .bool true]) :
    OC w0 (w.setCell ⟨g, f, none⟩ v) g cx hx Bp Mp d vc' va' vn' vw vj N bd b h st := by
  have o : Only (· = g) w (w.setCell ⟨g, f, none⟩ v) := (Only.refl (· = g) w).set1
  refine ⟨x.ob.set hc ⟨rfl, rfl, rfl⟩, x.cw.only o (fun e => ?_) (fun e => ?_) (fun y hy => by rw [hs] at hy; cases hy) (fun k hk => by cases hk) (fun k hk => by cases hk), x.ap, x.bd⟩
  · have e' : b = g := e
    subst e'
    exact absurd (blk_ne x.cw.blk x.ob.blk) (by decide)
  · have e' : h = g := e
    subst e'
    exact x.cw.mp.no_cells x.ob.blk
/-- Once both maps are made. -/
theorem OC.ow (x : OC w0 w g cx hx Bp Mp d (.pointer (some ⟨b, 0, none⟩)) (.map (some ha)) (.map (some hd)) vw vj N bd b h st) (ma : Ml.At layA Try.prog 22 w ha [] N) (mn : Ml.At layN Try.prog 22 w hd [] N) (ne : ha ≠ h ∧ hd ≠ h ∧ ¬ MO hx Mp d.d ha ∧ ¬ MO hx Mp d.d hd ∧ ha ≠ hd) (lo : w0.heap.size ≤ ha ∧ w0.heap.size ≤ hd) :
    OW w0 w g b h cx hx bd bd (fun _ => 0) Bp Mp { d with c := st, ask := [], dn := [] } (.slice none 0 0) (.slice none 0 0) vw vj ha hd N true :=
  ⟨⟨x.cw, x.ob.cd, x.ob.bel, x.ap⟩, x.ob.blk, x.ob.wr, x.ob.jr, ma, mn, ne, x.ob.lo, lo⟩
theorem CW.lower {B0 B1 bo : Nat} {B : Int → Nat} (c : CW w B1 bd bo b h B st vw vj N) (hB : B0 ≤ B1) : CW w B0 bd bo b h B st vw vj N :=
  ⟨c.blk, c.mp, fun x hx => ⟨(c.cl x hx).1, Nat.le_trans hB (c.cl x hx).2⟩, c.inj, c.du, c.ov, ⟨Nat.le_trans hB c.ge.1, Nat.le_trans hB c.ge.2.1, Nat.le_trans hB c.ge.2.2.1, Nat.le_trans hB c.ge.2.2.2⟩, c.sz, c.inv⟩
theorem oc_new (x : OB w0 w g cx hx Bp Mp d vc va vn vw vj N) (c : CW w' w.heap.size w.heap.size w.heap.size b h (fun _ => 0) st (.slice none 0 0) (.slice none 0 0) 0) (hb : Below w.heap.size w w') : OC w0 w' g cx hx Bp Mp d vc va vn vw vj N w.heap.size b h st :=
  ⟨x.below hb, (c.lower x.bel.size).mono (Nat.zero_le N), fun e => by have := mo_lt x.cd e; have := c.ge.2.1; omega, x.bel.size⟩
end
def CalP (w0 : World) (g : Nat) (d : Wd) (N : Nat) (e : Ending) (w' : World) : Prop := e = .returned (.tuple #[]) ∧ OP w0 w' g (crashW d) true N
theorem new_ok {i : Int} (h : 1 ≤ i ∧ i ≤ 1000000) : confB i 4 16 60 = true := by
  unfold confB
  simp only [Bool.and_eq_true, decide_eq_true_eq]
  omega
set_option maxRecDepth 100000 in
set_option maxHeartbeats 4000000 in
theorem caller_any {w0 w : World} {g cx hx N : Nat} {Bp Mp : Int → Nat} {d : Wd} {vc va vn vw vj : Value} (x : OB w0 w g cx hx Bp Mp d vc va vn vw vj N) (hi : 0 ≤ d.inc ∧ d.inc < 1000000) :
    Calls Try.prog 22 #[.pointer (some ⟨g, 0, none⟩)] w (CalP w0 g d N) := by
  have HX0 := Lib.hid x
  have HI := Lib.hid hi
  have c2 : w.cell? ⟨g, 2, none⟩ = some (.int .u64 d.inc) := x.blk.cell 2
  have f2 := x.blk.frozen 2
  have hw : IntKind.u64.wrap (d.inc + 1) = d.inc + 1 := by rw [IntKind.wrap_u64]; omega
  clear x hi
  go_enter Try.func22, Try.ntmps22
  go_upto_region 1 with fail
  have HX1 : Hid (OB w0 (w.setCell ⟨g, 2, none⟩ (.int .u64 (d.inc + 1))) g cx hx Bp Mp { d with inc := d.inc + 1 } vc va vn vw vj N) := Lib.hid (HX0.out.set rfl ⟨rfl, rfl, rfl⟩)
  clear c2 f2 hw HX0
  generalize w.setCell ⟨g, 2, none⟩ (.int .u64 (d.inc + 1)) = w1 at *
  have HNC := Lib.hid (newc_any (new_ok (i := d.inc + 1) (by have := HI.out; omega)) w1 (B0 := w1.heap.size) (Nat.le_refl _))
  have c2 : w1.cell? ⟨g, 2, none⟩ = some (.int .u64 (d.inc + 1)) := HX1.out.blk.cell 2
  go_upto_region 2 with (go_at_call 29; go_loud ((with_reducible refine HNC.out.mono ?_); rintro e w2 ⟨b, h, rfl, hc, hb⟩; have HC2 := Lib.hid (oc_new HX1.out hc hb); have c8 : w2.cell? ⟨g, 8, none⟩ = some (.bool true) := HC2.out.ob.blk.cell 8; have f8 := HC2.out.ob.blk.frozen 8; clear hc hb))
  clear c2 HNC HX1
  go_upto_region 3 with fail
  have HC3 := Lib.hid (HC2.out.set (v := .bool true) (f := 8) rfl rfl)
  clear c8 f8 HC2
  generalize w2.setCell ⟨g, 8, none⟩ (.bool true) = w3 at *
  have c0 : w3.cell? ⟨g, 0, none⟩ = some vc := HC3.out.ob.blk.cell 0
  have f0 := HC3.out.ob.blk.frozen 0
  go_upto_region 4 with fail
  have HC4 := Lib.hid (HC3.out.set (v := .pointer (some ⟨b, 0, none⟩)) (f := 0) rfl rfl)
  clear c0 f0 HC3
  generalize w3.setCell ⟨g, 0, none⟩ (.pointer (some ⟨b, 0, none⟩)) = w4 at *
  have HC5 := Lib.hid (HC4.out.below ((Below.refl _ _).alloc (Nat.le_refl _) (.map #[] 0)))
  have c6 : (w4.alloc (.map #[] 0)).cell? ⟨g, 6, none⟩ = some va := HC5.out.ob.blk.cell 6
  have f6 := HC5.out.ob.blk.frozen 6
  have hmm := @run_makeMap Try.prog
  go_upto_region 5 with fail
  have HM5 : Hid (Ml.At layA Try.prog 22 ((w4.alloc (.map #[] 0)).setCell ⟨g, 6, none⟩ (.map (some w4.heap.size))) w4.heap.size [] 0) := Lib.hid ((Ml.At.made w4 Try.prog 22 layA).only ((Only.refl (· = g) _).set1) (fun e => by have := HC4.out.ob.blk.lt; have e' : w4.heap.size = g := e; omega))
  have HC6 := Lib.hid (HC5.out.set (v := .map (some w4.heap.size)) (f := 6) rfl rfl)
  have HNE : Hid (w4.heap.size ≠ h ∧ ¬ MO hx Mp d.d w4.heap.size ∧ w0.heap.size ≤ w4.heap.size ∧ w4.heap.size < ((w4.alloc (.map #[] 0)).setCell ⟨g, 6, none⟩ (.map (some w4.heap.size))).heap.size) := Lib.hid ⟨fun e => by have := HC4.out.cw.mp.lt; omega, fun e => by have := mo_lt HC4.out.ob.cd e; omega, HC4.out.ob.bel.size, by rw [setCell_size]; simp⟩
  clear c6 f6 HC4 HC5
  generalize (w4.alloc (.map #[] 0)).setCell ⟨g, 6, none⟩ (.map (some w4.heap.size)) = w5 at *
  generalize w4.heap.size = ha at *
  have HC7 := Lib.hid (HC6.out.below ((Below.refl _ _).alloc (Nat.le_refl _) (.map #[] 0)))
  have HM6 : Hid (Ml.At layA Try.prog 22 ((w5.alloc (.map #[] 0)).setCell ⟨g, 7, none⟩ (.map (some w5.heap.size))) ha [] 0) := Lib.hid ((HM5.out.below ((Below.refl _ w5).alloc (Nat.le_refl _) (.map #[] 0))).only ((Only.refl (· = g) _).set1) (fun e => at_noblk HM5.out HC6.out.ob.blk e))
  have HN6 : Hid (Ml.At layN Try.prog 22 ((w5.alloc (.map #[] 0)).setCell ⟨g, 7, none⟩ (.map (some w5.heap.size))) w5.heap.size [] 0) := Lib.hid ((Ml.At.made w5 Try.prog 22 layN).only ((Only.refl (· = g) _).set1) (fun e => by have := HC6.out.ob.blk.lt; have e' : w5.heap.size = g := e; omega))
  have HC8 := Lib.hid (HC7.out.set (v := .map (some w5.heap.size)) (f := 7) rfl rfl)
  have HOW := Lib.hid (HC8.out.ow (HM6.out.mono (Nat.zero_le N)) (HN6.out.mono (Nat.zero_le N)) ⟨HNE.out.1, fun e => by have := HC6.out.cw.mp.lt; omega, HNE.out.2.1, fun e => by have := mo_lt HC6.out.ob.cd e; omega, by have := HNE.out.2.2.2; omega⟩ ⟨HNE.out.2.2.1, HC6.out.ob.bel.size⟩)
  have c7 : (w5.alloc (.map #[] 0)).cell? ⟨g, 7, none⟩ = some vn := HC7.out.ob.blk.cell 7
  have f7 := HC7.out.ob.blk.frozen 7
  clear HC6 HC7 HM5 HM6 HN6 HC8 HNE
  go_wp2_with fail
  go_end0
  exact ⟨rfl, _, _, _, _, _, _, _, _, _, _, _, _, _, _, _, HOW.out⟩
end Go.Proofs.Ytgdgonmhgpflcaa
