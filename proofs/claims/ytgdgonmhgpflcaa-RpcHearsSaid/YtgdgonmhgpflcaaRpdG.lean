import Derived.Test.YtgdgonmhgpflcaaRpdF
import Derived.Test.YtgdgonmhgpflcaaRpcY

/- The script of RpcCalls, opened out of its reading; the statements' guard. No condition. -/
namespace Go.Proofs.Ytgdgonmhgpflcaa
open Go.RowKit Go.Maps Wire Rp
set_option linter.unusedVariables false
set_option linter.unusedSimpArgs false
namespace Rp
structure StepR where
  d : Int
  a : Int
  s : ByteArray
  now : Int
  n : Int
  m : Int
  p : Pk
instance : Inhabited StepR := ⟨⟨0, 0, ⟨#[]⟩, 0, 0, 0, ⟨false, 0, 0, ⟨#[]⟩⟩⟩⟩
end Rp
def StepAt (W : World) (g o : Nat) (s : StepR) : Prop :=
  W.cell? ⟨g, o, none⟩ = some (.int .i64 s.d) ∧ W.cell? ⟨g, o + 1, none⟩ = some (.int .i64 s.a) ∧ W.cell? ⟨g, o + 2, none⟩ = some (.string s.s) ∧ W.cell? ⟨g, o + 3, none⟩ = some (.int .i64 s.now) ∧
    W.cell? ⟨g, o + 4, none⟩ = some (.int .u64 s.n) ∧ W.cell? ⟨g, o + 5, none⟩ = some (.int .u64 s.m) ∧
    W.cell? ⟨g, o + 6, none⟩ = some (.bool s.p.an) ∧ W.cell? ⟨g, o + 7, none⟩ = some (.int .u64 s.p.inc) ∧ W.cell? ⟨g, o + 8, none⟩ = some (.int .u64 s.p.seq) ∧ W.cell? ⟨g, o + 9, none⟩ = some (.string s.p.body)
def StepOk (s : StepR) : Prop := U64 s.n ∧ U64 s.m ∧ U64 s.p.inc ∧ U64 s.p.seq ∧ s.s.size ≤ maxLen ∧ s.p.body.size ≤ maxLen
def ScriptR (W : World) (v : Value) (n : Nat) (sx : Nat → StepR) : Prop :=
  ∃ p cap, v = .slice p n cap ∧ (0 < n → ∃ g off, p = some ⟨g, off, none⟩ ∧ g < W.heap.size ∧ ∀ i, i < n → StepAt W g (off + i * 10) (sx i) ∧ StepOk (sx i))
theorem StepAt.below {W w' : World} {g o : Nat} {s : StepR} (h : StepAt W g o s) (hb : Below W.heap.size W w') (hg : g < W.heap.size) : StepAt w' g o s := by
  unfold StepAt at *
  rw [hb.cell (p := ⟨g, o, none⟩) hg, hb.cell (p := ⟨g, o + 1, none⟩) hg, hb.cell (p := ⟨g, o + 2, none⟩) hg, hb.cell (p := ⟨g, o + 3, none⟩) hg, hb.cell (p := ⟨g, o + 4, none⟩) hg, hb.cell (p := ⟨g, o + 5, none⟩) hg, hb.cell (p := ⟨g, o + 6, none⟩) hg, hb.cell (p := ⟨g, o + 7, none⟩) hg, hb.cell (p := ⟨g, o + 8, none⟩) hg, hb.cell (p := ⟨g, o + 9, none⟩) hg]
  exact h
theorem ScriptR.below {W w' : World} {v : Value} {n : Nat} {sx : Nat → StepR} (h : ScriptR W v n sx) (hb : Below W.heap.size W w') : ScriptR w' v n sx := by
  obtain ⟨p, cap, e, h⟩ := h
  exact ⟨p, cap, e, fun hn => by
    obtain ⟨g, off, e, hg, hx⟩ := h hn
    exact ⟨g, off, e, Nat.lt_of_lt_of_le hg hb.size, fun i hi => ⟨(hx i hi).1.below hb hg, (hx i hi).2⟩⟩⟩
section
open Go.ChangeShapes Go.WideShapes Go.Deep
variable {H : Type} {enc : TypeId × Value → H} {W : World} {base : Nat} {held : Bool}
/-- A field of a struct's cells that is a struct itself. -/
theorem open_part {P : Program} {w : World} {t : TypeId} {fs : Array Field} {fuel : Nat} {cs : List Value} {x : DataW H × List MemPlace} (hs : P.underlying t = some (.struct fs)) (h : DataW.trod enc P w base (fun _ => true) held fuel t cs = some x)
    (i : Nat) (f : Field) (hf : fs[i]? = some f) (o : Nat) (ho : f.offset = o) {k : Nat} (hc : P.cellsOf f.type = k) :
    ∃ m y, DataW.trod enc P w base (fun _ => true) held m f.type ((cs.drop o).take k) = some y := by
  obtain ⟨xs, m, _, _, _, hl, hx⟩ := DataW.trod_struct hs h
  have := hx i f hf
  have hi : i < fs.size := (Array.getElem?_eq_some_iff.1 hf).1
  rw [ho, hc, List.getElem?_eq_getElem (by omega)] at this
  exact ⟨m, xs[i]'(by omega), this⟩
set_option maxRecDepth 100000 in
theorem open_scriptR {r : Reach} {b0 : Nat} {v : Value} {d : DataW H} {ps : List MemPlace} (hval : Value.okWide Try.prog W r b0 85 v) (hd : DataW.Trod enc Try.prog W base (fun _ => true) held 85 v d ps) :
    ∃ n sx, ScriptR W v n sx := by
  obtain ⟨p, n, cap, rfl, h⟩ := open_rows (e := 90) (m := 10) Try.underlying85 (by kernel_rfl) (by decide) hval hd
  by_cases hn : 0 < n
  · obtain ⟨g, off, rfl, hg, hx⟩ := h hn
    have key : ∀ i, i < n → ∃ s : StepR, StepAt W g (off + i * 10) s ∧ StepOk s := by
      intro i hi
      obtain ⟨cs, fuel, x, hlen, hcell, hy⟩ := hx i hi
      have f := fun (k : Nat) (fd : Field) (hf : _) (ho : fd.offset = k) (hc : Try.prog.cellsOf fd.type = 1) (hlt : k < cs.length) => open_field (P := Try.prog) (t := 90) Try.underlying90 hy k fd hf k ho hc hlt
      obtain ⟨m0, y0, e0⟩ := f 0 _ rfl rfl (by kernel_rfl) (by omega)
      obtain ⟨m1, y1, e1⟩ := f 1 _ rfl rfl (by kernel_rfl) (by omega)
      obtain ⟨m2, y2, e2⟩ := f 2 _ rfl rfl (by kernel_rfl) (by omega)
      obtain ⟨m3, y3, e3⟩ := f 3 _ rfl rfl (by kernel_rfl) (by omega)
      obtain ⟨m4, y4, e4⟩ := f 4 _ rfl rfl (by kernel_rfl) (by omega)
      obtain ⟨m5, y5, e5⟩ := f 5 _ rfl rfl (by kernel_rfl) (by omega)
      obtain ⟨m6, y6, e6⟩ := open_part (P := Try.prog) (t := 90) Try.underlying90 hy 6 _ rfl 6 rfl (k := 4) (by kernel_rfl)
      obtain ⟨n0, z0, _, _⟩ := DataW.trod_int (k := .i64) (by kernel_rfl) e0
      obtain ⟨n1, z1, _, _⟩ := DataW.trod_int (k := .i64) (by kernel_rfl) e1
      obtain ⟨n2, z2, _, w2⟩ := DataW.trod_string (by kernel_rfl) e2
      obtain ⟨n3, z3, _, _⟩ := DataW.trod_int (k := .i64) (by kernel_rfl) e3
      obtain ⟨n4, z4, _, w4⟩ := DataW.trod_int (k := .u64) (by kernel_rfl) e4
      obtain ⟨n5, z5, _, w5⟩ := DataW.trod_int (k := .u64) (by kernel_rfl) e5
      obtain ⟨pk, z6, v1, v2, v3⟩ := open_pk (cs := (cs.drop 6).take 4) (by rw [List.length_take, List.length_drop]; omega) e6
      have g := fun (j : Nat) (hj : j < 10) (u : Value) (hu : [cs.getD j undef] = [u]) => show W.cell? ⟨g, off + i * 10 + j, none⟩ = some u by
        rw [hcell j hj, List.getElem?_eq_getElem (by omega)]
        simp only [List.getD, List.getElem?_eq_getElem (show j < cs.length by omega), Option.getD_some, List.cons.injEq, and_true] at hu
        rw [hu]
      have q := fun (j : Nat) (hj : j < 4) => show W.cell? ⟨_, off + i * 10 + (6 + j), none⟩ = (pcells pk).toList[j]? by
        rw [hcell (6 + j) (by omega), ← z6, List.getElem?_take_of_lt hj, List.getElem?_drop]
      exact ⟨⟨n0, n1, n2, n3, n4, n5, pk⟩, ⟨g 0 (by omega) _ z0, g 1 (by omega) _ z1, g 2 (by omega) _ z2, g 3 (by omega) _ z3, g 4 (by omega) _ z4, g 5 (by omega) _ z5, q 0 (by omega), q 1 (by omega), q 2 (by omega), q 3 (by omega)⟩,
        u64_of w4, u64_of w5, v1, v2, w2, v3⟩
    obtain ⟨sx, hsx⟩ := choose_fn key
    exact ⟨n, sx, _, cap, rfl, fun _ => ⟨g, off, rfl, hg, hsx⟩⟩
  · exact ⟨n, fun _ => default, p, cap, rfl, fun h => absurd h hn⟩
end
def HvPost (n : Nat) (W : World) (e : Ending) (w' : World) : Prop := (∃ r : Bool, e = .returned (.bool r) ∧ (r = false → n ≤ 250)) ∧ Below W.heap.size W w'
def HvR (n : Nat) (W : World) (v u : Value) (wr : World) : Prop := ∃ (i : Nat) (acc : Int), v = .int .i64 acc ∧ u = .int .i64 i ∧ i ≤ n ∧ i ≤ 400 ∧ Below W.heap.size W wr
set_option maxRecDepth 100000 in
set_option maxHeartbeats 2000000 in
theorem heavyR {W : World} {v : Value} {n : Nat} {sx : Nat → StepR} (hv : ScriptR W v n sx) :
    Calls Try.prog 33 #[v] W (HvPost n W) := by
  have HV := Lib.hid hv
  obtain ⟨p, cap, rfl, _⟩ := hv
  go_enter Try.func33, Try.ntmps33
  go_wp2_with fail
  go_loopw [3, 4] (fun v u wr => HvR n W v u wr) (fun _ u _ => ((401 : Int) - intOf u).toNat)
  case atStart => exact ⟨0, 0, rfl, rfl, Nat.zero_le _, by decide, Below.refl _ _⟩
  case round =>
    obtain ⟨i, acc, rfl, rfl, hi, hi3, hbw⟩ := hrel
    have HI := Lib.hid (And.intro hi hi3)
    have HBW := Lib.hid hbw
    clear hi hi3
    by_cases hin : i < n
    · have hin' : (i : Int) < (n : Int) := by omega
      by_cases h3 : i < 400
      · have h3' : (i : Int) < 400 := by omega
        have hi0 : (0 : Int) ≤ (i : Int) := by omega
        obtain ⟨p', c', e1, hx⟩ := HV.out.below hbw
        injection e1 with e1 e2 e3
        subst e1 e3
        obtain ⟨g, off, rfl, hg, hx⟩ := hx (by omega)
        obtain ⟨⟨x0, x1, x2, x3, x4, x5, x6, x7, x8, x9⟩, _⟩ := hx i hin
        have HE : Hid (wrap64 ((i : Int) + 1) = ((i + 1 : Nat) : Int)) := Lib.hid (Sou.w64n rfl (by omega))
        have HLN := Lib.hid (And.intro hin h3)
        clear hx x0 x1 x3 x4 x5 x6 x7 x8 hin h3 e2 hbw
        generalize (sx i).s = ss at *
        generalize (sx i).p.body = sb at *
        go_wp2_with (refine Reg.wp_text (by kernel_rfl) (by kernel_rfl) ?_)
        refine Reg.fin (by kernel_rfl) ?_
        go_wp2_with fail
        go_roundw
        case rel => exact ⟨i + 1, _, rfl, rfl, HLN.out.1, by have := HLN.out.2; omega, HBW.out.drew⟩
        case measure => have := HLN.out; simp [intOf]; omega
      · have h3' : ¬ (i : Int) < 400 := by omega
        have hn' : (250 : Int) < (n : Int) := by omega
        clear hin h3 hbw
        go_wp2_with fail
        go_ret
        exact ⟨⟨true, rfl, fun h => by cases h⟩, HBW.out⟩
    · obtain rfl : i = n := by have := HI.out; omega
      have hin' : ¬ (i : Int) < (i : Int) := by omega
      clear hin hbw
      by_cases h150 : 250 < i
      · have h150' : (250 : Int) < (i : Int) := by omega
        clear h150
        go_wp2_with fail
        go_ret
        exact ⟨⟨true, rfl, fun h => by cases h⟩, HBW.out⟩
      · have h150' : ¬ (250 : Int) < (i : Int) := by omega
        have H150 := Lib.hid h150
        clear h150
        go_wp2_with fail
        go_ret
        exact ⟨⟨_, rfl, fun _ => by have := H150.out; omega⟩, HBW.out⟩
end Go.Proofs.Ytgdgonmhgpflcaa
