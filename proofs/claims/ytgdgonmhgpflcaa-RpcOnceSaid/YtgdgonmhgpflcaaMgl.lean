import Derived.Test.YtgdgonmhgpflcaaRpdF
import Derived.Test.YtgdgonmhgpflcaaMgj
import Derived.Test.YtgdgonmhgpflcaaRpeF
import Derived.Test.YtgdgonmhgpflcaaMgd
import Derived.ArgAppend

/- The script of RpcCalls, opened out of its reading; the statements' guard. No condition. -/
namespace Go.Proofs.Ytgdgonmhgpflcaa
open Go.RowKit Go.Maps Wire Rp
set_option linter.unusedVariables false
set_option linter.unusedSimpArgs false
namespace Rp
structure StepR where
  d : Int
  a : Int
  s : ByteArray
  now : Int
  n : Int
  m : Int
  p : Pk
instance : Inhabited StepR := ⟨⟨0, 0, ⟨#[]⟩, 0, 0, 0, ⟨false, 0, 0, ⟨#[]⟩⟩⟩⟩
end Rp
def StepAt (W : World) (g o : Nat) (s : StepR) : Prop :=
  W.cell? ⟨g, o, none⟩ = some (.int .i64 s.d) ∧ W.cell? ⟨g, o + 1, none⟩ = some (.int .i64 s.a) ∧ W.cell? ⟨g, o + 2, none⟩ = some (.string s.s) ∧ W.cell? ⟨g, o + 3, none⟩ = some (.int .i64 s.now) ∧
    W.cell? ⟨g, o + 4, none⟩ = some (.int .u64 s.n) ∧ W.cell? ⟨g, o + 5, none⟩ = some (.int .u64 s.m) ∧
    W.cell? ⟨g, o + 6, none⟩ = some (.bool s.p.an) ∧ W.cell? ⟨g, o + 7, none⟩ = some (.int .u64 s.p.inc) ∧ W.cell? ⟨g, o + 8, none⟩ = some (.int .u64 s.p.seq) ∧ W.cell? ⟨g, o + 9, none⟩ = some (.string s.p.body)
def StepOk (s : StepR) : Prop := U64 s.n ∧ U64 s.m ∧ U64 s.p.inc ∧ U64 s.p.seq ∧ s.s.size ≤ maxLen ∧ s.p.body.size ≤ maxLen
def ScriptR (W : World) (v : Value) (n : Nat) (sx : Nat → StepR) : Prop :=
  ∃ p cap, v = .slice p n cap ∧ (0 < n → ∃ g off, p = some ⟨g, off, none⟩ ∧ g < W.heap.size ∧ ∀ i, i < n → StepAt W g (off + i * 10) (sx i) ∧ StepOk (sx i))
theorem StepAt.below {W w' : World} {g o : Nat} {s : StepR} (h : StepAt W g o s) (hb : Below W.heap.size W w') (hg : g < W.heap.size) : StepAt w' g o s := by
  unfold StepAt at *
  rw [hb.cell (p := ⟨g, o, none⟩) hg, hb.cell (p := ⟨g, o + 1, none⟩) hg, hb.cell (p := ⟨g, o + 2, none⟩) hg, hb.cell (p := ⟨g, o + 3, none⟩) hg, hb.cell (p := ⟨g, o + 4, none⟩) hg, hb.cell (p := ⟨g, o + 5, none⟩) hg, hb.cell (p := ⟨g, o + 6, none⟩) hg, hb.cell (p := ⟨g, o + 7, none⟩) hg, hb.cell (p := ⟨g, o + 8, none⟩) hg, hb.cell (p := ⟨g, o + 9, none⟩) hg]
  exact h
theorem ScriptR.below {W w' : World} {v : Value} {n : Nat} {sx : Nat → StepR} (h : ScriptR W v n sx) (hb : Below W.heap.size W w') : ScriptR w' v n sx := by
  obtain ⟨p, cap, e, h⟩ := h
  exact ⟨p, cap, e, fun hn => by
    obtain ⟨g, off, e, hg, hx⟩ := h hn
    exact ⟨g, off, e, Nat.lt_of_lt_of_le hg hb.size, fun i hi => ⟨(hx i hi).1.below hb hg, (hx i hi).2⟩⟩⟩
section
open Go.ChangeShapes Go.WideShapes Go.Deep
variable {H : Type} {enc : TypeId × Value → H} {W : World} {base : Nat} {held : Bool}
/-- A field of a struct's cells that is a struct itself. -/
theorem open_part {P : Program} {w : World} {t : TypeId} {fs : Array Field} {fuel : Nat} {cs : List Value} {x : DataW H × List MemPlace} (hs : P.underlying t = some (.struct fs)) (h : DataW.trod enc P w base (fun _ => true) held fuel t cs = some x)
    (i : Nat) (f : Field) (hf : fs[i]? = some f) (o : Nat) (ho : f.offset = o) {k : Nat} (hc : P.cellsOf f.type = k) :
    ∃ m y, DataW.trod enc P w base (fun _ => true) held m f.type ((cs.drop o).take k) = some y := by
  obtain ⟨xs, m, _, _, _, hl, hx⟩ := DataW.trod_struct hs h
  have := hx i f hf
  have hi : i < fs.size := (Array.getElem?_eq_some_iff.1 hf).1
  rw [ho, hc, List.getElem?_eq_getElem (by omega)] at this
  exact ⟨m, xs[i]'(by omega), this⟩
set_option maxRecDepth 100000 in
theorem open_scriptR {r : Reach} {b0 : Nat} {v : Value} {d : DataW H} {ps : List MemPlace} (hval : Value.okWide Try.prog W r b0 85 v) (hd : DataW.Trod enc Try.prog W base (fun _ => true) held 85 v d ps) :
    ∃ n sx, ScriptR W v n sx := by
  obtain ⟨p, n, cap, rfl, h⟩ := open_rows (e := 90) (m := 10) Try.underlying85 (by kernel_rfl) (by decide) hval hd
  by_cases hn : 0 < n
  · obtain ⟨g, off, rfl, hg, hx⟩ := h hn
    have key : ∀ i, i < n → ∃ s : StepR, StepAt W g (off + i * 10) s ∧ StepOk s := by
      intro i hi
      obtain ⟨cs, fuel, x, hlen, hcell, hy⟩ := hx i hi
      have f := fun (k : Nat) (fd : Field) (hf : _) (ho : fd.offset = k) (hc : Try.prog.cellsOf fd.type = 1) (hlt : k < cs.length) => open_field (P := Try.prog) (t := 90) Try.underlying90 hy k fd hf k ho hc hlt
      obtain ⟨m0, y0, e0⟩ := f 0 _ rfl rfl (by kernel_rfl) (by omega)
      obtain ⟨m1, y1, e1⟩ := f 1 _ rfl rfl (by kernel_rfl) (by omega)
      obtain ⟨m2, y2, e2⟩ := f 2 _ rfl rfl (by kernel_rfl) (by omega)
      obtain ⟨m3, y3, e3⟩ := f 3 _ rfl rfl (by kernel_rfl) (by omega)
      obtain ⟨m4, y4, e4⟩ := f 4 _ rfl rfl (by kernel_rfl) (by omega)
      obtain ⟨m5, y5, e5⟩ := f 5 _ rfl rfl (by kernel_rfl) (by omega)
      obtain ⟨m6, y6, e6⟩ := open_part (P := Try.prog) (t := 90) Try.underlying90 hy 6 _ rfl 6 rfl (k := 4) (by kernel_rfl)
      obtain ⟨n0, z0, _, _⟩ := DataW.trod_int (k := .i64) (by kernel_rfl) e0
      obtain ⟨n1, z1, _, _⟩ := DataW.trod_int (k := .i64) (by kernel_rfl) e1
      obtain ⟨n2, z2, _, w2⟩ := DataW.trod_string (by kernel_rfl) e2
      obtain ⟨n3, z3, _, _⟩ := DataW.trod_int (k := .i64) (by kernel_rfl) e3
      obtain ⟨n4, z4, _, w4⟩ := DataW.trod_int (k := .u64) (by kernel_rfl) e4
      obtain ⟨n5, z5, _, w5⟩ := DataW.trod_int (k := .u64) (by kernel_rfl) e5
      obtain ⟨pk, z6, v1, v2, v3⟩ := open_pk (cs := (cs.drop 6).take 4) (by rw [List.length_take, List.length_drop]; omega) e6
      have g := fun (j : Nat) (hj : j < 10) (u : Value) (hu : [cs.getD j undef] = [u]) => show W.cell? ⟨g, off + i * 10 + j, none⟩ = some u by
        rw [hcell j hj, List.getElem?_eq_getElem (by omega)]
        simp only [List.getD, List.getElem?_eq_getElem (show j < cs.length by omega), Option.getD_some, List.cons.injEq, and_true] at hu
        rw [hu]
      have q := fun (j : Nat) (hj : j < 4) => show W.cell? ⟨_, off + i * 10 + (6 + j), none⟩ = (pcells pk).toList[j]? by
        rw [hcell (6 + j) (by omega), ← z6, List.getElem?_take_of_lt hj, List.getElem?_drop]
      exact ⟨⟨n0, n1, n2, n3, n4, n5, pk⟩, ⟨g 0 (by omega) _ z0, g 1 (by omega) _ z1, g 2 (by omega) _ z2, g 3 (by omega) _ z3, g 4 (by omega) _ z4, g 5 (by omega) _ z5, q 0 (by omega), q 1 (by omega), q 2 (by omega), q 3 (by omega)⟩,
        u64_of w4, u64_of w5, v1, v2, w2, v3⟩
    obtain ⟨sx, hsx⟩ := choose_fn key
    exact ⟨n, sx, _, cap, rfl, fun _ => ⟨g, off, rfl, hg, hsx⟩⟩
  · exact ⟨n, fun _ => default, p, cap, rfl, fun h => absurd h hn⟩
end
def HvPost (n : Nat) (W : World) (e : Ending) (w' : World) : Prop := (∃ r : Bool, e = .returned (.bool r) ∧ (r = false → n ≤ 250)) ∧ Below W.heap.size W w'
def HvR (n : Nat) (W : World) (v u : Value) (wr : World) : Prop := ∃ (i : Nat) (acc : Int), v = .int .i64 acc ∧ u = .int .i64 i ∧ i ≤ n ∧ i ≤ 400 ∧ Below W.heap.size W wr
set_option maxRecDepth 100000 in
set_option maxHeartbeats 2000000 in
theorem heavyR {W : World} {v : Value} {n : Nat} {sx : Nat → StepR} (hv : ScriptR W v n sx) :
    Calls Try.prog 33 #[v] W (HvPost n W) := by
  have HV := Lib.hid hv
  obtain ⟨p, cap, rfl, _⟩ := hv
  go_enter Try.func33, Try.ntmps33
  go_wp2_with fail
  go_loopw [3, 4] (fun v u wr => HvR n W v u wr) (fun _ u _ => ((401 : Int) - intOf u).toNat)
  case atStart => exact ⟨0, 0, rfl, rfl, Nat.zero_le _, by decide, Below.refl _ _⟩
  case round =>
    obtain ⟨i, acc, rfl, rfl, hi, hi3, hbw⟩ := hrel
    have HI := Lib.hid (And.intro hi hi3)
    have HBW := Lib.hid hbw
    clear hi hi3
    by_cases hin : i < n
    · have hin' : (i : Int) < (n : Int) := by omega
      by_cases h3 : i < 400
      · have h3' : (i : Int) < 400 := by omega
        have hi0 : (0 : Int) ≤ (i : Int) := by omega
        obtain ⟨p', c', e1, hx⟩ := HV.out.below hbw
        injection e1 with e1 e2 e3
        subst e1 e3
        obtain ⟨g, off, rfl, hg, hx⟩ := hx (by omega)
        obtain ⟨⟨x0, x1, x2, x3, x4, x5, x6, x7, x8, x9⟩, _⟩ := hx i hin
        have HE : Hid (wrap64 ((i : Int) + 1) = ((i + 1 : Nat) : Int)) := Lib.hid (Sou.w64n rfl (by omega))
        have HLN := Lib.hid (And.intro hin h3)
        clear hx x0 x1 x3 x4 x5 x6 x7 x8 hin h3 e2 hbw
        generalize (sx i).s = ss at *
        generalize (sx i).p.body = sb at *
        go_wp2_with (refine Reg.wp_text (by kernel_rfl) (by kernel_rfl) ?_)
        refine Reg.fin (by kernel_rfl) ?_
        go_wp2_with fail
        go_roundw
        case rel => exact ⟨i + 1, _, rfl, rfl, HLN.out.1, by have := HLN.out.2; omega, HBW.out.drew⟩
        case measure => have := HLN.out; simp [intOf]; omega
      · have h3' : ¬ (i : Int) < 400 := by omega
        have hn' : (250 : Int) < (n : Int) := by omega
        clear hin h3 hbw
        go_wp2_with fail
        go_ret
        exact ⟨⟨true, rfl, fun h => by cases h⟩, HBW.out⟩
    · obtain rfl : i = n := by have := HI.out; omega
      have hin' : ¬ (i : Int) < (i : Int) := by omega
      clear hin hbw
      by_cases h150 : 250 < i
      · have h150' : (250 : Int) < (i : Int) := by omega
        clear h150
        go_wp2_with fail
        go_ret
        exact ⟨⟨true, rfl, fun h => by cases h⟩, HBW.out⟩
      · have h150' : ¬ (250 : Int) < (i : Int) := by omega
        have H150 := Lib.hid h150
        clear h150
        go_wp2_with fail
        go_ret
        exact ⟨⟨_, rfl, fun _ => by have := H150.out; omega⟩, HBW.out⟩
end Go.Proofs.Ytgdgonmhgpflcaa


/- The script of RpcHears, opened out of its reading; what the document's peers keep. No condition. -/
namespace Go.Proofs.Ytgdgonmhgpflcaa
open Go.RowKit Go.Maps Wire Rp
set_option linter.unusedVariables false
set_option linter.unusedSimpArgs false
namespace Rp
structure HdR where
  an : Bool
  fr : Int
  p : Pk
instance : Inhabited HdR := ⟨⟨false, 0, ⟨false, 0, 0, ⟨#[]⟩⟩⟩⟩
def hdA (s : HdR) : Array Value := #[.bool s.an, .int .i64 s.fr, .bool s.p.an, .int .u64 s.p.inc, .int .u64 s.p.seq, .string s.p.body]
end Rp
def HdAt (W : World) (g o : Nat) (s : HdR) : Prop :=
  W.cell? ⟨g, o, none⟩ = some (.bool s.an) ∧ W.cell? ⟨g, o + 1, none⟩ = some (.int .i64 s.fr) ∧
    W.cell? ⟨g, o + 2, none⟩ = some (.bool s.p.an) ∧ W.cell? ⟨g, o + 3, none⟩ = some (.int .u64 s.p.inc) ∧ W.cell? ⟨g, o + 4, none⟩ = some (.int .u64 s.p.seq) ∧ W.cell? ⟨g, o + 5, none⟩ = some (.string s.p.body)
def HdOk (s : HdR) : Prop := I64 s.fr ∧ U64 s.p.inc ∧ U64 s.p.seq ∧ s.p.body.size ≤ maxLen
def HearsR (W : World) (v : Value) (n : Nat) (sx : Nat → HdR) : Prop :=
  ∃ p cap, v = .slice p n cap ∧ (0 < n → ∃ g off, p = some ⟨g, off, none⟩ ∧ g < W.heap.size ∧ ∀ i, i < n → HdAt W g (off + i * 6) (sx i) ∧ HdOk (sx i))
theorem HdAt.below {W w' : World} {g o : Nat} {s : HdR} (h : HdAt W g o s) (hb : Below W.heap.size W w') (hg : g < W.heap.size) : HdAt w' g o s := by
  unfold HdAt at *
  rw [hb.cell (p := ⟨g, o, none⟩) hg, hb.cell (p := ⟨g, o + 1, none⟩) hg, hb.cell (p := ⟨g, o + 2, none⟩) hg, hb.cell (p := ⟨g, o + 3, none⟩) hg, hb.cell (p := ⟨g, o + 4, none⟩) hg, hb.cell (p := ⟨g, o + 5, none⟩) hg]
  exact h
theorem HearsR.below {W w' : World} {v : Value} {n : Nat} {sx : Nat → HdR} (h : HearsR W v n sx) (hb : Below W.heap.size W w') : HearsR w' v n sx := by
  obtain ⟨p, cap, e, h⟩ := h
  exact ⟨p, cap, e, fun hn => by
    obtain ⟨g, off, e, hg, hx⟩ := h hn
    exact ⟨g, off, e, Nat.lt_of_lt_of_le hg hb.size, fun i hi => ⟨(hx i hi).1.below hb hg, (hx i hi).2⟩⟩⟩
section
open Go.ChangeShapes Go.WideShapes Go.Deep
variable {H : Type} {enc : TypeId × Value → H} {W : World} {base : Nat} {held : Bool}
set_option maxRecDepth 100000 in
theorem open_hears {r : Reach} {b0 : Nat} {v : Value} {d : DataW H} {ps : List MemPlace} (hval : Value.okWide Try.prog W r b0 36 v) (hd : DataW.Trod enc Try.prog W base (fun _ => true) held 36 v d ps) :
    ∃ n sx, HearsR W v n sx := by
  obtain ⟨p, n, cap, rfl, h⟩ := open_rows (e := 38) (m := 6) Try.underlying36 (by kernel_rfl) (by decide) hval hd
  by_cases hn : 0 < n
  · obtain ⟨g, off, rfl, hg, hx⟩ := h hn
    have key : ∀ i, i < n → ∃ s : HdR, HdAt W g (off + i * 6) s ∧ HdOk s := by
      intro i hi
      obtain ⟨cs, fuel, x, hlen, hcell, hy⟩ := hx i hi
      have f := fun (k : Nat) (fd : Field) (hf : _) (ho : fd.offset = k) (hc : Try.prog.cellsOf fd.type = 1) (hlt : k < cs.length) => open_field (P := Try.prog) (t := 38) Try.underlying38 hy k fd hf k ho hc hlt
      obtain ⟨m0, y0, e0⟩ := f 0 _ rfl rfl (by kernel_rfl) (by omega)
      obtain ⟨m1, y1, e1⟩ := f 1 _ rfl rfl (by kernel_rfl) (by omega)
      obtain ⟨m6, y6, e6⟩ := open_part (P := Try.prog) (t := 38) Try.underlying38 hy 2 _ rfl 2 rfl (k := 4) (by kernel_rfl)
      obtain ⟨n0, z0, _⟩ := DataW.trod_bool (by kernel_rfl) e0
      obtain ⟨n1, z1, _, w1⟩ := DataW.trod_int (k := .i64) (by kernel_rfl) e1
      obtain ⟨pk, z6, v1, v2, v3⟩ := open_pk (cs := (cs.drop 2).take 4) (by rw [List.length_take, List.length_drop]; omega) e6
      have g := fun (j : Nat) (hj : j < 6) (u : Value) (hu : [cs.getD j undef] = [u]) => show W.cell? ⟨g, off + i * 6 + j, none⟩ = some u by
        rw [hcell j hj, List.getElem?_eq_getElem (by omega)]
        simp only [List.getD, List.getElem?_eq_getElem (show j < cs.length by omega), Option.getD_some, List.cons.injEq, and_true] at hu
        rw [hu]
      have q := fun (j : Nat) (hj : j < 4) => show W.cell? ⟨_, off + i * 6 + (2 + j), none⟩ = (pcells pk).toList[j]? by
        rw [hcell (2 + j) (by omega), ← z6, List.getElem?_take_of_lt hj, List.getElem?_drop]
      exact ⟨⟨n0, n1, pk⟩, ⟨g 0 (by omega) _ z0, g 1 (by omega) _ z1, q 0 (by omega), q 1 (by omega), q 2 (by omega), q 3 (by omega)⟩, i64_of w1, v1, v2, v3⟩
    obtain ⟨sx, hsx⟩ := choose_fn key
    exact ⟨n, sx, _, cap, rfl, fun _ => ⟨g, off, rfl, hg, hsx⟩⟩
  · exact ⟨n, fun _ => default, p, cap, rfl, fun h => absurd h hn⟩
end
/-! ### What the document's peers keep -/
def LD (n : Nat) (d : List Pe) : Prop := d.length ≤ n ∧ ∀ x ∈ d, x.L.length ≤ n ∧ (∀ h ∈ x.L, hOk h) ∧ x.L.Pairwise (fun a b => a.seq ≠ b.seq)
namespace Rp
theorem LD.mono {n m : Nat} {d : List Pe} (h : LD n d) (hm : n ≤ m) : LD m d := ⟨Nat.le_trans h.1 hm, fun x hx => ⟨Nat.le_trans (h.2 x hx).1 hm, (h.2 x hx).2⟩⟩
theorem LD.add {n : Nat} {d : List Pe} (h : LD n d) (fr : Int) : LD (n + 1) (addP d fr) := by
  unfold addP
  split
  · exact LD.mono h (Nat.le_succ _)
  · refine ⟨by rw [List.length_append]; have := h.1; simp; omega, fun x hx => ?_⟩
    rcases List.mem_append.1 hx with hx | hx
    · exact ⟨Nat.le_succ_of_le (h.2 x hx).1, (h.2 x hx).2⟩
    · simp at hx
      subst hx
      exact ⟨Nat.zero_le _, (fun h hh => by cases hh), List.Pairwise.nil⟩
theorem LD.set {n : Nat} {d : List Pe} (h : LD n d) {x : Pe} (hl : (lookP d x.fr).isSome = true) (hx : x.L.length ≤ n ∧ (∀ h ∈ x.L, hOk h) ∧ x.L.Pairwise (fun a b => a.seq ≠ b.seq)) : LD n (setPe d x) := by
  refine ⟨by rw [setPe_some hl, List.length_map]; exact h.1, fun y hy => ?_⟩
  rcases mem_setPe hy with rfl | ⟨hy, _⟩
  · exact hx
  · exact h.2 y hy
theorem may_ok {p : Pk} (h : mayP p = true) : hOk ⟨p.seq, false, ⟨#[]⟩⟩ := by
  unfold mayP at h
  simp only [Bool.and_eq_true, decide_eq_true_eq] at h
  exact ⟨h.2.2.1, h.2.2.2.1, Nat.zero_le _⟩
theorem LD.take {n : Nat} {d : List Pe} (h : LD n d) (fr : Int) (p : Pk) : LD (n + 1) (takeR d fr p).2 := by
  unfold takeR
  by_cases hb : (placeB fr && mayP p && !p.an) = false
  · rw [if_pos hb]; exact LD.mono h (Nat.le_succ _)
  · rw [if_neg hb]
    unfold takeD
    rw [if_neg hb]
    have hmy : mayP p = true := by
      simp only [Bool.not_eq_false, Bool.and_eq_true] at hb
      exact hb.1.2
    have ha : lookP (addP d fr) fr = some ((lookP d fr).getD (newP fr)) := by rw [lookP_add, if_pos rfl]
    have hd := LD.add h fr
    have hc : (curPe (lookP (addP d fr) fr) fr p).L.length ≤ n ∧ (∀ h ∈ (curPe (lookP (addP d fr) fr) fr p).L, hOk h) ∧ (curPe (lookP (addP d fr) fr) fr p).L.Pairwise (fun a b => a.seq ≠ b.seq) := by
      have h0 : ((lookP d fr).getD (newP fr)).L.length ≤ n ∧ (∀ h ∈ ((lookP d fr).getD (newP fr)).L, hOk h) ∧ ((lookP d fr).getD (newP fr)).L.Pairwise (fun a b => a.seq ≠ b.seq) := by
        cases hl : lookP d fr with
        | none => exact ⟨Nat.zero_le _, (fun h hh => by cases hh), List.Pairwise.nil⟩
        | some x => exact h.2 x (lookP_some hl).1
      rw [ha]
      unfold curPe
      dsimp only
      split
      · exact ⟨Nat.zero_le _, (fun h hh => by cases hh), List.Pairwise.nil⟩
      · exact h0
    have hf := curPe_fr (addP d fr) fr p
    generalize hcp : curPe (lookP (addP d fr) fr) fr p = x at *
    refine LD.set hd ?_ ?_
    · have : (hear x p).2.fr = fr := by unfold hear; repeat' split
                                        all_goals exact hf
      rw [this, ha]; rfl
    · unfold hear
      split
      · exact ⟨Nat.le_succ_of_le hc.1, hc.2⟩
      · split
        · split <;> exact ⟨Nat.le_succ_of_le hc.1, hc.2⟩
        · rename_i hl
          split
          · exact ⟨Nat.le_succ_of_le hc.1, hc.2⟩
          · refine ⟨by dsimp only; rw [List.length_append]; have := hc.1; simp; omega, fun g hg => ?_, ?_⟩
            · rcases List.mem_append.1 hg with hg | hg
              · exact hc.2.1 g hg
              · simp at hg; subst hg; exact may_ok hmy
            · refine List.pairwise_append.2 ⟨hc.2.2, List.pairwise_singleton _ _, fun a ha b hb => ?_⟩
              simp at hb
              subst hb
              exact lookH_none hl a ha
theorem LD.ans {n : Nat} {d : List Pe} (h : LD n d) (fr inc sq : Int) (body : ByteArray) : LD (n + 1) (ansR d fr inc sq body).2 := by
  have h1 := LD.mono h (Nat.le_succ n)
  have h2 := LD.add h fr
  unfold ansR
  by_cases h3 : placeB fr = false
  · rw [if_pos h3]; exact h1
  · rw [if_neg h3]
    by_cases h4 : 8192 < body.size
    · rw [if_pos h4]; exact h1
    · rw [if_neg h4]
      by_cases h5 : inc = 0
      · rw [if_pos h5]; exact h2
      · rw [if_neg h5]
        unfold ansD
        rw [if_neg h3, if_neg h4]
        cases hx : lookP (addP d fr) fr with
        | none => exact h2
        | some x =>
          dsimp only
          by_cases hi : x.inc = inc
          · rw [if_pos hi]
            cases hg : lookH x.L sq with
            | none => exact h2
            | some g =>
              dsimp only
              cases hdn : g.dn with
              | true => exact h2
              | false =>
                simp only [Bool.false_eq_true, if_false]
                obtain ⟨hm, hfr⟩ := lookP_some hx
                obtain ⟨hgm, hgs⟩ := lookH_some hg
                have hxx := h2.2 x hm
                have hok : hOk ⟨sq, true, body⟩ := by
                  have := hxx.2.1 g hgm
                  unfold hOk at *
                  dsimp only
                  omega
                have hs : (setH x.L ⟨sq, true, body⟩).length ≤ n + 1 ∧ (∀ h ∈ setH x.L ⟨sq, true, body⟩, hOk h) ∧ (setH x.L ⟨sq, true, body⟩).Pairwise (fun a b => a.seq ≠ b.seq) := by
                  refine ⟨by unfold setH; rw [List.length_map]; exact hxx.1, fun y hy => ?_, ?_⟩
                  · unfold setH at hy
                    obtain ⟨a, ha, rfl⟩ := List.mem_map.1 hy
                    split
                    · exact hok
                    · exact hxx.2.1 a ha
                  · unfold setH
                    rw [List.pairwise_map]
                    refine hxx.2.2.imp fun {a b} hab => ?_
                    have e1 : (if a.seq = sq then (⟨sq, true, body⟩ : He) else a).seq = a.seq := by split <;> simp_all
                    have e2 : (if b.seq = sq then (⟨sq, true, body⟩ : He) else b).seq = b.seq := by split <;> simp_all
                    show (if a.seq = sq then (⟨sq, true, body⟩ : He) else a).seq ≠ (if b.seq = sq then (⟨sq, true, body⟩ : He) else b).seq
                    rw [e1, e2]; exact hab
                refine LD.set h2 ?_ ?_
                · have : (forgetP { x with L := setH x.L ⟨sq, true, body⟩ }).fr = fr := by unfold forgetP; split <;> exact hfr
                  rw [this, hx]; rfl
                · unfold forgetP
                  split
                  · exact hs
                  · refine ⟨Nat.le_trans (List.length_filter_le _ _) hs.1, fun y hy => hs.2.1 y (List.mem_filter.1 hy).1, hs.2.2.filter _⟩
          · rw [if_neg hi]; exact h2
end Rp
theorem LD.lb {n : Nat} {l : List PeV} (h : LD n (peV l)) (hn : n ≤ 1000) : l.length ≤ 1000 ∧ ∀ x ∈ l, LB x.1.L :=
  ⟨by have := h.1; unfold peV at this; rw [List.length_map] at this; omega, fun x hx => by
    have := h.2 x.1 (List.mem_map.2 ⟨x, hx, rfl⟩)
    exact ⟨by omega, this.2⟩⟩
end Go.Proofs.Ytgdgonmhgpflcaa


/- RpcOnce's world of one caller and who is called, as data: what each act leaves of it, and what holds behind it. No program in sight. -/
namespace Go.Proofs.Ytgdgonmhgpflcaa
open Go.RowKit Go.Maps Wire Rp
set_option linter.unusedVariables false
set_option linter.unusedSimpArgs false
namespace Rp
/-- "did " and a body. -/
def did (b : ByteArray) : ByteArray := (⟨#[100, 105, 100, 32]⟩ : ByteArray) ++ b
structure Wd where
  c : St
  d : List Pe
  inc : Int
  now : Int
  ways : List (Bool × ByteArray)
  jobs : List (Int × Int × ByteArray)
  ask : List (Int × ByteArray)
  dn : List Int
/-- Of a text on its way. -/
def WayOk (w : Wd) (y : Bool × ByteArray) : Prop :=
  ∃ p : Pk, y.2 = pkS p ∧ mayP p = true ∧ p.an = y.1 ∧ p.inc ≤ w.inc ∧ (p.inc = w.inc → if y.1 then (p.seq ∈ w.dn ∧ ∃ b, (p.seq, b) ∈ w.ask ∧ p.body = did b) else (p.seq, p.body) ∈ w.ask)
def JobOk (w : Wd) (j : Int × Int × ByteArray) : Prop :=
  (1 ≤ j.1 ∧ j.1 ≤ w.inc) ∧ (1 ≤ j.2.1 ∧ j.2.1 ≤ 4611686018427387904) ∧ j.2.2.size ≤ 8192 ∧ (j.1 = w.inc → j.2.1 ∈ w.dn ∧ (j.2.1, j.2.2) ∈ w.ask)
def CallOk (w : Wd) (x : C0) : Prop := (x.seq, x.body) ∈ w.ask ∧ x.wh = 2 ∧ (1 ≤ x.tries ∧ x.tries ≤ 60) ∧ (w.now < x.tm ∧ x.tm ≤ w.now + 16) ∧ x.wt ≤ 16
/-- What an ended call tells is as the statement asks. -/
def EndOk (w : Wd) (o : Ov) : Prop := o.err = 0 → o.seq ∈ w.dn ∧ ∃ b, (o.seq, b) ∈ w.ask ∧ o.body = did b
structure OInv (w : Wd) : Prop where
  sv : SInv w.c
  inc : w.c.inc = w.inc ∧ 1 ≤ w.inc ∧ w.inc ≤ 1000000
  conf : w.c.wait = 4 ∧ w.c.most = 16 ∧ w.c.tries = 60
  last : 0 ≤ w.c.last ∧ w.c.last ≤ 1000000
  now : 0 ≤ w.now ∧ w.now ≤ 1000000
  ask : ∀ p ∈ w.ask, 1 ≤ p.1 ∧ p.1 ≤ w.c.last ∧ p.2.size ≤ 8192
  askd : w.ask.Pairwise (fun a b => a.1 ≠ b.1)
  cl : ∀ x ∈ w.c.L, CallOk w x
  dnd : w.dn.Nodup
  dna : ∀ s ∈ w.dn, ∃ b, (s, b) ∈ w.ask
  dnP : ∀ s ∈ w.dn, ∃ x, lookP w.d 1 = some x ∧ x.inc = w.inc ∧ ((∃ h ∈ x.L, h.seq = s) ∨ s ≤ x.floor)
  d : ∀ x ∈ w.d, PInv x ∧ x.inc ≤ w.inc
  ans : ∀ x, lookP w.d 1 = some x → x.inc = w.inc → ∀ h ∈ x.L, (h.seq ∈ w.dn ∧ ∃ b, (h.seq, b) ∈ w.ask ∧ (h.dn = true → h.body = did b))
  ways : ∀ y ∈ w.ways, WayOk w y
  jobs : ∀ j ∈ w.jobs, JobOk w j
  du : ∀ q ∈ w.c.du, WayOk w (false, q.2)
  ov : ∀ o ∈ w.c.ov, EndOk w o
theorem ask_uniq {l : List (Int × ByteArray)} (h : l.Pairwise (fun a b => a.1 ≠ b.1)) {k : Int} {a b : ByteArray} (ha : (k, a) ∈ l) (hb : (k, b) ∈ l) : a = b := by
  obtain ⟨i, hi, ei⟩ := List.mem_iff_getElem.1 ha
  obtain ⟨j, hj, ej⟩ := List.mem_iff_getElem.1 hb
  rw [List.pairwise_iff_getElem] at h
  rcases Nat.lt_trichotomy i j with h' | h' | h'
  · exact absurd (by rw [ei, ej]) (h i j hi hj h')
  · subst h'; rw [ei] at ej; exact congrArg Prod.snd ej
  · exact absurd (by rw [ei, ej]) (h j i hj hi h')
/-- What holds of a text stays, once more was asked or done. -/
theorem WayOk.more {w w' : Wd} {y : Bool × ByteArray} (h : WayOk w y) (hi : w'.inc = w.inc) (ha : ∀ p ∈ w.ask, p ∈ w'.ask) (hd : ∀ s ∈ w.dn, s ∈ w'.dn) : WayOk w' y := by
  obtain ⟨p, h1, h2, h3, h4, h5⟩ := h
  refine ⟨p, h1, h2, h3, by omega, fun e => ?_⟩
  have h6 := h5 (by omega)
  by_cases hy : y.1 = true
  · rw [if_pos hy] at h6 ⊢
    obtain ⟨h7, b, h8, h9⟩ := h6
    exact ⟨hd _ h7, b, ha _ h8, h9⟩
  · rw [if_neg hy] at h6 ⊢
    exact ha _ h6
theorem WayOk.crash {w w' : Wd} {y : Bool × ByteArray} (h : WayOk w y) (hi : w.inc < w'.inc) : WayOk w' y := by
  obtain ⟨p, h1, h2, h3, h4, h5⟩ := h
  exact ⟨p, h1, h2, h3, by omega, fun e => by omega⟩
theorem JobOk.more {w w' : Wd} {y : Int × Int × ByteArray} (h : JobOk w y) (hi : w'.inc = w.inc) (ha : ∀ p ∈ w.ask, p ∈ w'.ask) (hd : ∀ s ∈ w.dn, s ∈ w'.dn) : JobOk w' y := by
  obtain ⟨h1, h2, h3, h4⟩ := h
  exact ⟨⟨h1.1, by omega⟩, h2, h3, fun e => ⟨hd _ (h4 (by omega)).1, ha _ (h4 (by omega)).2⟩⟩
theorem JobOk.crash {w w' : Wd} {y : Int × Int × ByteArray} (h : JobOk w y) (hi : w.inc < w'.inc) : JobOk w' y := by
  obtain ⟨h1, h2, h3, h4⟩ := h
  exact ⟨⟨h1.1, by omega⟩, h2, h3, fun e => by omega⟩
theorem EndOk.more {w w' : Wd} {o : Ov} (h : EndOk w o) (ha : ∀ p ∈ w.ask, p ∈ w'.ask) (hd : ∀ s ∈ w.dn, s ∈ w'.dn) : EndOk w' o := fun e => by
  obtain ⟨h1, b, h2, h3⟩ := h e
  exact ⟨hd _ h1, b, ha _ h2, h3⟩
/-! ### A call -/
def callW (w : Wd) (s : ByteArray) : Wd := { w with c := (callS w.c 2 s w.now).2.2, ask := if (callS w.c 2 s w.now).2.1 = 0 then w.ask ++ [((callS w.c 2 s w.now).1, s)] else w.ask }
theorem OInv.call {w : Wd} (h : OInv w) (s : ByteArray) (hl : w.c.last < 1000000) (hs : SInv (callS w.c 2 s w.now).2.2) : OInv (callW w s) := by
  unfold callW
  have hc : (callS w.c 2 s w.now = (0, (callS w.c 2 s w.now).2.1, w.c) ∧ (callS w.c 2 s w.now).2.1 ≠ 0) ∨ (callS w.c 2 s w.now = (w.c.last + 1, 0, putS w.c (newC w.c 2 s w.now)) ∧ s.size ≤ 8192) := by
    unfold callS
    split
    · left; exact ⟨rfl, show ¬ (2 : Int) = 0 by decide⟩
    · split
      · left; exact ⟨rfl, show ¬ (4 : Int) = 0 by decide⟩
      · split
        · left; exact ⟨rfl, show ¬ (6 : Int) = 0 by decide⟩
        · split
          · left; exact ⟨rfl, show ¬ (9 : Int) = 0 by decide⟩
          · right; exact ⟨rfl, by omega⟩
  rcases hc with ⟨e, hn⟩ | ⟨e, hz⟩
  · have e1 : (callS w.c 2 s w.now).2.2 = w.c := by rw [e]
    rw [if_neg hn, e1]
    exact h
  · rw [e] at hs ⊢
    dsimp only at hs ⊢
    rw [if_pos rfl]
    have hsub : ∀ p ∈ w.ask, p ∈ w.ask ++ [(w.c.last + 1, s)] := fun p hp => List.mem_append_left _ hp
    have hnew : (w.c.last + 1, s) ∈ w.ask ++ [(w.c.last + 1, s)] := List.mem_append_right _ (by simp)
    have hmay : mayP ⟨false, w.c.inc, w.c.last + 1, s⟩ = true := by
      unfold mayP
      simp only [Bool.and_eq_true, decide_eq_true_eq]
      have := h.inc; have := h.last
      omega
    refine ⟨hs, h.inc, h.conf, ?_, h.now, fun p hp => ?_, ?_, fun x hx => ?_, h.dnd, fun t ht => ?_, h.dnP, h.d, fun x hx hi g hg => ?_, fun y hy => (h.ways y hy).more rfl hsub (fun _ x => x), fun y hy => (h.jobs y hy).more rfl hsub (fun _ x => x), fun q hq => ?_, fun o ho => (h.ov o ho).more hsub (fun _ x => x)⟩
    · show 0 ≤ w.c.last + 1 ∧ w.c.last + 1 ≤ 1000000
      have := h.last; omega
    · show 1 ≤ p.1 ∧ p.1 ≤ w.c.last + 1 ∧ p.2.size ≤ 8192
      rcases List.mem_append.1 hp with hp | hp
      · have := h.ask p hp; omega
      · simp at hp; subst hp; have := h.last; dsimp only; omega
    · refine List.pairwise_append.2 ⟨h.askd, List.pairwise_singleton _ _, fun a ha b hb => ?_⟩
      simp at hb
      subst hb
      have := (h.ask a ha).2.1
      dsimp only
      omega
    · have hx' : x ∈ w.c.L ++ [newC w.c 2 s w.now] := hx
      rcases List.mem_append.1 hx' with hx | hx
      · obtain ⟨a1, a2⟩ := h.cl x hx
        exact ⟨hsub _ a1, a2⟩
      · simp at hx
        subst hx
        have hcf := h.conf
        refine ⟨hnew, rfl, ⟨by show (1 : Int) ≤ 1; decide, by show (1 : Int) ≤ 60; decide⟩, ?_, ?_⟩
        · show w.now < w.now + w.c.wait ∧ w.now + w.c.wait ≤ w.now + 16
          omega
        · show w.c.wait ≤ 16
          omega
    · obtain ⟨b, hb⟩ := h.dna t ht
      exact ⟨b, hsub _ hb⟩
    · obtain ⟨a1, b, a2, a3⟩ := h.ans x hx hi g hg
      exact ⟨a1, b, hsub _ a2, a3⟩
    · have hq' : q ∈ w.c.du ++ [mkDue w.c (newC w.c 2 s w.now)] := hq
      rcases List.mem_append.1 hq' with hq | hq
      · exact (h.du q hq).more rfl hsub (fun _ x => x)
      · simp at hq
        subst hq
        exact ⟨⟨false, w.c.inc, w.c.last + 1, s⟩, rfl, hmay, rfl, by show w.c.inc ≤ w.inc; have := h.inc; omega, fun _ => by show if false = true then _ else _; rw [if_neg (by decide)]; exact hnew⟩
/-! ### An answer comes to the caller -/
def backW (w : Wd) (p : Pk) : Wd := { w with c := (takeS w.c 2 p).2.2 }
theorem OInv.back {w : Wd} (h : OInv w) {t : ByteArray} {p : Pk} (ht : WayOk w (true, t)) (hp : t = pkS p) (hm : decP (pkS p) = p) (hs : SInv (takeS w.c 2 p).2.2) : OInv (backW w p) := by
  obtain ⟨p', e1, m1, a1, i1, k1⟩ := ht
  have hpp : p' = p := by
    have h1 := (dec_enc m1).2
    dsimp only at e1
    rw [← e1, hp, hm] at h1
    exact h1.symm
  subst hpp
  have hc : (takeS w.c 2 p').2.2 = w.c ∨ ((takeS w.c 2 p').2.2 = endsS w.c ⟨p'.seq, 2, p'.body, 0⟩ ∧ p'.inc = w.c.inc) := by
    unfold takeS
    split
    · exact .inl rfl
    · split
      · exact .inl rfl
      · split
        · rename_i hh
          simp only [Bool.and_eq_true, beq_iff_eq] at hh
          exact .inr ⟨rfl, hh.1.2⟩
        · exact .inl rfl
  unfold backW
  rcases hc with e | ⟨e, hi⟩
  · rw [e]; exact h
  · rw [e] at hs ⊢
    refine ⟨hs, h.inc, h.conf, h.last, h.now, h.ask, h.askd, fun x hx => ?_, h.dnd, h.dna, h.dnP, h.d, h.ans, h.ways, h.jobs, h.du, fun o ho => ?_⟩
    · exact h.cl x (List.mem_filter.1 hx).1
    · rcases List.mem_append.1 ho with ho | ho
      · exact h.ov o ho
      · simp at ho
        subst ho
        intro _
        have h2 := k1 (by have := h.inc; omega)
        rw [if_pos rfl] at h2
        exact h2
/-! ### A tick -/
def tickW (w : Wd) (now : Int) : Wd := { w with now := now, c := (tickS w.c now).2 }
theorem OInv.tick {w : Wd} (h : OInv w) {now : Int} (hn : w.now ≤ now ∧ now ≤ 1000000) (hs : SInv (tickS w.c now).2) : OInv (tickW w now) ∧ (tickS w.c now).1 = 0 := by
  have htb : timeB now = true := by unfold timeB; have := h.now; simp only [Bool.and_eq_true, decide_eq_true_eq]; omega
  have ht : tickS w.c now = (0, tickAt w.c now w.c.L.length) := by unfold tickS; rw [if_pos htb]
  unfold tickW
  rw [ht] at hs ⊢
  dsimp only at hs ⊢
  have hL : (tickAt w.c now w.c.L.length).L = w.c.L.filterMap (tkL w.c now) := by unfold tickAt; simp
  have hD : (tickAt w.c now w.c.L.length).du = w.c.du ++ w.c.L.filterMap (tkD w.c now) := by unfold tickAt; simp
  have hO : (tickAt w.c now w.c.L.length).ov = w.c.ov ++ w.c.L.filterMap (tkO w.c now) := by unfold tickAt; simp
  refine ⟨⟨hs, h.inc, h.conf, h.last, (by have := h.now; show 0 ≤ now ∧ now ≤ 1000000; omega), h.ask, h.askd, fun x hx => ?_, h.dnd, h.dna, h.dnP, h.d, h.ans, h.ways, h.jobs, fun q hq => ?_, fun o ho => ?_⟩, rfl⟩
  · have hx' : x ∈ (tickAt w.c now w.c.L.length).L := hx
    rw [hL] at hx'
    obtain ⟨y, hy, e⟩ := List.mem_filterMap.1 hx'
    obtain ⟨b1, b2, b3, b4, b5⟩ := h.cl y hy
    unfold tkL at e
    split at e
    · injection e with e; subst e
      exact ⟨b1, b2, b3, ⟨by assumption, by have := b4.2; show y.tm ≤ now + 16; omega⟩, b5⟩
    · split at e
      · cases e
      · rename_i h2
        injection e with e; subst e
        have hcf := h.conf
        refine ⟨b1, b2, ?_, ?_, ?_⟩
        · show 1 ≤ y.tries + 1 ∧ y.tries + 1 ≤ 60
          omega
        · show now < now + min (2 * y.wt) w.c.most ∧ now + min (2 * y.wt) w.c.most ≤ now + 16
          have := (h.sv.ok y hy).2.2.2.2.2.2.1
          omega
        · show min (2 * y.wt) w.c.most ≤ 16
          omega
  · have hq' : q ∈ (tickAt w.c now w.c.L.length).du := hq
    rw [hD] at hq'
    rcases List.mem_append.1 hq' with hq | hq
    · exact h.du q hq
    · obtain ⟨y, hy, e⟩ := List.mem_filterMap.1 hq
      obtain ⟨b1, b2, b3, b4, b5⟩ := h.cl y hy
      have hok := h.sv.ok y hy
      unfold tkD at e
      split at e
      · cases e
      · split at e
        · cases e
        · injection e with e; subst e
          refine ⟨⟨false, w.c.inc, y.seq, y.body⟩, rfl, ?_, rfl, by show w.c.inc ≤ w.inc; have := h.inc; omega, fun _ => by show if false = true then _ else _; rw [if_neg (by decide)]; exact b1⟩
          unfold C0ok at hok
          unfold mayP
          simp only [Bool.and_eq_true, decide_eq_true_eq]
          have := h.inc; have := h.last
          omega
  · have ho' : o ∈ (tickAt w.c now w.c.L.length).ov := ho
    rw [hO] at ho'
    rcases List.mem_append.1 ho' with ho | ho
    · exact h.ov o ho
    · obtain ⟨y, hy, e⟩ := List.mem_filterMap.1 ho
      unfold tkO at e
      split at e
      · cases e
      · split at e
        · injection e with e; subst e
          intro he
          exact absurd he (by show ¬ (270 : Int) = 0; decide)
        · cases e
/-! ### Time alone ends each call -/
def TmB (w : Wd) (B : Int) : Prop := ∀ x ∈ w.c.L, x.tm ≤ w.now + 4 * (B - 240 + 4 * x.tries)
theorem OInv.tm0 {w : Wd} (h : OInv w) : TmB w 240 := fun x hx => by
  obtain ⟨b1, b2, b3, b4, b5⟩ := h.cl x hx
  omega
theorem OInv.tm1 {w : Wd} (h : OInv w) {B : Int} (hb : TmB w B) (hn : w.now + 4 ≤ 1000000) : TmB (tickW w (w.now + 4)) (B - 1) := by
  have htb : timeB (w.now + 4) = true := by unfold timeB; have := h.now; simp only [Bool.and_eq_true, decide_eq_true_eq]; omega
  have ht : tickS w.c (w.now + 4) = (0, tickAt w.c (w.now + 4) w.c.L.length) := by unfold tickS; rw [if_pos htb]
  have hL : (tickAt w.c (w.now + 4) w.c.L.length).L = w.c.L.filterMap (tkL w.c (w.now + 4)) := by unfold tickAt; simp
  intro x hx
  have hx' : x ∈ (tickS w.c (w.now + 4)).2.L := hx
  rw [ht] at hx'
  dsimp only at hx'
  rw [hL] at hx'
  show x.tm ≤ w.now + 4 + 4 * (B - 1 - 240 + 4 * x.tries)
  obtain ⟨y, hy, e⟩ := List.mem_filterMap.1 hx'
  obtain ⟨b1, b2, b3, b4, b5⟩ := h.cl y hy
  have hy2 := hb y hy
  unfold tkL at e
  split at e
  · injection e with e; subst e; omega
  · split at e
    · cases e
    · injection e with e; subst e
      have hcf := h.conf
      show w.now + 4 + min (2 * y.wt) w.c.most ≤ w.now + 4 + 4 * (B - 1 - 240 + 4 * (y.tries + 1))
      omega
theorem OInv.tm2 {w : Wd} (h : OInv w) {B : Int} (hb : TmB w B) (hz : B ≤ 0) : w.c.L = [] := by
  cases hl : w.c.L with
  | nil => rfl
  | cons x l =>
    have hx : x ∈ w.c.L := by rw [hl]; exact List.mem_cons_self
    obtain ⟨b1, b2, b3, b4, b5⟩ := h.cl x hx
    have := hb x hx
    omega
end Rp
end Go.Proofs.Ytgdgonmhgpflcaa


/- RpcOnce's world: a call's text comes to who is called; a call that was done is answered; the caller begins anew. No program in sight. -/
namespace Go.Proofs.Ytgdgonmhgpflcaa
open Go.RowKit Go.Maps Wire Rp
set_option linter.unusedVariables false
set_option linter.unusedSimpArgs false
namespace Rp
theorem look_set_self {d : List Pe} {x : Pe} {fr : Int} (h : x.fr = fr) : lookP (setPe d x) fr = some x := by rw [lookP_set, if_pos h.symm]
theorem mem_set_d {d : List Pe} {x y : Pe} (h : y ∈ setPe d x) : y = x ∨ y ∈ d := by
  rcases mem_setPe h with e | ⟨e, _⟩
  · exact .inl e
  · exact .inr e
/-- The peer of a call's text, made or found. -/
theorem OInv.cur {w : Wd} (h : OInv w) {p : Pk} (hm : mayP p = true) (hi : p.inc ≤ w.inc) :
    OInv { w with d := setPe w.d (curPe (lookP w.d 1) 1 p) } ∧ p.inc ≤ (curPe (lookP w.d 1) 1 p).inc ∧ (curPe (lookP w.d 1) 1 p).fr = 1 := by
  have hfr := curPe_fr w.d 1 p
  have hmi : 1 ≤ p.inc ∧ p.inc ≤ 4611686018427387904 := by
    unfold mayP at hm
    simp only [Bool.and_eq_true, decide_eq_true_eq] at hm
    exact ⟨hm.1, hm.2.1⟩
  have hnew : ∀ (_ : ∀ x0, lookP w.d 1 = some x0 → x0.inc < p.inc), OInv { w with d := setPe w.d ⟨1, p.inc, 0, []⟩ } := fun hlt => by
    have hdn : ∀ s, s ∉ w.dn := fun s hs => by
      obtain ⟨x, h1, h2, _⟩ := h.dnP s hs
      have := hlt x h1
      omega
    refine { h with dnP := fun s hs => absurd hs (hdn s), d := fun x hx => ?_, ans := fun x hx hi2 g hg => ?_ }
    · rcases mem_set_d hx with rfl | hx
      · exact ⟨⟨hmi, show (0 : Int) ≤ 0 ∧ (0 : Int) ≤ 4611686018427387905 by decide, List.Pairwise.nil, fun g hg => by cases hg⟩, hi⟩
      · exact h.d x hx
    · have hx' : lookP (setPe w.d ⟨1, p.inc, 0, []⟩) 1 = some x := hx
      rw [look_set_self rfl] at hx'
      injection hx' with hx'
      subst hx'
      cases hg
  have hcp : (curPe (lookP w.d 1) 1 p = ⟨1, p.inc, 0, []⟩ ∧ ∀ x0, lookP w.d 1 = some x0 → x0.inc < p.inc) ∨ ∃ x, lookP w.d 1 = some x ∧ curPe (lookP w.d 1) 1 p = x ∧ p.inc ≤ x.inc := by
    cases hl : lookP w.d 1 with
    | none => exact .inl ⟨rfl, fun x0 e => by cases e⟩
    | some x =>
      by_cases hlt : x.inc < p.inc
      · exact .inl ⟨by unfold curPe; dsimp only; rw [if_pos hlt], fun x0 e => by injection e with e; subst e; exact hlt⟩
      · exact .inr ⟨x, rfl, by unfold curPe; dsimp only; rw [if_neg hlt], by omega⟩
  rcases hcp with ⟨e, hlt⟩ | ⟨x, hl, e, hle⟩
  · rw [e]
    exact ⟨hnew hlt, Int.le_refl _, rfl⟩
  · have hfx : x.fr = 1 := (lookP_some hl).2
    rw [e]
    refine ⟨{ h with dnP := fun s hs => ?_, d := fun y hy => ?_, ans := fun y hy => ?_ }, hle, hfx⟩
    · obtain ⟨y, h1, h2, h3⟩ := h.dnP s hs
      rw [hl] at h1
      injection h1 with h1
      subst h1
      exact ⟨x, look_set_self hfx, h2, h3⟩
    · rcases mem_set_d hy with rfl | hy
      · exact h.d _ (lookP_some hl).1
      · exact h.d y hy
    · have hy' : lookP (setPe w.d x) 1 = some y := hy
      rw [look_set_self hfx] at hy'
      injection hy' with hy'
      subst hy'
      exact h.ans x hl
/-- A text more on its way. -/
theorem OInv.way {w : Wd} (h : OInv w) {y : Bool × ByteArray} (hy : WayOk w y) : OInv { w with ways := w.ways ++ [y] } := by
  refine { h with ways := fun z hz => ?_ }
  rcases List.mem_append.1 hz with hz | hz
  · exact h.ways z hz
  · simp at hz; subst hz; exact hy
/-- Fewer texts on their way. -/
theorem OInv.less {w : Wd} (h : OInv w) {l : List (Bool × ByteArray)} (hl : ∀ y ∈ l, y ∈ w.ways) : OInv { w with ways := l } := { h with ways := fun z hz => h.ways z (hl z hz) }
theorem OInv.lessj {w : Wd} (h : OInv w) {l : List (Int × Int × ByteArray)} (hl : ∀ y ∈ l, y ∈ w.jobs) : OInv { w with jobs := l } := { h with jobs := fun z hz => h.jobs z (hl z hz) }
/-- A call that was done is told of again. -/
theorem OInv.again {w : Wd} (h : OInv w) {x : Pe} (hx : lookP w.d 1 = some x) {g : He} (hg : g ∈ x.L) (hd : g.dn = true) : WayOk w (true, pkS ⟨true, x.inc, g.seq, g.body⟩) := by
  have hp := (h.d x (lookP_some hx).1)
  have hok := hp.1.ok g hg
  refine ⟨_, rfl, ?_, rfl, hp.2, fun e => ?_⟩
  · unfold hOk at hok
    unfold mayP
    simp only [Bool.and_eq_true, decide_eq_true_eq]
    have := hp.1.inc
    omega
  · rw [if_pos rfl]
    obtain ⟨h1, b, h2, h3⟩ := h.ans x hx e g hg
    exact ⟨h1, b, h2, h3 hd⟩
/-- A call that is new. -/
def newW (w : Wd) (x : Pe) (p : Pk) : Wd :=
  { w with d := setPe w.d { x with L := x.L ++ [⟨p.seq, false, ⟨#[]⟩⟩] }, jobs := w.jobs ++ [(p.inc, p.seq, p.body)], dn := if p.inc = w.inc then w.dn ++ [p.seq] else w.dn }
theorem OInv.new {w : Wd} (h : OInv w) {x : Pe} (hx : lookP w.d 1 = some x) {p : Pk} (hm : mayP p = true) (ha : p.an = false) (hw : WayOk w (false, pkS p)) (he : p.inc = x.inc) (hf : ¬ p.seq ≤ x.floor) (hn : lookH x.L p.seq = none) :
    OInv (newW w x p) ∧ (p.inc = w.inc → p.seq ∉ w.dn ∧ (p.seq, p.body) ∈ w.ask) := by
  obtain ⟨p', e1, m1, a1, i1, k1⟩ := hw
  have hpp : p' = p := by
    have h1 := (dec_enc m1).2
    dsimp only at e1
    rw [← e1, (dec_enc hm).2] at h1
    exact h1.symm
  subst hpp
  have hfx : x.fr = 1 := (lookP_some hx).2
  have hno : p'.inc = w.inc → p'.seq ∉ w.dn := fun hi hs => by
    obtain ⟨y, h1, h2, h3⟩ := h.dnP _ hs
    rw [hx] at h1
    injection h1 with h1
    subst h1
    rcases h3 with ⟨g, hg, e⟩ | h3
    · exact lookH_none hn g hg e
    · exact hf h3
  have hak : p'.inc = w.inc → (p'.seq, p'.body) ∈ w.ask := fun hi => by
    have := k1 hi
    rw [if_neg (show ¬ false = true by decide)] at this
    exact this
  have hmm : (1 ≤ p'.inc ∧ p'.inc ≤ 4611686018427387904) ∧ (1 ≤ p'.seq ∧ p'.seq ≤ 4611686018427387904) ∧ p'.body.size ≤ 8192 := by
    unfold mayP at hm
    simp only [Bool.and_eq_true, decide_eq_true_eq] at hm
    omega
  have hsub : ∀ s ∈ w.dn, s ∈ (newW w x p').dn := fun s hs => by
    unfold newW
    dsimp only
    split
    · exact List.mem_append_left _ hs
    · exact hs
  have hin : ∀ s ∈ (newW w x p').dn, s ∈ w.dn ∨ (p'.inc = w.inc ∧ s = p'.seq) := fun s hs => by
    unfold newW at hs
    dsimp only at hs
    split at hs
    · rename_i hi
      rcases List.mem_append.1 hs with hs | hs
      · exact .inl hs
      · simp at hs; exact .inr ⟨hi, hs⟩
    · exact .inl hs
  have hpi := h.d x (lookP_some hx).1
  have hlk : lookP (newW w x p').d 1 = some { x with L := x.L ++ [⟨p'.seq, false, ⟨#[]⟩⟩] } := look_set_self hfx
  refine ⟨⟨h.sv, h.inc, h.conf, h.last, h.now, h.ask, h.askd, fun y hy => h.cl y hy, ?_, fun s hs => ?_, fun s hs => ?_, fun y hy => ?_, fun y hy hi g hg => ?_, fun y hy => (h.ways y hy).more rfl (fun _ x => x) hsub, fun y hy => ?_, fun q hq => (h.du q hq).more rfl (fun _ x => x) hsub, fun o ho => (h.ov o ho).more (fun _ x => x) hsub⟩, fun hi => ⟨hno hi, hak hi⟩⟩
  · unfold newW
    dsimp only
    split
    · rename_i hi
      rw [List.nodup_append]
      exact ⟨h.dnd, List.nodup_cons.2 ⟨by simp, List.nodup_nil⟩, fun a ha b hb e => by simp at hb; subst hb; subst e; exact hno hi ha⟩
    · exact h.dnd
  · rcases hin s hs with hs | ⟨hi, rfl⟩
    · exact h.dna s hs
    · exact ⟨_, hak hi⟩
  · refine ⟨_, hlk, ?_⟩
    rcases hin s hs with hs | ⟨hi, rfl⟩
    · obtain ⟨y, h1, h2, h3⟩ := h.dnP s hs
      rw [hx] at h1
      injection h1 with h1
      subst h1
      refine ⟨h2, ?_⟩
      rcases h3 with ⟨g, hg, e⟩ | h3
      · exact .inl ⟨g, List.mem_append_left _ hg, e⟩
      · exact .inr h3
    · exact ⟨by show x.inc = w.inc; omega, .inl ⟨⟨p'.seq, false, ⟨#[]⟩⟩, List.mem_append_right _ (List.mem_singleton.2 rfl), rfl⟩⟩
  · rcases mem_set_d hy with rfl | hy
    · exact ⟨hpi.1.put (h := ⟨p'.seq, false, ⟨#[]⟩⟩) ⟨hmm.2.1.1, hmm.2.1.2, Nat.zero_le _⟩ (lookH_none hn), hpi.2⟩
    · exact h.d y hy
  · have hy' := hy
    rw [hlk] at hy'
    injection hy' with hy'
    subst hy'
    have hi' : x.inc = w.inc := hi
    rcases List.mem_append.1 hg with hg | hg
    · obtain ⟨a1, b, a2, a3⟩ := h.ans x hx hi' g hg
      exact ⟨hsub _ a1, b, a2, a3⟩
    · simp at hg
      subst hg
      refine ⟨?_, _, hak (by omega), fun e => by cases e⟩
      show p'.seq ∈ (newW w x p').dn
      unfold newW
      dsimp only
      rw [if_pos (by omega)]
      exact List.mem_append_right _ (by simp)
  · have hy' : y ∈ w.jobs ++ [(p'.inc, p'.seq, p'.body)] := hy
    rcases List.mem_append.1 hy' with hy | hy
    · exact (h.jobs y hy).more rfl (fun _ x => x) hsub
    · simp at hy
      subst hy
      refine ⟨⟨hmm.1.1, i1⟩, hmm.2.1, hmm.2.2, fun e => ⟨?_, hak e⟩⟩
      show p'.seq ∈ (newW w x p').dn
      unfold newW
      dsimp only
      rw [if_pos (show p'.inc = w.inc from e)]
      exact List.mem_append_right _ (by simp)
/-- An answer is given. -/
theorem OInv.ansd {w : Wd} (h : OInv w) {j : Int × Int × ByteArray} (hj : JobOk w j) : OInv { w with d := (ansD w.d 1 j.1 j.2.1 (did j.2.2)).2 } ∧ ((ansD w.d 1 j.1 j.2.1 (did j.2.2)).1.2 = 0 → WayOk w (true, (ansD w.d 1 j.1 j.2.1 (did j.2.2)).1.1)) := by
  have key : ((ansD w.d 1 j.1 j.2.1 (did j.2.2)).2 = w.d ∧ (ansD w.d 1 j.1 j.2.1 (did j.2.2)).1.2 ≠ 0) ∨
      ∃ x g, lookP w.d 1 = some x ∧ x.inc = j.1 ∧ lookH x.L j.2.1 = some g ∧ g.dn = false ∧ (did j.2.2).size ≤ 8192 ∧ ansD w.d 1 j.1 j.2.1 (did j.2.2) = ((pkS ⟨true, j.1, j.2.1, did j.2.2⟩, 0), setPe w.d (forgetP { x with L := setH x.L ⟨j.2.1, true, did j.2.2⟩ })) := by
    unfold ansD
    by_cases h1 : placeB 1 = false
    · rw [if_pos h1]; exact .inl ⟨rfl, by show (2 : Int) ≠ 0; decide⟩
    · rw [if_neg h1]
      by_cases h2 : 8192 < (did j.2.2).size
      · rw [if_pos h2]; exact .inl ⟨rfl, by show (4 : Int) ≠ 0; decide⟩
      · rw [if_neg h2]
        cases hl : lookP w.d 1 with
        | none => exact .inl ⟨rfl, by show (5 : Int) ≠ 0; decide⟩
        | some x =>
          dsimp only
          by_cases hi : x.inc = j.1
          · rw [if_pos hi]
            cases hg : lookH x.L j.2.1 with
            | none => exact .inl ⟨rfl, by show (5 : Int) ≠ 0; decide⟩
            | some g =>
              dsimp only
              cases hd : g.dn with
              | true => exact .inl ⟨rfl, by show (5 : Int) ≠ 0; decide⟩
              | false => exact .inr ⟨x, g, rfl, hi, hg, hd, by omega, rfl⟩
          · rw [if_neg hi]; exact .inl ⟨rfl, by show (5 : Int) ≠ 0; decide⟩
  rcases key with ⟨e1, e2⟩ | ⟨x, g, hx, hi, hg, hd, hsz, e⟩
  · rw [e1]; exact ⟨{ h with }, fun e => absurd e e2⟩
  · rw [e]
    dsimp only
    obtain ⟨j1, j2, j3, j4⟩ := hj
    obtain ⟨hgm, hgs⟩ := lookH_some hg
    have hfx : x.fr = 1 := (lookP_some hx).2
    have hpi := h.d x (lookP_some hx).1
    have hok : hOk ⟨j.2.1, true, did j.2.2⟩ := ⟨j2.1, j2.2, hsz⟩
    have hps := hpi.1.set hok
    obtain ⟨y, hy⟩ : ∃ y, ({ x with L := setH x.L ⟨j.2.1, true, did j.2.2⟩ } : Pe) = y := ⟨_, rfl⟩
    rw [hy] at hps ⊢
    have hyf : y.fr = 1 := by rw [← hy]; exact hfx
    have hyi : y.inc = x.inc := by rw [← hy]
    have hyl : y.floor = x.floor := by rw [← hy]
    have hyL : ∀ g' ∈ y.L, g' = ⟨j.2.1, true, did j.2.2⟩ ∨ g' ∈ x.L := fun g' hg' => by
      rw [← hy] at hg'
      obtain ⟨a, ha, rfl⟩ := List.mem_map.1 hg'
      split
      · exact .inl rfl
      · exact .inr ha
    have hyk : ∀ s, (∃ g' ∈ x.L, g'.seq = s) → ∃ g' ∈ y.L, g'.seq = s := fun s ⟨a, ha, es⟩ => by
      rw [← hy]
      refine ⟨_, List.mem_map.2 ⟨a, ha, rfl⟩, ?_⟩
      split
      · rename_i e3; show j.2.1 = s; rw [← es]; exact e3.symm
      · exact es
    have hff : (forgetP y).fr = 1 := by unfold forgetP; split <;> exact hyf
    have hfi : (forgetP y).inc = x.inc := by rw [forget_inc, hyi]
    have hfL : ∀ g' ∈ (forgetP y).L, g' ∈ y.L := fun g' hg' => by
      unfold forgetP at hg'
      split at hg'
      · exact hg'
      · exact (List.mem_filter.1 hg').1
    have hfk : ∀ s, ((∃ g' ∈ y.L, g'.seq = s) ∨ s ≤ y.floor) → ((∃ g' ∈ (forgetP y).L, g'.seq = s) ∨ s ≤ (forgetP y).floor) := fun s hs => by
      unfold forgetP
      split
      · exact hs
      · dsimp only
        rcases hs with ⟨g', hg', es⟩ | hs
        · by_cases hq : g'.seq = leastD y.L
          · right; rw [← es, hq]; omega
          · left; exact ⟨g', List.mem_filter.2 ⟨hg', by simpa using hq⟩, es⟩
        · right; omega
    have hpf : PInv (forgetP y) := by
      unfold forgetP
      split
      · exact hps
      · have hle := leastD_is y.L
        refine ⟨hps.inc, ⟨by have := hps.floor; dsimp only; omega, by have := hps.floor; have := hle.2.2; dsimp only; omega⟩, hps.dis.filter _, fun g' hg' => hps.ok g' (List.mem_filter.1 hg').1⟩
    have hlk : lookP (setPe w.d (forgetP y)) 1 = some (forgetP y) := look_set_self hff
    refine ⟨{ h with dnP := fun s hs => ?_, d := fun z hz => ?_, ans := fun z hz hi2 g' hg' => ?_ }, fun _ => ⟨_, rfl, ?_, rfl, ?_, fun e4 => ?_⟩⟩
    · obtain ⟨z, h1, h2, h3⟩ := h.dnP s hs
      rw [hx] at h1
      injection h1 with h1
      subst h1
      refine ⟨_, hlk, by rw [hfi]; exact h2, hfk s ?_⟩
      rcases h3 with h3 | h3
      · exact .inl (hyk s h3)
      · rw [hyl]; exact .inr h3
    · rcases mem_set_d hz with rfl | hz
      · exact ⟨hpf, by rw [hfi]; exact hpi.2⟩
      · exact h.d z hz
    · have hz' : lookP (setPe w.d (forgetP y)) 1 = some z := hz
      rw [hlk] at hz'
      injection hz' with hz'
      subst hz'
      have hxi : x.inc = w.inc := by rw [← hfi]; exact hi2
      rcases hyL g' (hfL g' hg') with rfl | hgx
      · have := j4 (by omega)
        exact ⟨this.1, _, this.2, fun _ => rfl⟩
      · exact h.ans x hx hxi g' hgx
    · unfold mayP
      simp only [Bool.and_eq_true, decide_eq_true_eq]
      have := hpi.1.inc
      omega
    · show j.1 ≤ w.inc
      exact j1.2
    · rw [if_pos rfl]
      have := j4 e4
      exact ⟨this.1, _, this.2, rfl⟩
/-- The caller begins anew. -/
def crashW (w : Wd) : Wd := { w with c := ⟨w.inc + 1, 4, 16, 60, 0, [], [], []⟩, inc := w.inc + 1, ask := [], dn := [] }
theorem OInv.crash {w : Wd} (h : OInv w) (hi : w.inc < 1000000) (hs : SInv (⟨w.inc + 1, 4, 16, 60, 0, [], [], []⟩ : St)) : OInv (crashW w) := by
  unfold crashW
  refine ⟨hs, ⟨rfl, by have := h.inc; show 1 ≤ w.inc + 1; omega, by show w.inc + 1 ≤ 1000000; omega⟩, ⟨rfl, rfl, rfl⟩, ⟨by show (0 : Int) ≤ 0; decide, by show (0 : Int) ≤ 1000000; decide⟩, h.now, (fun p hp => by cases hp), List.Pairwise.nil, (fun x hx => by cases hx), List.nodup_nil, (fun s hs => by cases hs), (fun s hs => by cases hs), fun x hx => ⟨(h.d x hx).1, by have := (h.d x hx).2; show x.inc ≤ w.inc + 1; omega⟩, fun x hx hi2 => ?_, fun y hy => (h.ways y hy).crash (by show w.inc < w.inc + 1; omega), fun y hy => (h.jobs y hy).crash (by show w.inc < w.inc + 1; omega), (fun q hq => by cases hq), (fun o ho => by cases ho)⟩
  have := (h.d x (lookP_some hx).1).2
  have hi2' : x.inc = w.inc + 1 := hi2
  omega
/-- What is due is on its way; what is over is told. -/
def sendsW (w : Wd) : Wd := { w with ways := w.ways ++ w.c.du.map (fun q => (false, q.2)), c := { w.c with du := [], ov := [] } }
theorem OInv.sends {w : Wd} (h : OInv w) : OInv (sendsW w) := by
  unfold sendsW
  refine { h with sv := ⟨h.sv.inc, h.sv.wait, h.sv.most, h.sv.tries, h.sv.last, h.sv.len, h.sv.ris, h.sv.ok⟩, ways := fun y hy => ?_, du := (fun q hq => by cases hq), ov := (fun o ho => by cases ho) }
  rcases List.mem_append.1 hy with hy | hy
  · exact h.ways y hy
  · obtain ⟨q, hq, rfl⟩ := List.mem_map.1 hy
    exact h.du q hq
theorem OInv.start (hs : SInv (⟨1, 4, 16, 60, 0, [], [], []⟩ : St)) : OInv ⟨⟨1, 4, 16, 60, 0, [], [], []⟩, [], 1, 0, [], [], [], []⟩ :=
  ⟨hs, ⟨rfl, by show (1 : Int) ≤ 1; decide, by show (1 : Int) ≤ 1000000; decide⟩, ⟨rfl, rfl, rfl⟩, ⟨by show (0 : Int) ≤ 0; decide, by show (0 : Int) ≤ 1000000; decide⟩, ⟨by show (0 : Int) ≤ 0; decide, by show (0 : Int) ≤ 1000000; decide⟩, (fun p hp => by cases hp), List.Pairwise.nil, (fun x hx => by cases hx), List.nodup_nil, (fun s hs => by cases hs), (fun s hs => by cases hs), (fun x hx => by cases hx), (fun x hx => by cases hx), (fun y hy => by cases hy), (fun y hy => by cases hy), (fun q hq => by cases hq), (fun o ho => by cases ho)⟩
end Rp
end Go.Proofs.Ytgdgonmhgpflcaa


/- Rows of the call's own of which the front was cut off: appended to, kept. No condition. -/
namespace Go.Proofs.Ytgdgonmhgpflcaa
open Go.RowKit
set_option linter.unusedVariables false
theorem flat_len {α : Type} {LAY : α → List Value} {sz : Nat} (hsz : ∀ x, (LAY x).length = sz) : ∀ l : List α, (l.flatMap LAY).length = l.length * sz := by
  intro l
  induction l with
  | nil => simp
  | cons a l ih => rw [List.flatMap_cons, List.length_append, hsz, ih, List.length_cons, Nat.succ_mul]; omega
theorem flat_take {α : Type} {LAY : α → List Value} {sz : Nat} (hsz : ∀ x, (LAY x).length = sz) (l : List α) (i : Nat) (hi : i ≤ l.length) : (l.take i).flatMap LAY = (l.flatMap LAY).take (i * sz) := by
  have e : l.flatMap LAY = (l.take i).flatMap LAY ++ (l.drop i).flatMap LAY := by rw [← List.flatMap_append, List.take_append_drop]
  rw [e, List.take_append_of_le_length (by rw [flat_len hsz, List.length_take, Nat.min_eq_left hi]; exact Nat.le_refl _)]
  exact (List.take_of_length_le (by rw [flat_len hsz, List.length_take, Nat.min_eq_left hi]; exact Nat.le_refl _)).symm
theorem flat_drop {α : Type} {LAY : α → List Value} {sz : Nat} (hsz : ∀ x, (LAY x).length = sz) (l : List α) (i : Nat) (hi : i ≤ l.length) : (l.drop i).flatMap LAY = (l.flatMap LAY).drop (i * sz) := by
  have e : l.flatMap LAY = (l.take i).flatMap LAY ++ (l.drop i).flatMap LAY := by rw [← List.flatMap_append, List.take_append_drop]
  have h : ((l.take i).flatMap LAY).length = i * sz := by rw [flat_len hsz, List.length_take]; congr 1; omega
  rw [e, ← h, List.drop_left]
theorem flat_get {α : Type} {LAY : α → List Value} {sz : Nat} (hsz : ∀ x, (LAY x).length = sz) (l : List α) (i j : Nat) (hi : i < l.length) (hj : j < sz) : (l.flatMap LAY)[i * sz + j]? = (LAY l[i])[j]? := by
  have h := flat_drop hsz l i (by omega)
  have e : (l.flatMap LAY)[i * sz + j]? = ((l.flatMap LAY).drop (i * sz))[j]? := by rw [List.getElem?_drop]
  rw [e, ← h, ← List.getElem_cons_drop hi, List.flatMap_cons, List.getElem?_append_left (by rw [hsz]; exact hj)]
/-- Cells put into an array, one behind the other. -/
def putAll (A : Array Value) (o : Nat) : List Value → Array Value
  | [] => A
  | v :: vs => putAll (A.setIfInBounds o v) (o + 1) vs
theorem putAll_size : ∀ (vs : List Value) (A : Array Value) (o : Nat), (putAll A o vs).size = A.size := by
  intro vs
  induction vs with
  | nil => intro A o; rfl
  | cons v vs ih => intro A o; unfold putAll; rw [ih]; simp
theorem putAll_out : ∀ (vs : List Value) (A : Array Value) (o k : Nat), k < o ∨ o + vs.length ≤ k → (putAll A o vs)[k]? = A[k]? := by
  intro vs
  induction vs with
  | nil => intro A o k _; rfl
  | cons v vs ih =>
    intro A o k hk
    unfold putAll
    rw [List.length_cons] at hk
    rw [ih _ _ _ (by omega), Array.getElem?_setIfInBounds, if_neg (by omega)]
theorem putAll_in : ∀ (vs : List Value) (A : Array Value) (o j : Nat) (u : Value), o + vs.length ≤ A.size → vs[j]? = some u → (putAll A o vs)[o + j]? = some u := by
  intro vs
  induction vs with
  | nil => intro A o j u _ h; simp at h
  | cons v vs ih =>
    intro A o j u hs h
    rw [List.length_cons] at hs
    unfold putAll
    cases j with
    | zero =>
      simp at h
      subst h
      rw [putAll_out _ _ _ _ (by omega), Nat.add_zero, Array.getElem?_setIfInBounds, if_pos rfl, if_pos (by omega)]
    | succ j =>
      have h' : vs[j]? = some u := by simpa using h
      have := ih (A.setIfInBounds o v) (o + 1) j u (by simp; omega) h'
      rw [show o + (j + 1) = o + 1 + j by omega]
      exact this
theorem Blk.setCells : ∀ (vs : List Value) {w : World} {g : Nat} {T : TypeId} {A : Array Value} (o : Nat), Blk w g T A → Blk (w.setCells g o vs) g T (putAll A o vs) ∧ Only (· = g) w (w.setCells g o vs) := by
  intro vs
  induction vs with
  | nil => intro w g T A o h; exact ⟨h, Only.refl _ _⟩
  | cons v vs ih =>
    intro w g T A o h
    have h1 := h.set o v
    have h2 := ih (o + 1) h1
    exact ⟨h2.1, ((Only.refl (· = g) w).set1).trans h2.2⟩
/-- n elements of sz cells each, in a block behind base, wherever they begin. -/
def RowV (w : World) (base : Nat) (T : TypeId) (sz : Nat) (v : Value) (n : Nat) (xs : List Value) : Prop :=
  xs.length = n * sz ∧ ((v = .slice none 0 0 ∧ n = 0) ∨ ∃ g off cap A, v = .slice (some ⟨g, off, none⟩) n cap ∧ base ≤ g ∧ Blk w g T A ∧ n ≤ cap ∧ off + cap * sz ≤ A.size ∧ ∀ j u, xs[j]? = some u → A[off + j]? = some u)
section
variable {w w' : World} {base n sz : Nat} {T : TypeId} {v : Value} {xs : List Value}
theorem RowV.of_own (h : w.ownsRow base T sz v n xs) : RowV w base T sz v n xs := by
  obtain ⟨hl, h | ⟨g, cap, cur, rfl, hb, hg, h1, h2, h3, h4⟩⟩ := h
  · exact ⟨hl, .inl h⟩
  · refine ⟨hl, .inr ⟨g, 0, cap, cur, rfl, hb, hg, h1, by omega, fun j u hu => ?_⟩⟩
    rw [← h4] at hu
    rw [Nat.zero_add, ← Array.getElem?_toList]
    rw [List.getElem?_take] at hu
    split at hu
    · exact hu
    · cases hu
theorem RowV.nil : RowV w base T sz (.slice none 0 0) 0 [] := ⟨by simp, .inl ⟨rfl, rfl⟩⟩
theorem RowV.slice (h : RowV w base T sz v n xs) : ∃ p cap, v = .slice p n cap := by
  obtain ⟨_, ⟨rfl, rfl⟩ | ⟨g, off, cap, A, rfl, _⟩⟩ := h
  · exact ⟨none, 0, rfl⟩
  · exact ⟨_, _, rfl⟩
theorem RowV.ty (h : RowV w base T sz v n xs) {g : Nat} (hg : v.ownBlock = some g) : ∃ A, Blk w g T A ∧ base ≤ g := by
  obtain ⟨_, ⟨rfl, _⟩ | ⟨g', off, cap, A, rfl, hb, hk, _⟩⟩ := h
  · cases hg
  · cases hg; exact ⟨A, hk, hb⟩
theorem RowV.only {S : Nat → Prop} (h : RowV w base T sz v n xs) (ho : Only S w w') (hS : ∀ g, v.ownBlock = some g → ¬ S g) : RowV w' base T sz v n xs := by
  obtain ⟨hl, h | ⟨g, off, cap, A, rfl, hb, hk, r⟩⟩ := h
  · exact ⟨hl, .inl h⟩
  · exact ⟨hl, .inr ⟨g, off, cap, A, rfl, hb, hk.only ho (hS g rfl), r⟩⟩
theorem RowV.below (h : RowV w base T sz v n xs) (hb : Below w.heap.size w w') : RowV w' base T sz v n xs := h.only (Only.of_below (S := fun _ => False) hb) (fun _ _ h => h)
/-- The cells. -/
theorem RowV.at (h : RowV w base T sz v n xs) (hn : 0 < n) : ∃ g off cap, v = .slice (some ⟨g, off, none⟩) n cap ∧ n ≤ cap ∧ g < w.heap.size ∧ (∀ o, w.frozen? ⟨g, o, none⟩ = false) ∧ ∀ j u, xs[j]? = some u → w.cell? ⟨g, off + j, none⟩ = some u := by
  obtain ⟨hl, ⟨_, h0⟩ | ⟨g, off, cap, A, rfl, hb, hk, hc, hs, hx⟩⟩ := h
  · omega
  · exact ⟨g, off, cap, rfl, hc, hk.lt, hk.frozen, fun j u hu => by rw [hk.cell]; exact hx j u hu⟩
/-- What is left once the first element was cut off. -/
theorem RowV.tail {g off cap : Nat} {ys zs : List Value} (h : RowV w base T sz (.slice (some ⟨g, off, none⟩) (n + 1) cap) (n + 1) (ys ++ zs)) (hy : ys.length = sz) : RowV w base T sz (.slice (some ⟨g, off + sz, none⟩) n (cap - 1)) n zs := by
  obtain ⟨hl, ⟨h0, _⟩ | ⟨g', off', cap', A, e, hb, hk, hc, hs, hx⟩⟩ := h
  · cases h0
  · injection e with e1 _ e3
    injection e1 with e1
    injection e1 with e4 e5
    subst e3 e4 e5
    have hm : (n + 1) * sz = n * sz + sz := Nat.succ_mul n sz
    have hm2 : cap * sz = (cap - 1) * sz + sz := by rw [← Nat.succ_mul]; congr 1; omega
    rw [List.length_append] at hl
    refine ⟨by omega, .inr ⟨g, off + sz, cap - 1, A, rfl, hb, hk, by omega, by omega, fun j u hu => ?_⟩⟩
    have := hx (sz + j) u (by rw [List.getElem?_append_right (by omega), show sz + j - ys.length = j by omega]; exact hu)
    rw [← Nat.add_assoc] at this
    exact this
end
section
variable {P : Program} {ops : Array Oper} {rest : List Oper} {o : Oper} {a : Act} {Q : Exit → Act → World → Prop}
/-- 's = append(s, y)', y just laid, s a row wherever it begins. -/
theorem wp_append_view {K : Act → World → Prop} {w0 : World} {ys : List Value} {e' : TypeId} {s x : Operand} {t e : TypeId} {z : Value} {size bytes : Nat} {base : Nat} {v : Value} {n : Nat} {xs : List Value} {nb : Nat}
    (ho : o.op = .call { callee := .builtin .append, args := #[s, x], argTypes := #[t, t] })
    (hx : a.eval x = .slice (some ⟨nb, 0, none⟩) 1 1) (hs : a.eval s = v)
    (ht : P.underlying t = some (.slice e)) (hi : Info P e z size bytes) (hz : z.cells.size = size) (hy : ys.all (·.oneCell') = true) (hl : ys.length = 1 * size) (hsz : 0 < size) (hb : bytes ≤ 1024)
    (hown : RowV w0 base e size v n xs) (hn : n < 2147483648) (hbase : base ≤ w0.heap.size) (hnb : nb = w0.heap.size)
    (h : ∀ v' w', RowV w' base e size v' (n + 1) (xs ++ ys) → Only (fun k => v.ownBlock = some k) w0 w' → K (a.put o.dst v') w') :
    o.wp P a (w0.alloc (.cells ys.toArray e')) K Q := by
  subst hnb
  obtain ⟨i, hi1, hi2, hi3, hi4⟩ := info_parts hi
  have hnew : ∀ j u, ys[j]? = some u → (w0.alloc (.cells ys.toArray e')).cell? ((⟨w0.heap.size, 0, none⟩ : Addr).add j) = some u := fun j u hj => by
    have : (⟨w0.heap.size, 0, none⟩ : Addr).add j = ⟨w0.heap.size, j, none⟩ := by unfold Addr.add; split <;> simp_all
    rw [this, (Blk.new w0 e' ys.toArray).cell j]; simpa using hj
  have h1c : ∀ u ∈ ys, u.oneCell' = true := fun u hu => List.all_eq_true.1 hy u hu
  have hby : (n + 1) * bytes ≤ 140737488355328 := by have : (n + 1) * bytes ≤ 2147483648 * 1024 := Nat.mul_le_mul (by omega) hb; omega
  have hmx : n + 1 ≤ maxLen := by unfold maxLen; omega
  obtain ⟨hlx, ⟨rfl, rfl⟩ | ⟨g, off, cap, A, rfl, hg, hk, hc, hs2, hxs⟩⟩ := hown
  · have h0 : xs = [] := List.eq_nil_of_length_eq_zero (by simpa using hlx)
    subst h0
    refine wp_append_own _ s x t ho base e i z size bytes ht hi1 hi2 hi3 hi4 hz hsz (.slice none 0 0) 0 [] hs ⟨by simp, .inl ⟨rfl, rfl⟩⟩ _ 1 1 ys hx hl hnew h1c hmx hby (by simp; omega) ?_
    intro v' w' h1 h2 _
    exact h v' w' (.of_own h1) ⟨h2.os, h2.tape, h2.output, by have := h2.size; simp at this; omega, fun k hk hne => (h2.block k (by simp; omega) (fun e => by cases e)).trans (Below.heap_alloc _ _ _ hk)⟩
  · have hlt := hk.lt
    have hk2 := hk.alloc (.cells ys.toArray e')
    by_cases hr : n + 1 ≤ cap
    · have hm : (n + 1) * size ≤ cap * size := Nat.mul_le_mul_right size hr
      rw [Nat.succ_mul] at hm
      have hcell : ∀ j, j < ys.length → ((w0.alloc (.cells ys.toArray e')).cell? ⟨g, off + n * size + j, none⟩).isSome = true := fun j hj => by
        rw [hk2.cell, Array.getElem?_eq_getElem (by omega)]; rfl
      have hrun := run_append_room_cells (P := P) (w := w0.alloc (.cells ys.toArray e')) t o.type e i ht hi1 g off n cap ⟨w0.heap.size, 0, none⟩ 1 1 ys (by rw [hi3]; exact hl) hnew h1c hr (by rw [hi3]; exact hcell) (fun j hj => hk2.frozen _)
      rw [hi3] at hrun
      have hsc := Blk.setCells ys (off + n * size) hk2
      unfold Oper.wp
      simp [execOp, ho, resolve, invoke, builtin, hs, hx, hrun, Result.andThen]
      refine h _ _ ⟨by rw [List.length_append, hlx, hl, ← Nat.add_mul], .inr ⟨g, off, cap, _, rfl, hg, hsc.1, hr, by rw [putAll_size]; exact hs2, fun j u hu => ?_⟩⟩ ?_
      · by_cases hj : j < xs.length
        · rw [List.getElem?_append_left hj] at hu
          rw [putAll_out _ _ _ _ (by left; omega)]
          exact hxs j u hu
        · rw [List.getElem?_append_right (by omega)] at hu
          have := putAll_in ys A (off + n * size) (j - xs.length) u (by omega) hu
          rwa [show off + n * size + (j - xs.length) = off + j by omega] at this
      · exact ⟨hsc.2.os, hsc.2.tape, hsc.2.output, by have := hsc.2.size; simp at this; omega, fun k hk hne => (hsc.2.block k (by simp; omega) (fun e => hne (by rw [e]; rfl))).trans (Below.heap_alloc _ _ _ hk)⟩
    · obtain ⟨v', w', hrun, h1, h2⟩ := run_append_arg_grows (P := P) (w := w0.alloc (.cells ys.toArray e')) t o.type e i z size bytes ht hi1 hi2 hi3 hi4 hz hsz ⟨g, off, none⟩ n cap xs hlx (fun j u hu => by rw [Addr.add_lit, hk2.cell]; exact hxs j u hu) ⟨w0.heap.size, 0, none⟩ 1 1 ys hl hnew (by omega) hmx hby
      unfold Oper.wp
      simp [execOp, ho, resolve, invoke, builtin, hs, hx, hrun, Result.andThen]
      refine h v' w' (.of_own (owns_ge h1 (by simp; omega))) ⟨h2.os, h2.tape, h2.output, by have := h2.size; simp at this; omega, fun k hk hne => (h2.block k (by simp; omega) (fun e => by cases e)).trans (Below.heap_alloc _ _ _ hk)⟩
theorem wpl_append_view {w0 : World} {ys : List Value} {e' : TypeId} {s x : Operand} {t e : TypeId} {z : Value} {size bytes : Nat} {base : Nat} {v : Value} {n : Nat} {xs : List Value} {nb : Nat}
    (hgd : o.guard = none) (ho : o.op = .call { callee := .builtin .append, args := #[s, x], argTypes := #[t, t] })
    (hx : a.eval x = .slice (some ⟨nb, 0, none⟩) 1 1) (hs : a.eval s = v)
    (ht : P.underlying t = some (.slice e)) (hi : Info P e z size bytes) (hz : z.cells.size = size) (hy : ys.all (·.oneCell') = true) (hl : ys.length = 1 * size) (hsz : 0 < size) (hb : bytes ≤ 1024)
    (hown : RowV w0 base e size v n xs) (hn : n < 2147483648) (hbase : base ≤ w0.heap.size) (hnb : nb = w0.heap.size)
    (h : ∀ v' w', RowV w' base e size v' (n + 1) (xs ++ ys) → Only (fun k => v.ownBlock = some k) w0 w' → wpList P ops Q rest (a.put o.dst v') w') :
    wpList P ops Q (o :: rest) a (w0.alloc (.cells ys.toArray e')) :=
  wpList_plain hgd fun _ hK => wp_append_view ho hx hs ht hi hz hy hl hsz hb hown hn hbase hnb fun v' w' h1 h2 => hK _ _ (h v' w' h1 h2)
/-- .. as a step of a drawn region. -/
theorem step_append_view {K : Act → World → Prop} {E : Prop} {w0 : World} {ys : List Value} {e' : TypeId} {s x : Operand} {t e : TypeId} {z : Value} {size bytes : Nat} {base : Nat} {v : Value} {n : Nat} {xs : List Value} {nb : Nat}
    (hgd : o.guard = none) (ho : o.op = .call { callee := .builtin .append, args := #[s, x], argTypes := #[t, t] })
    (hx : a.eval x = .slice (some ⟨nb, 0, none⟩) 1 1) (hs : a.eval s = v)
    (ht : P.underlying t = some (.slice e)) (hi : Info P e z size bytes) (hz : z.cells.size = size) (hy : ys.all (·.oneCell') = true) (hl : ys.length = 1 * size) (hsz : 0 < size) (hb : bytes ≤ 1024)
    (hown : RowV w0 base e size v n xs) (hn : n < 2147483648) (hbase : base ≤ w0.heap.size) (hnb : nb = w0.heap.size)
    (h : ∀ v' w', RowV w' base e size v' (n + 1) (xs ++ ys) → Only (fun k => v.ownBlock = some k) w0 w' → K (a.put o.dst v') w') :
    if Region.wanted o (yielded ops a.tmps) = true then Oper.wp P o a (w0.alloc (.cells ys.toArray e')) K Q else E := by
  rw [if_pos (by simp [Region.wanted, hgd])]
  exact wp_append_view ho hx hs ht hi hz hy hl hsz hb hown hn hbase hnb h
end
end Go.Proofs.Ytgdgonmhgpflcaa


/- RpcOnce's world in memory: the caller, who is called, texts on their way, calls that are done, and the law's own maps. No condition. -/
namespace Go.Proofs.Ytgdgonmhgpflcaa
open Go.RowKit Go.Maps Wire Rp
set_option linter.unusedVariables false
set_option linter.unusedSimpArgs false
namespace Rp
def sdE : Value → Option (Ml.DV × List MemPlace)
  | .string s => some (.lit (.string s.data.toList), [])
  | _ => none
theorem sdE_inv {v : Value} {a : ByteArray} {ps : List MemPlace} (h : sdE v = some (.lit (.string a.data.toList), ps)) : v = .string a := by
  unfold sdE at h
  split at h
  · simp only [Option.some.injEq, Prod.mk.injEq, DataW.lit.injEq, Lit.string.injEq] at h
    rw [ByteArray.ext (Array.toList_inj.1 h.1)]
  · cases h
/-- What was asked, by number. -/
def layA : Ml.Lay (Int × ByteArray) where
  key a := KR a.1
  val a := .string a.2
  dat a := .lit (.string a.2.data.toList)
  rd := sdE
  rdm _ := rfl
  inv _ _ _ h := sdE_inv h
  lit _ := trivial
def idE : Value → Option (Ml.DV × List MemPlace)
  | .int .i64 x => some (.lit (.int .i64 x), [])
  | _ => none
theorem idE_inv {v : Value} {a : Int} {ps : List MemPlace} (h : idE v = some (.lit (.int .i64 a), ps)) : v = .int .i64 a := by
  unfold idE at h
  split at h
  · simp only [Option.some.injEq, Prod.mk.injEq, DataW.lit.injEq, Lit.int.injEq, true_and] at h
    rw [h.1]
  · cases h
/-- How often a call was new, by number. -/
def layN : Ml.Lay (Int × Int) where
  key a := KR a.1
  val a := .int .i64 a.2
  dat a := .lit (.int .i64 a.2)
  rd := idE
  rdm _ := rfl
  inv _ _ _ h := idE_inv h
  lit _ := trivial
def onc1 (s : Int) : Int × Int := (s, 1)
def wrow (y : Bool × ByteArray) : List Value := [.bool y.1, .string y.2]
def jrow (j : Int × Int × ByteArray) : List Value := [.int .u64 j.1, .int .u64 j.2.1, .string j.2.2]
def wcells (b cx : Nat) (d : Wd) (vw vj : Value) (ha hd : Nat) (fn : Bool) : Array Value := #[.pointer (some ⟨b, 0, none⟩), .pointer (some ⟨cx, 0, none⟩), .int .u64 d.inc, .int .i64 d.now, vw, vj, .map (some ha), .map (some hd), .bool fn]
end Rp
theorem info_way : Info Try.prog 66 (.agg #[.bool false, .string ⟨#[]⟩]) 2 24 := by unfold Info; kernel_rfl
theorem info_job : Info Try.prog 145 (.agg #[.int .u64 0, .int .u64 0, .string ⟨#[]⟩]) 3 32 := by unfold Info; kernel_rfl
structure OW (w0 w : World) (g b h cx hx bd bo : Nat) (B Bp Mp : Int → Nat) (d : Wd) (vd vo vw vj : Value) (ha hd N : Nat) (fn : Bool) : Prop where
  duo : Duo w0 w b h cx hx bd bo B Bp Mp d.c d.d vd vo N
  blk : Blk w g 61 (wcells b cx d vw vj ha hd fn)
  wr : RowV w w0.heap.size 66 2 vw d.ways.length (d.ways.flatMap wrow)
  jr : w.ownsRow w0.heap.size 145 3 vj d.jobs.length (d.jobs.flatMap jrow)
  am : Ml.At layA Try.prog 22 w ha d.ask N
  dm : Ml.At layN Try.prog 22 w hd (d.dn.map onc1) N
  ne : ha ≠ h ∧ hd ≠ h ∧ ¬ MO hx Mp d.d ha ∧ ¬ MO hx Mp d.d hd ∧ ha ≠ hd
  lo : w0.heap.size ≤ g ∧ w0.heap.size ≤ ha ∧ w0.heap.size ≤ hd
/-- What the law itself may turn. -/
def OwnS (w0 w : World) (g ha hd : Nat) : Nat → Prop := fun k => k = g ∨ k = ha ∨ k = hd ∨ (w0.heap.size ≤ k ∧ ∃ A, Blk w k 66 A) ∨ (w0.heap.size ≤ k ∧ ∃ A, Blk w k 145 A)
section
variable {w0 w w' : World} {g b h cx hx bd bo ha hd N N' : Nat} {B Bp Mp : Int → Nat} {d : Wd} {vd vo vw vj : Value} {fn : Bool}
theorem at_noblk {α : Type} {l : Ml.Lay α} {L : List α} (m : Ml.At l Try.prog 22 w ha L N) {k : Nat} {T : TypeId} {A : Array Value} (hk : Blk w k T A) : ha ≠ k := fun e => by subst e; exact m.no_cells hk
theorem OW.below (x : OW w0 w g b h cx hx bd bo B Bp Mp d vd vo vw vj ha hd N fn) (hb : Below w.heap.size w w') : OW w0 w' g b h cx hx bd bo B Bp Mp d vd vo vw vj ha hd N fn :=
  ⟨x.duo.below hb, x.blk.below hb, x.wr.below hb, owns_below x.jr hb, x.am.below hb, x.dm.below hb, x.ne, x.lo⟩
theorem OW.mono (x : OW w0 w g b h cx hx bd bo B Bp Mp d vd vo vw vj ha hd N fn) (hN : N ≤ N') : OW w0 w g b h cx hx bd bo B Bp Mp d vd vo vw vj ha hd N' fn :=
  ⟨x.duo.mono hN, x.blk, x.wr, x.jr, x.am.mono hN, x.dm.mono hN, x.ne, x.lo⟩
/-- The caller turns. -/
theorem OW.onC (x : OW w0 w g b h cx hx bd bo B Bp Mp d vd vo vw vj ha hd N fn) {bd' bo' : Nat} {B' : Int → Nat} {st' : St} {vd' vo' : Value} (hN : N ≤ N') (c : CW w' w0.heap.size bd' bo' b h B' st' vd' vo' N') (o : OnC w0.heap.size b h bd bo w w') :
    OW w0 w' g b h cx hx bd' bo' B' Bp Mp { d with c := st' } vd' vo' vw vj ha hd N' fn := by
  have cw := x.duo.cw
  have key : ∀ {k : Nat} {T : TypeId} {A : Array Value}, Blk w k T A → T ≠ 143 → T ≠ 148 → T ≠ 101 → T ≠ 83 → ¬ (k = b ∨ k = h ∨ (w0.heap.size ≤ k ∧ ∃ A, Blk w k 148 A) ∨ (bd ≤ k ∧ ∃ A, Blk w k 101 A) ∨ (bo ≤ k ∧ ∃ A, Blk w k 83 A)) := fun hk h1 h2 h3 h4 hs => by
    rcases hs with e | e | ⟨_, A', e⟩ | ⟨_, A', e⟩ | ⟨_, A', e⟩
    · subst e; exact h1 (blk_ne hk cw.blk)
    · exact at_ne cw.mp hk e.symm
    · exact h2 (blk_ne hk e)
    · exact h3 (blk_ne hk e)
    · exact h4 (blk_ne hk e)
  have mk : ∀ {α : Type} {l : Ml.Lay α} {L : List α} {k : Nat}, Ml.At l Try.prog 22 w k L N → k ≠ h → ¬ (k = b ∨ k = h ∨ (w0.heap.size ≤ k ∧ ∃ A, Blk w k 148 A) ∨ (bd ≤ k ∧ ∃ A, Blk w k 101 A) ∨ (bo ≤ k ∧ ∃ A, Blk w k 83 A)) := fun m hn hs => by
    rcases hs with e | e | ⟨_, A', e⟩ | ⟨_, A', e⟩ | ⟨_, A', e⟩
    · exact at_noblk m cw.blk e
    · exact hn e
    · exact m.no_cells e
    · exact m.no_cells e
    · exact m.no_cells e
  exact ⟨(x.duo.onC hN c o).1, x.blk.only o (key x.blk (by decide) (by decide) (by decide) (by decide)), x.wr.only o (fun k hk => by obtain ⟨A, hA, _⟩ := x.wr.ty hk; exact key hA (by decide) (by decide) (by decide) (by decide)), owns_only x.jr o (fun k hk => by obtain ⟨A, hA, _⟩ := owns_type x.jr hk; exact key hA (by decide) (by decide) (by decide) (by decide)), (x.am.only o (mk x.am x.ne.1)).mono hN, (x.dm.only o (mk x.dm x.ne.2.1)).mono hN, x.ne, x.lo⟩
/-- Who is called turns. -/
theorem OW.onD (x : OW w0 w g b h cx hx bd bo B Bp Mp d vd vo vw vj ha hd N fn) {Bp' Mp' : Int → Nat} {s' : List Pe} (hN : N ≤ N') (c : CdW w' w0.heap.size cx hx Bp' Mp' s' N') (o : OnD w0.heap.size (MO hx Mp d.d) w w') (hm : ∀ k, MO hx Mp' s' k → MO hx Mp d.d k ∨ w.heap.size ≤ k) :
    OW w0 w' g b h cx hx bd bo B Bp' Mp' { d with d := s' } vd vo vw vj ha hd N' fn := by
  have cd := x.duo.cd
  have key : ∀ {k : Nat} {T : TypeId} {A : Array Value}, Blk w k T A → T ≠ 125 → ¬ (MO hx Mp d.d k ∨ (w0.heap.size ≤ k ∧ ∃ A, Blk w k 125 A)) := fun hk ht hs => by
    rcases hs with e | ⟨_, A', e⟩
    · exact mo_noblk cd e hk
    · exact ht (blk_ne hk e)
  have mk : ∀ {α : Type} {l : Ml.Lay α} {L : List α} {k : Nat}, Ml.At l Try.prog 22 w k L N → ¬ MO hx Mp d.d k → ¬ (MO hx Mp d.d k ∨ (w0.heap.size ≤ k ∧ ∃ A, Blk w k 125 A)) := fun m hn hs => by
    rcases hs with e | ⟨_, A', e⟩
    · exact hn e
    · exact m.no_cells e
  have hl1 := x.am.lt
  have hl2 := x.dm.lt
  exact ⟨(x.duo.onD hN c o hm).1, x.blk.only o (key x.blk (by decide)), x.wr.only o (fun k hk => by obtain ⟨A, hA, _⟩ := x.wr.ty hk; exact key hA (by decide)), owns_only x.jr o (fun k hk => by obtain ⟨A, hA, _⟩ := owns_type x.jr hk; exact key hA (by decide)), (x.am.only o (mk x.am x.ne.2.2.1)).mono hN, (x.dm.only o (mk x.dm x.ne.2.2.2.1)).mono hN,
    ⟨x.ne.1, x.ne.2.1, fun e => (hm _ e).elim x.ne.2.2.1 (fun e => by omega), fun e => (hm _ e).elim x.ne.2.2.2.1 (fun e => by omega), x.ne.2.2.2.2⟩, x.lo⟩
/-- The law's own memory turns: the caller and who is called stay. -/
theorem OW.mine (x : OW w0 w g b h cx hx bd bo B Bp Mp d vd vo vw vj ha hd N fn) {S : Nat → Prop} (o : Only S w w') (hS : ∀ k, S k → OwnS w0 w g ha hd k) : Duo w0 w' b h cx hx bd bo B Bp Mp d.c d.d vd vo N := by
  have cw := x.duo.cw
  have cd := x.duo.cd
  have key : ∀ {k : Nat} {T : TypeId} {A : Array Value}, Blk w k T A → T ≠ 61 → T ≠ 66 → T ≠ 145 → ¬ S k := fun hk h1 h2 h3 hs => by
    rcases hS _ hs with e | e | e | ⟨_, A', e⟩ | ⟨_, A', e⟩
    · subst e; exact h1 (blk_ne hk x.blk)
    · exact at_noblk x.am hk e.symm
    · exact at_noblk x.dm hk e.symm
    · exact h2 (blk_ne hk e)
    · exact h3 (blk_ne hk e)
  have hk2 : ∀ {k : Nat}, (∀ T A, ¬ Blk w k T A) → k ≠ ha → k ≠ hd → ¬ S k := fun hk h1 h2 hs => by
    rcases hS _ hs with e | e | e | ⟨_, A', e⟩ | ⟨_, A', e⟩
    · subst e; exact hk _ _ x.blk
    · exact h1 e
    · exact h2 e
    · exact hk _ _ e
    · exact hk _ _ e
  have hge : ∀ k, S k → w0.heap.size ≤ k := fun k hs => by
    rcases hS _ hs with e | e | e | ⟨e, _⟩ | ⟨e, _⟩
    · have := x.lo; omega
    · have := x.lo; omega
    · have := x.lo; omega
    · exact e
    · exact e
  refine ⟨cw.only o (key cw.blk (by decide) (by decide) (by decide)) (hk2 (fun T A hk => cw.mp.no_cells hk) (fun e => x.ne.1 e.symm) (fun e => x.ne.2.1 e.symm)) (fun y hy => key (cw.cl y hy).1 (by decide) (by decide) (by decide)) (fun k hk => by obtain ⟨A, hA, _⟩ := cw.du_ty hk; exact key hA (by decide) (by decide) (by decide)) (fun k hk => by obtain ⟨A, hA, _⟩ := cw.ov_ty hk; exact key hA (by decide) (by decide) (by decide)),
    cd.only o (key cd.blk (by decide) (by decide) (by decide)) (fun k hk => hk2 (fun T A hb => mo_noblk cd hk hb) (fun e => x.ne.2.2.1 (e ▸ hk)) (fun e => x.ne.2.2.2.1 (e ▸ hk))) (fun k A hk => key hk (by decide) (by decide) (by decide)), x.duo.bel.trans (Only.below o x.duo.bel.size hge), x.duo.ap⟩
/-- A field of the world's own. -/
theorem OW.set (x : OW w0 w g b h cx hx bd bo B Bp Mp d vd vo vw vj ha hd N fn) {f : Nat} {v : Value} {d' : Wd} {fn' : Bool} {vw' vj' : Value} (hc : (wcells b cx d vw vj ha hd fn).setIfInBounds f v = wcells b cx d' vw' vj' ha hd fn') (hd1 : d'.c = d.c ∧ d'.d = d.d ∧ d'.ask = d.ask ∧ d'.dn = d.dn)
    (hw : RowV w w0.heap.size 66 2 vw' d'.ways.length (d'.ways.flatMap wrow)) (hj : w.ownsRow w0.heap.size 145 3 vj' d'.jobs.length (d'.jobs.flatMap jrow)) : OW w0 (w.setCell ⟨g, f, none⟩ v) g b h cx hx bd bo B Bp Mp d' vd vo vw' vj' ha hd N fn' := by
  have o : Only (· = g) w (w.setCell ⟨g, f, none⟩ v) := (Only.refl (· = g) w).set1
  obtain ⟨e1, e2, e3, e4⟩ := hd1
  have hm := x.mine o (fun k e => .inl e)
  refine ⟨by rw [e1, e2]; exact hm, by rw [← hc]; exact x.blk.set f v, hw.only o (fun k hk e => ?_), owns_only hj o (fun k hk e => ?_), by rw [e3]; exact x.am.only o (fun e => at_noblk x.am x.blk e), by rw [e4]; exact x.dm.only o (fun e => at_noblk x.dm x.blk e), by rw [e2]; exact x.ne, x.lo⟩
  · obtain ⟨A, hA, _⟩ := hw.ty hk
    have e' : k = g := e
    subst e'
    exact absurd (blk_ne hA x.blk) (by decide)
  · obtain ⟨A, hA, _⟩ := owns_type hj hk
    have e' : k = g := e
    subst e'
    exact absurd (blk_ne hA x.blk) (by decide)
/-- A text more on its way: behind the append. -/
theorem OW.way (x : OW w0 w g b h cx hx bd bo B Bp Mp d vd vo vw vj ha hd N fn) {y : Bool × ByteArray} {v' : Value} (hv : RowV w' w0.heap.size 66 2 v' (d.ways.length + 1) (d.ways.flatMap wrow ++ wrow y)) (o : Only (fun k => vw.ownBlock = some k) w w') :
    Blk w' g 61 (wcells b cx d vw vj ha hd fn) ∧ OW w0 (w'.setCell ⟨g, 4, none⟩ v') g b h cx hx bd bo B Bp Mp { d with ways := d.ways ++ [y] } vd vo v' vj ha hd N fn := by
  have hS : ∀ k, vw.ownBlock = some k → ∃ A, Blk w k 66 A ∧ w0.heap.size ≤ k := fun k hk => x.wr.ty hk
  have hg : ∀ {k : Nat} {T : TypeId} {A : Array Value}, Blk w k T A → T ≠ 66 → ¬ vw.ownBlock = some k := fun hk ht e => by
    obtain ⟨A', hA, _⟩ := hS _ e
    exact ht (blk_ne hk hA)
  have hma : ¬ vw.ownBlock = some ha := fun e => by obtain ⟨A', hA, _⟩ := hS _ e; exact x.am.no_cells hA
  have hmd : ¬ vw.ownBlock = some hd := fun e => by obtain ⟨A', hA, _⟩ := hS _ e; exact x.dm.no_cells hA
  have hb := x.blk.only o (hg x.blk (by decide))
  have hj : w'.ownsRow w0.heap.size 145 3 vj d.jobs.length (d.jobs.flatMap jrow) := owns_only x.jr o (fun k hk => by obtain ⟨A, hA, _⟩ := owns_type x.jr hk; exact hg hA (by decide))
  have hm := x.mine o (fun k e => by obtain ⟨A, hA, hl⟩ := hS k e; exact .inr (.inr (.inr (.inl ⟨hl, A, hA⟩))))
  have ha' := x.am.only o hma
  have hd' := x.dm.only o hmd
  have o7 : Only (· = g) w' (w'.setCell ⟨g, 4, none⟩ v') := (Only.refl (· = g) w').set1
  refine ⟨hb, ?_⟩
  -- the mid state, with the old row's value but none of its cells, is not an OW: join by hand
  have cw := hm.cw
  have cd := hm.cd
  have keyg : ∀ {k : Nat} {T : TypeId} {A : Array Value}, Blk w' k T A → T ≠ 61 → ¬ k = g := fun hk ht e => by subst e; exact ht (blk_ne hk hb)
  have hm2 : Duo w0 (w'.setCell ⟨g, 4, none⟩ v') b h cx hx bd bo B Bp Mp d.c d.d vd vo N := by
    refine ⟨cw.only o7 (keyg cw.blk (by decide)) (fun e => cw.mp.no_cells (e ▸ hb : Blk w' h 61 _)) (fun y hy => keyg (cw.cl y hy).1 (by decide)) (fun k hk => by obtain ⟨A, hA, _⟩ := cw.du_ty hk; exact keyg hA (by decide)) (fun k hk => by obtain ⟨A, hA, _⟩ := cw.ov_ty hk; exact keyg hA (by decide)),
      cd.only o7 (keyg cd.blk (by decide)) (fun k hk e => by have e' : k = g := e; subst e'; exact mo_noblk cd hk hb) (fun k A hk => keyg hk (by decide)), hm.bel.trans (Only.below o7 hm.bel.size fun k e => by have e' : k = g := e; have := x.lo; omega), hm.ap⟩
  refine ⟨hm2, ?_, ?_, owns_only hj o7 (fun k hk => by obtain ⟨A, hA, _⟩ := owns_type hj hk; exact keyg hA (by decide)), ha'.only o7 (fun e => at_noblk ha' hb e), hd'.only o7 (fun e => at_noblk hd' hb e), x.ne, x.lo⟩
  · exact hb.set 4 v'
  · have h7 := hv.only o7 (fun k hk => by obtain ⟨A, hA, _⟩ := hv.ty hk; exact keyg hA (by decide))
    rw [show (d.ways ++ [y]).length = d.ways.length + 1 by simp, List.flatMap_append]
    simpa using h7
end
/-- Some world, whatever lies where. -/
def OP (w0 w : World) (g : Nat) (d : Wd) (fn : Bool) (N : Nat) : Prop := ∃ b h cx hx bd bo B Bp Mp vd vo vw vj ha hd, OW w0 w g b h cx hx bd bo B Bp Mp d vd vo vw vj ha hd N fn
end Go.Proofs.Ytgdgonmhgpflcaa
