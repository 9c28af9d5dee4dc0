import Derived.Test.YtgdgonmhgpflcaaOncM
import Derived.Test.YtgdgonmhgpflcaaMgl

/- RpcOnce's script, opened out of its reading. No condition. -/
namespace Go.Proofs.Ytgdgonmhgpflcaa
open Go.RowKit Go.Maps Wire Rp
set_option linter.unusedVariables false
set_option linter.unusedSimpArgs false
instance : Inhabited AcR := ⟨⟨0, 0, 0, ⟨#[]⟩, false⟩⟩
def AcAt (W : World) (g o : Nat) (a : AcR) : Prop :=
  W.cell? ⟨g, o, none⟩ = some (.int .i64 a.what) ∧ W.cell? ⟨g, o + 1, none⟩ = some (.int .u16 a.n) ∧ W.cell? ⟨g, o + 2, none⟩ = some (.int .u16 a.by') ∧ W.cell? ⟨g, o + 3, none⟩ = some (.string a.s) ∧ W.cell? ⟨g, o + 4, none⟩ = some (.bool a.keep)
def ActsR (W : World) (v : Value) (n : Nat) (sx : Nat → AcR) : Prop :=
  ∃ p cap, v = .slice p n cap ∧ (0 < n → ∃ g off, p = some ⟨g, off, none⟩ ∧ g < W.heap.size ∧ ∀ i, i < n → AcAt W g (off + i * 5) (sx i) ∧ AcOk (sx i))
theorem AcAt.below {W W' : World} {g o : Nat} {a : AcR} (h : AcAt W g o a) (hb : Below W.heap.size W W') (hg : g < W.heap.size) : AcAt W' g o a := by
  unfold AcAt at *
  rw [hb.cell (p := ⟨g, o, none⟩) hg, hb.cell (p := ⟨g, o + 1, none⟩) hg, hb.cell (p := ⟨g, o + 2, none⟩) hg, hb.cell (p := ⟨g, o + 3, none⟩) hg, hb.cell (p := ⟨g, o + 4, none⟩) hg]
  exact h
section
open Go.ChangeShapes Go.WideShapes Go.Deep
variable {H : Type} {enc : TypeId × Value → H} {W : World} {base : Nat} {held : Bool}
theorem u16_of {x : Int} (h : (Lit.int .u16 x).wf = true) : 0 ≤ x ∧ x ≤ 65535 := Go.bounds_u16 h
set_option maxRecDepth 100000 in
theorem open_acts {r : Reach} {b0 : Nat} {v : Value} {d : DataW H} {ps : List MemPlace} (hval : Value.okWide Try.prog W r b0 50 v) (hd : DataW.Trod enc Try.prog W base (fun _ => true) held 50 v d ps) :
    ∃ n sx, ActsR W v n sx := by
  obtain ⟨p, n, cap, rfl, h⟩ := open_rows (e := 53) (m := 5) Try.underlying50 (by kernel_rfl) (by decide) hval hd
  by_cases hn : 0 < n
  · obtain ⟨g, off, rfl, hg, hx⟩ := h hn
    have key : ∀ i, i < n → ∃ s : AcR, AcAt W g (off + i * 5) s ∧ AcOk s := by
      intro i hi
      obtain ⟨cs, fuel, x, hlen, hcell, hy⟩ := hx i hi
      have f := fun (k : Nat) (fd : Field) (hf : _) (ho : fd.offset = k) (hc : Try.prog.cellsOf fd.type = 1) (hlt : k < cs.length) => open_field (P := Try.prog) (t := 53) Try.underlying53 hy k fd hf k ho hc hlt
      obtain ⟨m0, y0, e0⟩ := f 0 _ rfl rfl (by kernel_rfl) (by omega)
      obtain ⟨m1, y1, e1⟩ := f 1 _ rfl rfl (by kernel_rfl) (by omega)
      obtain ⟨m2, y2, e2⟩ := f 2 _ rfl rfl (by kernel_rfl) (by omega)
      obtain ⟨m3, y3, e3⟩ := f 3 _ rfl rfl (by kernel_rfl) (by omega)
      obtain ⟨m4, y4, e4⟩ := f 4 _ rfl rfl (by kernel_rfl) (by omega)
      obtain ⟨n0, z0, _, w0⟩ := DataW.trod_int (k := .i64) (by kernel_rfl) e0
      obtain ⟨n1, z1, _, w1⟩ := DataW.trod_int (k := .u16) (by kernel_rfl) e1
      obtain ⟨n2, z2, _, w2⟩ := DataW.trod_int (k := .u16) (by kernel_rfl) e2
      obtain ⟨n3, z3, _, w3⟩ := DataW.trod_string (by kernel_rfl) e3
      obtain ⟨n4, z4, _⟩ := DataW.trod_bool (by kernel_rfl) e4
      have q := fun (j : Nat) (hj : j < 5) (u : Value) (hu : [cs.getD j undef] = [u]) => show W.cell? ⟨g, off + i * 5 + j, none⟩ = some u by
        rw [hcell j hj, List.getElem?_eq_getElem (by omega)]
        simp only [List.getD, List.getElem?_eq_getElem (show j < cs.length by omega), Option.getD_some, List.cons.injEq, and_true] at hu
        rw [hu]
      exact ⟨⟨n0, n1, n2, n3, n4⟩, ⟨q 0 (by omega) _ z0, q 1 (by omega) _ z1, q 2 (by omega) _ z2, q 3 (by omega) _ z3, q 4 (by omega) _ z4⟩, i64_of w0, u16_of w1, u16_of w2, w3⟩
    obtain ⟨sx, hsx⟩ := choose_fn key
    exact ⟨n, sx, _, cap, rfl, fun _ => ⟨g, off, rfl, hg, hsx⟩⟩
  · exact ⟨n, fun _ => default, p, cap, rfl, fun h => absurd h hn⟩
end
end Go.Proofs.Ytgdgonmhgpflcaa
