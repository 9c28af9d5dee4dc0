
/- A program that came in, opened out of its reading. No condition. -/
import Derived.Test.YtbpakckiglgjfaaCodeD
import Derived.Test.YtbpakckiglgjfaaOpen
namespace Go.Proofs.Ytbpakckiglgjfaa
open Go.RowKit Go.ChangeShapes Go.WideShapes Go.Deep Cd
set_option linter.unusedVariables false
section
variable {H : Type} {enc : TypeId × Value → H} {P : Program} {w : World} {base : Nat} {held : Bool}
/-- A slice, out of the reading of its one cell. -/
theorem open_cell_rows {t e : TypeId} {v : Value} {x : DataW H × List MemPlace} {m fuel : Nat} (ht : P.underlying t = some (.slice e)) (hc : P.cellsOf e = m) (hm : 0 < m) (hf : DataW.trod enc P w base (fun _ => true) held fuel t [v] = some x) :
    ∃ p n cap, v = .slice p n cap ∧ (0 < n → ∃ g off, p = some ⟨g, off, none⟩ ∧ g < w.heap.size ∧
      ∀ i, i < n → ∃ (cs : List Value) (fuel : Nat) (x : DataW H × List MemPlace), cs.length = m ∧ (∀ j, j < m → w.cell? ⟨g, off + i * m + j, none⟩ = cs[j]?) ∧ DataW.trod enc P w base (fun _ => true) held fuel e cs = some x) := by
  obtain ⟨d, ps⟩ := x
  rcases open_slice ht hf with ⟨h1, _⟩ | ⟨a, len, cap, mm, k, D, Pl, h1, hb, hl, hmx, hmm, _, hx⟩
  · refine ⟨none, 0, 0, by simpa using h1, fun h => by omega⟩
  · refine ⟨some a, len, cap, by simpa using h1, fun h => ?_⟩
    simp only [if_true] at hmm
    have key : ∀ i, i < len → ∃ cs', cs'.length = m ∧ (∀ j, j < m → w.cell? ((a.add (i * m)).add j) = cs'[j]?) ∧ DataW.trod enc P w base (fun _ => true) held k e cs' = some (D i, Pl i) := fun i hi => by
      obtain ⟨cs', hcs, hy⟩ := hx i (by omega)
      rw [hc] at hcs
      obtain ⟨_, hlen, hcell⟩ := World.cells?_some hcs
      exact ⟨cs', hlen, hcell, hy⟩
    obtain ⟨g, off, spot⟩ := a
    have hspot : spot = none := by
      obtain ⟨cs', hlen, hcell, _⟩ := key 0 h
      have h0 := hcell 0 hm
      rw [List.getElem?_eq_getElem (by omega)] at h0
      simpa [Addr.add] using World.cell?_spot h0
    subst hspot
    have hlt : g < w.heap.size := by
      obtain ⟨cs', hlen, hcell, _⟩ := key 0 h
      have h0 := hcell 0 hm
      rw [List.getElem?_eq_getElem (by omega)] at h0
      rcases Nat.lt_or_ge g w.heap.size with h | h
      · exact h
      · simp [Addr.add, World.cell?, Array.getElem?_eq_none h] at h0
    refine ⟨g, off, rfl, hlt, fun i hi => ?_⟩
    obtain ⟨cs', hlen, hcell, hy⟩ := key i hi
    refine ⟨cs', k, _, hlen, fun j hj => ?_, hy⟩
    rw [← hcell j hj, Deep.add_add, add_plain, Nat.add_assoc]
end
section
variable {H : Type} {enc : TypeId × Value → H} {W : World} {base : Nat} {held : Bool}
set_option maxRecDepth 100000 in
theorem open_ops {v : Value} {x : DataW H × List MemPlace} {fuel : Nat} (hf : DataW.trod enc Try.prog W base (fun _ => true) held fuel 39 [v] = some x) : ∃ l, OpsAt W v l ∧ ∀ o ∈ l, OkO o := by
  obtain ⟨p, n, cap, rfl, h⟩ := open_cell_rows (e := 43) (m := 5) Try.underlying39 (by kernel_rfl) (by decide) hf
  by_cases hn : 0 < n
  · obtain ⟨g, off, rfl, hg, hx⟩ := h hn
    have key : ∀ i, i < n → ∃ s : OpV, (∀ j, j < 5 → W.cell? ⟨g, off + i * 5 + j, none⟩ = (opA s)[j]?) ∧ OkO s := by
      intro i hi
      obtain ⟨cs, fuel, x, hlen, hcell, hy⟩ := hx i hi
      have f := fun (k : Nat) (fd : Field) (hf : _) (ho : fd.offset = k) (hc : Try.prog.cellsOf fd.type = 1) (hlt : k < cs.length) => open_field (P := Try.prog) (t := 43) Try.underlying43 hy k fd hf k ho hc hlt
      obtain ⟨m0, y0, e0⟩ := f 0 _ rfl rfl (by kernel_rfl) (by omega)
      obtain ⟨m1, y1, e1⟩ := f 1 _ rfl rfl (by kernel_rfl) (by omega)
      obtain ⟨m2, y2, e2⟩ := f 2 _ rfl rfl (by kernel_rfl) (by omega)
      obtain ⟨m3, y3, e3⟩ := f 3 _ rfl rfl (by kernel_rfl) (by omega)
      obtain ⟨m4, y4, e4⟩ := f 4 _ rfl rfl (by kernel_rfl) (by omega)
      obtain ⟨n0, z0, _, w0⟩ := DataW.trod_int (k := .u8) (by kernel_rfl) e0
      obtain ⟨n1, z1, _, w1⟩ := DataW.trod_int (k := .i64) (by kernel_rfl) e1
      obtain ⟨n2, z2, _, w2⟩ := DataW.trod_int (k := .i64) (by kernel_rfl) e2
      obtain ⟨n3, z3, _, w3⟩ := DataW.trod_int (k := .i64) (by kernel_rfl) e3
      obtain ⟨n4, z4, _, w4⟩ := DataW.trod_int (k := .i64) (by kernel_rfl) e4
      have g := fun (j : Nat) (hj : j < 5) (u : Value) (hu : [cs.getD j undef] = [u]) => show W.cell? ⟨g, off + i * 5 + j, none⟩ = some u by
        rw [hcell j hj, List.getElem?_eq_getElem (by omega)]
        simp [List.getD, show j < cs.length by omega] at hu
        rw [hu]
      refine ⟨⟨n0, n1, n2, n3, n4⟩, fun j hj => ?_, ?_⟩
      · have hj' : j = 0 ∨ j = 1 ∨ j = 2 ∨ j = 3 ∨ j = 4 := by omega
        rcases hj' with rfl | rfl | rfl | rfl | rfl
        · exact g 0 (by omega) _ z0
        · exact g 1 (by omega) _ z1
        · exact g 2 (by omega) _ z2
        · exact g 3 (by omega) _ z3
        · exact g 4 (by omega) _ z4
      · have b0 := bounds_u8 w0
        have b1 := bounds_i64 w1
        have b2 := bounds_i64 w2
        have b3 := bounds_i64 w3
        have b4 := bounds_i64 w4
        exact ⟨by unfold U8; simp only; omega, by unfold I64; simp only; omega, by unfold I64; simp only; omega, by unfold I64; simp only; omega, by unfold I64; simp only; omega⟩
    obtain ⟨ax, hax⟩ := choose_fn key
    have hl : ((List.range n).map ax).length = n := by simp
    refine ⟨(List.range n).map ax, ⟨some ⟨g, off, none⟩, cap, by rw [hl], fun _ => ⟨g, off, rfl, hg, fun i hi j hj => ?_⟩⟩, fun o ho => ?_⟩
    · rw [List.getElem_map, List.getElem_range]
      exact (hax i (by omega)).1 j hj
    · obtain ⟨i, hi, rfl⟩ := List.mem_map.1 ho
      exact (hax i (List.mem_range.1 hi)).2
  · have : n = 0 := by omega
    subst this
    exact ⟨[], ⟨p, cap, rfl, fun h => by simp at h⟩, fun o h => by simp at h⟩
set_option maxRecDepth 100000 in
theorem open_funs {v : Value} {x : DataW H × List MemPlace} {fuel : Nat} (hf : DataW.trod enc Try.prog W base (fun _ => true) held fuel 22 [v] = some x) : ∃ l, FunsAt W v l ∧ OkP l := by
  obtain ⟨p, n, cap, rfl, h⟩ := open_cell_rows (e := 41) (m := 3) Try.underlying22 (by kernel_rfl) (by decide) hf
  by_cases hn : 0 < n
  · obtain ⟨g, off, rfl, hg, hx⟩ := h hn
    have key : ∀ i, i < n → ∃ s : FunV, (W.cell? ⟨g, off + i * 3, none⟩ = some (.int .i64 s.args) ∧ W.cell? ⟨g, off + i * 3 + 1, none⟩ = some (.int .i64 s.regs) ∧ ∃ vo, W.cell? ⟨g, off + i * 3 + 2, none⟩ = some vo ∧ OpsAt W vo s.ops) ∧ OkF s := by
      intro i hi
      obtain ⟨cs, fuel, x, hlen, hcell, hy⟩ := hx i hi
      have f := fun (k : Nat) (fd : Field) (hf : _) (ho : fd.offset = k) (hc : Try.prog.cellsOf fd.type = 1) (hlt : k < cs.length) => open_field (P := Try.prog) (t := 41) Try.underlying41 hy k fd hf k ho hc hlt
      obtain ⟨m0, y0, e0⟩ := f 0 _ rfl rfl (by kernel_rfl) (by omega)
      obtain ⟨m1, y1, e1⟩ := f 1 _ rfl rfl (by kernel_rfl) (by omega)
      obtain ⟨m2, y2, e2⟩ := f 2 _ rfl rfl (by kernel_rfl) (by omega)
      obtain ⟨n0, z0, _, w0⟩ := DataW.trod_int (k := .i64) (by kernel_rfl) e0
      obtain ⟨n1, z1, _, w1⟩ := DataW.trod_int (k := .i64) (by kernel_rfl) e1
      obtain ⟨lo, hlo, hok⟩ := open_ops e2
      have g := fun (j : Nat) (hj : j < 3) (u : Value) (hu : [cs.getD j undef] = [u]) => show W.cell? ⟨g, off + i * 3 + j, none⟩ = some u by
        rw [hcell j hj, List.getElem?_eq_getElem (by omega)]
        simp [List.getD, show j < cs.length by omega] at hu
        rw [hu]
      have b0 := bounds_i64 w0
      have b1 := bounds_i64 w1
      exact ⟨⟨n0, n1, lo⟩, ⟨g 0 (by omega) _ z0, g 1 (by omega) _ z1, _, g 2 (by omega) _ rfl, hlo⟩, by unfold I64; simp only; omega, by unfold I64; simp only; omega, hok⟩
    obtain ⟨ax, hax⟩ := choose_fn key
    have hl : ((List.range n).map ax).length = n := by simp
    refine ⟨(List.range n).map ax, ⟨some ⟨g, off, none⟩, cap, by rw [hl], fun _ => ⟨g, off, rfl, hg, fun i hi => ?_⟩⟩, fun o ho => ?_⟩
    · rw [List.getElem_map, List.getElem_range]
      exact (hax i (by omega)).1
    · obtain ⟨i, hi, rfl⟩ := List.mem_map.1 ho
      exact (hax i (List.mem_range.1 hi)).2
  · have : n = 0 := by omega
    subst this
    exact ⟨[], ⟨p, cap, rfl, fun h => by simp at h⟩, fun o h => by simp at h⟩
set_option maxRecDepth 100000 in
theorem open_prog {r : Reach} {b0 : Nat} {v : Value} {d : DataW H} {ps : List MemPlace} (hval : Value.okWide Try.prog W r b0 24 v) (hd : DataW.Trod enc Try.prog W base (fun _ => true) held 24 v d ps) :
    ∃ u l, v = .agg #[u] ∧ FunsAt W u l ∧ OkP l := by
  obtain ⟨cs, rfl, hsz⟩ := okWide_struct Try.underlying24 hval
  obtain ⟨fuel, hf⟩ := hd
  have hs : cs.size = 1 := by rw [hsz]; kernel_rfl
  have hl : cs.toList.length = 1 := by simpa using hs
  obtain ⟨m0, y0, e0⟩ := open_field (P := Try.prog) (t := 24) Try.underlying24 hf 0 _ rfl 0 rfl (by kernel_rfl) (by show 0 < cs.toList.length; omega)
  obtain ⟨l, h1, h2⟩ := open_funs e0
  refine ⟨_, l, ?_, h1, h2⟩
  congr 1
  apply Array.ext'
  show cs.toList = [cs.toList.getD 0 undef]
  match cs.toList, hl with
  | [x], _ => rfl
end
end Go.Proofs.Ytbpakckiglgjfaa
