/- The law's own loop over two lists; a law's script. No condition. -/
import Derived.Test.YtppkfpphefonoaaLeaseT
import Derived.Test.YtppkfpphefonoaaOpen
import Derived.Test.YtppkfpphefonoaaRely
namespace Go.Proofs.Ytppkfpphefonoaa
open Go.RowKit Lea
set_option linter.unusedVariables false
/-- Nothing that was there has changed. -/
abbrev Quiet (w w' : World) : Prop := Only (fun _ => False) w w'
theorem Only.cell {S : Nat → Prop} {w w' : World} {g o : Nat} {v : Value} (ho : Only S w w') (hc : w.cell? ⟨g, o, none⟩ = some v) (hne : ¬ S g) : w'.cell? ⟨g, o, none⟩ = some v := by
  have hlt : g < w.heap.size := by
    rcases Nat.lt_or_ge g w.heap.size with h | h
    · exact h
    · simp [World.cell?, Array.getElem?_eq_none h] at hc
  rw [← hc]; simp only [World.cell?]; rw [ho.block g hlt hne]
/-- A row of values, one cell each or more, as a slice's value shows it. -/
def RowAt (w : World) (v : Value) (n : Nat) (xs : List Value) (size : Nat) : Prop :=
  ∃ p cap, v = .slice p n cap ∧ (0 < n → ∃ g, p = some ⟨g, 0, none⟩ ∧ ∀ k : Nat, k < n * size → w.cell? ⟨g, k, none⟩ = xs[k]?)
theorem RowAt.of {w : World} {base : Nat} {e : TypeId} {size : Nat} {v : Value} {n : Nat} {xs : List Value} (h : w.ownsRow base e size v n xs) : RowAt w v n xs size := by
  obtain ⟨p, cap, rfl, h1⟩ := row_shape h
  exact ⟨p, cap, rfl, fun hn => by obtain ⟨g, e, _, hc⟩ := h1 hn; exact ⟨g, e, hc⟩⟩
theorem ints_at {xs : List Nat} {k : Nat} (h : k < xs.length) : (intsOf xs)[k]? = some (.int .i64 (xs[k] : Nat)) := by simp [intsOf, h]
set_option maxRecDepth 100000 in
set_option maxHeartbeats 1000000 in
theorem same_any {w : World} {v1 v2 : Value} {xs : List Nat} (hxs : xs.length ≤ 1000) (h1 : RowAt w v1 xs.length (intsOf xs) 1) (h2 : RowAt w v2 xs.length (intsOf xs) 1) :
    Calls Try.prog 19 #[v1, v2] w fun e w' => e = .returned (.bool true) ∧ Quiet w w' := by
  obtain ⟨p1, c1, rfl, k1⟩ := h1
  obtain ⟨p2, c2, rfl, k2⟩ := h2
  have hrfl : Quiet w w := Only.refl _ _
  go_enter Try.func19, Try.ntmps19
  go_wp2
  go_loopw [5] (fun u wr => ∃ i : Nat, i ≤ xs.length ∧ u = .int .i64 i ∧ Quiet w wr) (fun u _ => ((xs.length : Int) - intOf u).toNat)
  case atStart => exact ⟨0, by omega, rfl, hrfl⟩
  case round =>
    obtain ⟨k, hk1, rfl, ho⟩ := hrel
    by_cases hk : k < xs.length
    · obtain ⟨g1, rfl, hc1⟩ := k1 (by omega)
      obtain ⟨g2, rfl, hc2⟩ := k2 (by omega)
      have d1 : wr.cell? ⟨g1, k, none⟩ = some (.int .i64 (xs[k] : Nat)) := ho.cell (by rw [hc1 k (by omega), ints_at hk]) (fun h => h)
      have d2 : wr.cell? ⟨g2, k, none⟩ = some (.int .i64 (xs[k] : Nat)) := ho.cell (by rw [hc2 k (by omega), ints_at hk]) (fun h => h)
      have HO := Lib.hid ho
      clear ho hc1 hc2 k1 k2
      generalize xs[k] = x at d1 d2
      have hk2 : k ≤ 1000 := by omega
      go_wp2
      refine Reg.wp_text (by kernel_rfl) (by kernel_rfl) ?_
      go_wp2
      refine Reg.fin (by kernel_rfl) ?_
      go_wp2
      go_roundw
      case rel => exact ⟨k + 1, by omega, rfl, HO.out.drew⟩
      case measure => simp [intOf]; omega
    · have : k = xs.length := by omega
      subst this
      have HO := Lib.hid ho
      clear ho
      go_wp2
      go_ret
      exact ⟨rfl, HO.out⟩
/-! ### A law's script -/
namespace Lea
structure StepV where
  d : Int
  w : Int
  v : Int
  inc : Int
  now : Int
instance : Inhabited StepV := ⟨⟨0, 0, 0, 0, 0⟩⟩
end Lea
/-- The value is a slice of steps. -/
def Script (W : World) (v : Value) (n : Nat) (sx : Nat → StepV) : Prop :=
  ∃ p cap, v = .slice p n cap ∧ (0 < n → ∃ g off, p = some ⟨g, off, none⟩ ∧ g < W.heap.size ∧ ∀ i, i < n →
    W.cell? ⟨g, off + i * 5, none⟩ = some (.int .i64 (sx i).d) ∧ W.cell? ⟨g, off + i * 5 + 1, none⟩ = some (.int .i64 (sx i).w) ∧ W.cell? ⟨g, off + i * 5 + 2, none⟩ = some (.int .i64 (sx i).v) ∧
    W.cell? ⟨g, off + i * 5 + 3, none⟩ = some (.int .u64 (sx i).inc) ∧ W.cell? ⟨g, off + i * 5 + 4, none⟩ = some (.int .i64 (sx i).now))
section
open Go.ChangeShapes Go.WideShapes Go.Deep
set_option maxRecDepth 100000 in
theorem open_script {H : Type} {enc : TypeId × Value → H} {W : World} {base : Nat} {held : Bool} {r : Reach} {b0 : Nat} {v : Value} {d : DataW H} {ps : List MemPlace} (hval : Value.okWide Try.prog W r b0 22 v) (hd : DataW.Trod enc Try.prog W base (fun _ => true) held 22 v d ps) :
    ∃ n sx, Script W v n sx := by
  obtain ⟨p, n, cap, rfl, h⟩ := open_rows (e := 37) (m := 5) Try.underlying22 (by kernel_rfl) (by decide) hval hd
  by_cases hn : 0 < n
  · obtain ⟨g, off, rfl, hg, hx⟩ := h hn
    have key : ∀ i, i < n → ∃ s : StepV, W.cell? ⟨g, off + i * 5, none⟩ = some (.int .i64 s.d) ∧ W.cell? ⟨g, off + i * 5 + 1, none⟩ = some (.int .i64 s.w) ∧ W.cell? ⟨g, off + i * 5 + 2, none⟩ = some (.int .i64 s.v) ∧
        W.cell? ⟨g, off + i * 5 + 3, none⟩ = some (.int .u64 s.inc) ∧ W.cell? ⟨g, off + i * 5 + 4, none⟩ = some (.int .i64 s.now) := by
      intro i hi
      obtain ⟨cs, fuel, x, hlen, hcell, hy⟩ := hx i hi
      have f := fun (k : Nat) (fd : Field) (hf : _) (ho : fd.offset = k) (hc : Try.prog.cellsOf fd.type = 1) (hlt : k < cs.length) => open_field (P := Try.prog) (t := 37) Try.underlying37 hy k fd hf k ho hc hlt
      obtain ⟨m0, y0, e0⟩ := f 0 _ rfl rfl (by kernel_rfl) (by omega)
      obtain ⟨m1, y1, e1⟩ := f 1 _ rfl rfl (by kernel_rfl) (by omega)
      obtain ⟨m2, y2, e2⟩ := f 2 _ rfl rfl (by kernel_rfl) (by omega)
      obtain ⟨m3, y3, e3⟩ := f 3 _ rfl rfl (by kernel_rfl) (by omega)
      obtain ⟨m4, y4, e4⟩ := f 4 _ rfl rfl (by kernel_rfl) (by omega)
      obtain ⟨n0, z0, _, _⟩ := DataW.trod_int (k := .i64) (by kernel_rfl) e0
      obtain ⟨n1, z1, _, _⟩ := DataW.trod_int (k := .i64) (by kernel_rfl) e1
      obtain ⟨n2, z2, _, _⟩ := DataW.trod_int (k := .i64) (by kernel_rfl) e2
      obtain ⟨n3, z3, _, _⟩ := DataW.trod_int (k := .u64) (by kernel_rfl) e3
      obtain ⟨n4, z4, _, _⟩ := DataW.trod_int (k := .i64) (by kernel_rfl) e4
      have g := fun (j : Nat) (hj : j < 5) (u : Value) (hu : [cs.getD j undef] = [u]) => show W.cell? ⟨g, off + i * 5 + j, none⟩ = some u by
        rw [hcell j hj, List.getElem?_eq_getElem (by omega)]
        simp only [List.getD, List.getElem?_eq_getElem (show j < cs.length by omega), Option.getD_some, List.cons.injEq, and_true] at hu
        rw [hu]
      exact ⟨⟨n0, n1, n2, n3, n4⟩, g 0 (by omega) _ z0, g 1 (by omega) _ z1, g 2 (by omega) _ z2, g 3 (by omega) _ z3, g 4 (by omega) _ z4⟩
    obtain ⟨sx, hsx⟩ := choose_fn key
    exact ⟨n, sx, _, cap, rfl, fun _ => ⟨g, off, rfl, hg, hsx⟩⟩
  · exact ⟨n, fun _ => default, p, cap, rfl, fun h => absurd h hn⟩
end
end Go.Proofs.Ytppkfpphefonoaa
