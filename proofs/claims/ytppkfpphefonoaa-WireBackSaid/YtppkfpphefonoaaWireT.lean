/- A law's calls, opened; both readers side by side. No condition. -/
import Derived.Test.YtppkfpphefonoaaWireS
import Derived.Test.YtppkfpphefonoaaWireM
import Derived.Test.YtppkfpphefonoaaWireO
namespace Go.Proofs.Ytppkfpphefonoaa
open Go.RowKit Wire
set_option linter.unusedVariables false
namespace Wire
structure AskV where
  d : Int
  most : Int
  lo : Int
  hi : Int
  n : Int
  ofv : Value
  m : Nat
  xs : Nat → Int
instance : Inhabited AskV := ⟨⟨0, 0, 0, 0, 0, .slice none 0 0, 0, fun _ => 0⟩⟩
def askA (a : AskV) : Array Value := #[.int .u8 a.d, .int .u64 a.most, .int .i64 a.lo, .int .i64 a.hi, .int .i64 a.n, a.ofv]
end Wire
/-- A call's own condition. -/
structure AskOk (W : World) (a : AskV) : Prop where
  of : Slic W a.ofv a.m fun j => .int .u64 (a.xs j)
  n : I64 a.n
  d0 : 0 ≤ a.d
  d1 : a.d < 256
def Asks (W : World) (v : Value) (n : Nat) (ax : Nat → AskV) : Prop :=
  ∃ p cap, v = .slice p n cap ∧ (0 < n → ∃ g off, p = some ⟨g, off, none⟩ ∧ g < W.heap.size ∧ ∀ i, i < n →
    (∀ j, j < 6 → W.cell? ⟨g, off + i * 6 + j, none⟩ = (askA (ax i))[j]?) ∧ AskOk W (ax i))
section
open Go.ChangeShapes Go.WideShapes Go.Deep
set_option maxRecDepth 100000 in
theorem open_asks {H : Type} {enc : TypeId × Value → H} {W : World} {r : Reach} {b0 : Nat} {v : Value} {d : DataW H} {ps : List MemPlace} (hval : Value.okWide Try.prog W r b0 79 v) (hd : DataW.Trod enc Try.prog W 0 (fun _ => true) true 79 v d ps) :
    ∃ n ax, Asks W v n ax := by
  obtain ⟨p, n, cap, rfl, h⟩ := open_rows (e := 84) (m := 6) Try.underlying79 (by kernel_rfl) (by decide) hval hd
  by_cases hn : 0 < n
  · obtain ⟨g, off, rfl, hg, hx⟩ := h hn
    have key : ∀ i, i < n → ∃ a : AskV, (∀ j, j < 6 → W.cell? ⟨g, off + i * 6 + j, none⟩ = (askA a)[j]?) ∧ AskOk W a := by
      intro i hi
      obtain ⟨cs, fuel, x, hlen, hcell, hy⟩ := hx i hi
      have f := fun (k : Nat) (fd : Field) (hf : _) (ho : fd.offset = k) (hc : Try.prog.cellsOf fd.type = 1) (hlt : k < cs.length) => open_field (P := Try.prog) (t := 84) Try.underlying84 hy k fd hf k ho hc hlt
      obtain ⟨m0, y0, e0⟩ := f 0 _ rfl rfl (by kernel_rfl) (by omega)
      obtain ⟨m1, y1, e1⟩ := f 1 _ rfl rfl (by kernel_rfl) (by omega)
      obtain ⟨m2, y2, e2⟩ := f 2 _ rfl rfl (by kernel_rfl) (by omega)
      obtain ⟨m3, y3, e3⟩ := f 3 _ rfl rfl (by kernel_rfl) (by omega)
      obtain ⟨m4, y4, e4⟩ := f 4 _ rfl rfl (by kernel_rfl) (by omega)
      obtain ⟨m5, y5, e5⟩ := f 5 _ rfl rfl (by kernel_rfl) (by omega)
      obtain ⟨n0, z0, _, w0⟩ := DataW.trod_int (k := .u8) (by kernel_rfl) e0
      obtain ⟨n1, z1, _, _⟩ := DataW.trod_int (k := .u64) (by kernel_rfl) e1
      obtain ⟨n2, z2, _, _⟩ := DataW.trod_int (k := .i64) (by kernel_rfl) e2
      obtain ⟨n3, z3, _, _⟩ := DataW.trod_int (k := .i64) (by kernel_rfl) e3
      obtain ⟨n4, z4, _, w4⟩ := DataW.trod_int (k := .i64) (by kernel_rfl) e4
      obtain ⟨m, xs, hs, _⟩ := open_ints_cell (k := .u64) (e := 29) (t := 57) Try.underlying57 Try.underlying29 (by kernel_rfl) e5
      have hb := bounds_u8 w0
      refine ⟨⟨n0, n1, n2, n3, n4, cs.getD 5 undef, m, xs⟩, fun j hj => ?_, hs, wf_I64 w4, hb.1, by show n0 < 256; have := hb.2; omega⟩
      have gg : cs = [.int .u8 n0, .int .u64 n1, .int .i64 n2, .int .i64 n3, .int .i64 n4, cs.getD 5 undef] := by
        match cs, hlen with
        | [u0, u1, u2, u3, u4, u5], _ =>
          simp at z0 z1 z2 z3 z4
          subst z0 z1 z2 z3 z4
          rfl
      rw [hcell j hj]
      generalize hu : cs.getD 5 undef = u at *
      rw [gg]
      simp [askA]
    obtain ⟨ax, hax⟩ := choose_fn key
    exact ⟨n, ax, _, cap, rfl, fun _ => ⟨g, off, rfl, hg, hax⟩⟩
  · exact ⟨n, fun _ => default, p, cap, rfl, fun h => absurd h hn⟩
end
/-- Both readers hold the same. -/
structure Both2 (W wr : World) (b c : Nat) (s : ByteArray) (e : Int) : Prop where
  p : PR wr b s e
  r : RR wr c s e
  bel : Below W.heap.size W wr
  ne : b ≠ c
  hb : W.heap.size ≤ b
  hc : W.heap.size ≤ c
theorem Both2.grow {W wr w1 : World} {b c : Nat} {s : ByteArray} {e : Int} (h : Both2 W wr b c s e) (k : Below wr.heap.size wr w1) : Both2 W w1 b c s e :=
  ⟨h.p.below k, h.r.below k, h.bel.trans (k.mono h.bel.size), h.ne, h.hb, h.hc⟩
theorem Both2.alloc {W wr : World} {b c : Nat} {s : ByteArray} {e : Int} (h : Both2 W wr b c s e) (o : Obj) : Both2 W (wr.alloc o) b c s e := h.grow ((Below.refl _ _).alloc (Nat.le_refl _) o)
theorem Both2.drewN {W wr : World} {b c : Nat} {s : ByteArray} {e : Int} (h : Both2 W wr b c s e) (n : Nat) : Both2 W (wr.drewN n) b c s e := h.grow (bdrewN (Below.refl _ _) n)
structure Half2 (W wr : World) (b c : Nat) (s : ByteArray) (e : Int) (s' : ByteArray) (e' : Int) : Prop where
  p : PR wr b s' e'
  r : RR wr c s e
  bel : Below W.heap.size W wr
  ne : b ≠ c
  hb : W.heap.size ≤ b
  hc : W.heap.size ≤ c
theorem Both2.turnP {W wr w1 : World} {b c : Nat} {s s' : ByteArray} {e e' : Int} (h : Both2 W wr b c s e) (hp : PR w1 b s' e') (ho : Only (· = b) wr w1) : Half2 W w1 b c s e s' e' :=
  ⟨hp, h.r.only ho (fun e => h.ne e.symm), bonly h.bel ho h.hb, h.ne, h.hb, h.hc⟩
theorem Half2.turnR {W wr w1 : World} {b c : Nat} {s s' : ByteArray} {e e' : Int} (h : Half2 W wr b c s e s' e') (hr : RR w1 c s' e') (ho : Only (· = c) wr w1) : Both2 W w1 b c s' e' :=
  ⟨h.p.only ho h.ne, hr, bonly h.bel ho h.hc, h.ne, h.hb, h.hc⟩
theorem slic_lt {W : World} {v : Value} {n : Nat} {f : Nat → Value} (h : Slic W v n f) {g off cap : Nat} (hv : v = .slice (some ⟨g, off, none⟩) n cap) (hn : 0 < n) : g < W.heap.size := by
  obtain ⟨p, cap', rfl, hS⟩ := h
  obtain ⟨g', off', rfl, hg, _⟩ := hS hn
  injection hv with e1
  injection e1 with e2
  injection e2 with e3
  omega
theorem Slic.up {W w : World} {v : Value} {n : Nat} {f : Nat → Value} (h : Slic W v n f) (hb : Below W.heap.size W w) : Slic w v n f := h.grow hb
def RdRel (W : World) (b c n : Nat) (u : Value) (wr : World) : Prop := ∃ (i : Nat) (s : ByteArray) (e : Int), i ≤ n ∧ u = .int .i64 i ∧ Both2 W wr b c s e
end Go.Proofs.Ytppkfpphefonoaa
