/- Leases and the law's three maps, in the world. No condition. -/
import Derived.Test.YtppkfpphefonoaaFairP
import Derived.Maps.OwnOps
namespace Go.Proofs.Ytppkfpphefonoaa
open Go.RowKit Lea Go.Maps
set_option linter.unusedVariables false
theorem kdI : Keyed Try.prog 3 := int_keyed Try.underlying3
theorem zI (w : World) : (zeroValue 2).run Try.prog w = .ok (.int .i64 0) w := Try.zeroValue2 w
theorem zU (w : World) : (zeroValue 29).run Try.prog w = .ok (.int .u64 0) w := Try.zeroValue29 w
theorem keyI {x : Int} (h : (Lit.int .i64 x).wf = true) : keyOf Try.prog 3 (.int .i64 x) = some (KI x) := keyOf_int_mk Try.underlying3 h
abbrev HM (w : World) (b n : Nat) (D : DU) : Prop := w.ownsMap Try.prog 3 (plainElem Try.prog 2) b n D
abbrev UM (w : World) (b n : Nat) (D : DU) : Prop := w.ownsMap Try.prog 3 (plainElem Try.prog 29) b n D
theorem Only.grown {b : Nat} {w w' : World} (h : Only (· = b) w w') : w.grownBy w' (some b) := ⟨h.os, h.tape, h.output, h.size, fun i hi hne => h.block i hi (fun e => hne (by rw [e]))⟩
theorem only_grown {b : Nat} {w w' : World} (h : w.grownBy w' (some b)) : Only (· = b) w w' := ⟨h.os, h.tape, h.output, h.size, fun i hi hne => h.block i hi (fun e => hne (by injection e))⟩
theorem below_grown {w w' : World} (h : Below w.heap.size w w') : w.grownBy w' none := ⟨h.os, h.tape, h.output, h.size, fun i hi _ => h.block i hi⟩
/-- The program's leases in block b, the law's maps in h, s, i. -/
structure FW (W wr : World) (b h s i : Nat) (len : Int) (l : List Seat) (N : Nat) (MH MS MI : DU) : Prop where
  p : PL wr b len l
  oh : HM wr h N MH
  os : UM wr s N MS
  oi : UM wr i N MI
  bel : Below W.heap.size W wr
  F : LFair l MH MS MI
  ap : b < h ∧ h < s ∧ s < i
  hb : W.heap.size ≤ b
theorem FW.grow {W wr w1 : World} {b h s i : Nat} {len : Int} {l : List Seat} {N : Nat} {MH MS MI : DU} (f : FW W wr b h s i len l N MH MS MI) (k : Below wr.heap.size wr w1) : FW W w1 b h s i len l N MH MS MI :=
  ⟨f.p.below k f.p.blk.lt, f.oh.kept (below_grown k) (by simp), f.os.kept (below_grown k) (by simp), f.oi.kept (below_grown k) (by simp), f.bel.trans (k.mono f.bel.size), f.F, f.ap, f.hb⟩
theorem FW.alloc {W wr : World} {b h s i : Nat} {len : Int} {l : List Seat} {N : Nat} {MH MS MI : DU} (f : FW W wr b h s i len l N MH MS MI) (o : Obj) : FW W (wr.alloc o) b h s i len l N MH MS MI :=
  f.grow ((Below.refl _ _).alloc (Nat.le_refl _) o)
theorem FW.mono {W wr : World} {b h s i : Nat} {len : Int} {l : List Seat} {N M : Nat} {MH MS MI : DU} (f : FW W wr b h s i len l N MH MS MI) (hm : N ≤ M) : FW W wr b h s i len l M MH MS MI :=
  ⟨f.p, f.oh.mono hm, f.os.mono hm, f.oi.mono hm, f.bel, f.F, f.ap, f.hb⟩
theorem drewN_below (w : World) (n : Nat) : Below w.heap.size w (w.drewN n) := ⟨rfl, rfl, rfl, Nat.le_refl _, fun _ _ => rfl⟩
/-- What lies beside the leases, while these turn. -/
structure FX (W wr : World) (b h s i : Nat) (N : Nat) (MH MS MI : DU) : Prop where
  oh : HM wr h N MH
  os : UM wr s N MS
  oi : UM wr i N MI
  bel : Below W.heap.size W wr
  ap : b < h ∧ h < s ∧ s < i
  hb : W.heap.size ≤ b
theorem FW.turn {W wr w1 : World} {b h s i : Nat} {len : Int} {l : List Seat} {N : Nat} {MH MS MI : DU} (f : FW W wr b h s i len l N MH MS MI) (ho : Only (· = b) wr w1) : FX W w1 b h s i N MH MS MI := by
  have hap := f.ap
  refine ⟨f.oh.kept ho.grown ?_, f.os.kept ho.grown ?_, f.oi.kept ho.grown ?_, below_only f.bel ho f.hb (Nat.le_refl _), f.ap, f.hb⟩
  all_goals (intro e; injection e with e; omega)
theorem FX.grow {W wr w1 : World} {b h s i : Nat} {N : Nat} {MH MS MI : DU} (f : FX W wr b h s i N MH MS MI) (k : Below wr.heap.size wr w1) : FX W w1 b h s i N MH MS MI :=
  ⟨f.oh.kept (below_grown k) (by simp), f.os.kept (below_grown k) (by simp), f.oi.kept (below_grown k) (by simp), f.bel.trans (k.mono f.bel.size), f.ap, f.hb⟩
/-- One of the maps turns. -/
theorem FX.turnH {W wr w1 : World} {b h s i : Nat} {N : Nat} {MH MS MI D : DU} (f : FX W wr b h s i N MH MS MI) (o : HM w1 h (N + 1) D) (g : wr.grownBy w1 (some h)) : FX W w1 b h s i (N + 1) D MS MI := by
  have hap := f.ap
  refine ⟨o, (f.os.kept g ?_).mono (by omega), (f.oi.kept g ?_).mono (by omega), below_only f.bel (only_grown g) (by have := f.hb; omega) (Nat.le_refl _), f.ap, f.hb⟩
  all_goals (intro e; injection e with e; omega)
theorem FX.turnH0 {W wr w1 : World} {b h s i : Nat} {N : Nat} {MH MS MI D : DU} (f : FX W wr b h s i N MH MS MI) (o : HM w1 h N D) (g : wr.grownBy w1 (some h)) : FX W w1 b h s i N D MS MI := by
  have hap := f.ap
  refine ⟨o, f.os.kept g ?_, f.oi.kept g ?_, below_only f.bel (only_grown g) (by have := f.hb; omega) (Nat.le_refl _), f.ap, f.hb⟩
  all_goals (intro e; injection e with e; omega)
theorem FX.turnS {W wr w1 : World} {b h s i : Nat} {N : Nat} {MH MS MI D : DU} (f : FX W wr b h s i N MH MS MI) (o : UM w1 s (N + 1) D) (g : wr.grownBy w1 (some s)) : FX W w1 b h s i (N + 1) MH D MI := by
  have hap := f.ap
  refine ⟨(f.oh.kept g ?_).mono (by omega), o, (f.oi.kept g ?_).mono (by omega), below_only f.bel (only_grown g) (by have := f.hb; omega) (Nat.le_refl _), f.ap, f.hb⟩
  all_goals (intro e; injection e with e; omega)
theorem FX.turnI {W wr w1 : World} {b h s i : Nat} {N : Nat} {MH MS MI D : DU} (f : FX W wr b h s i N MH MS MI) (o : UM w1 i (N + 1) D) (g : wr.grownBy w1 (some i)) : FX W w1 b h s i (N + 1) MH MS D := by
  have hap := f.ap
  refine ⟨(f.oh.kept g ?_).mono (by omega), (f.os.kept g ?_).mono (by omega), o, below_only f.bel (only_grown g) (by have := f.hb; omega) (Nat.le_refl _), f.ap, f.hb⟩
  all_goals (intro e; injection e with e; omega)
theorem FX.fw {W wr : World} {b h s i : Nat} {len : Int} {l : List Seat} {N : Nat} {MH MS MI : DU} (f : FX W wr b h s i N MH MS MI) (p : PL wr b len l) (F : LFair l MH MS MI) : FW W wr b h s i len l N MH MS MI :=
  ⟨p, f.oh, f.os, f.oi, f.bel, F, f.ap, f.hb⟩
theorem PL.grownN {w w1 : World} {b c : Nat} {len : Int} {l : List Seat} (p : PL w b len l) (g : w.grownBy w1 (some c)) (hne : b ≠ c) : PL w1 b len l := p.only (only_grown g) hne
theorem Blk.grownN {w w1 : World} {b c : Nat} {T : TypeId} {A : Array Value} (p : Blk w b T A) (g : w.grownBy w1 (some c)) (hne : b ≠ c) : Blk w1 b T A := p.only (only_grown g) hne
/-! ### A law's script, with its numbers' bounds -/
section
open Go.ChangeShapes Go.WideShapes Go.Deep
set_option maxRecDepth 100000 in
theorem open_script2 {H : Type} {enc : TypeId × Value → H} {W : World} {base : Nat} {held : Bool} {r : Reach} {b0 : Nat} {v : Value} {d : DataW H} {ps : List MemPlace} (hval : Value.okWide Try.prog W r b0 22 v) (hd : DataW.Trod enc Try.prog W base (fun _ => true) held 22 v d ps) :
    ∃ n sx, Script W v n sx ∧ ∀ i, i < n → (Lit.int .i64 (sx i).w).wf = true ∧ (Lit.int .u64 (sx i).inc).wf = true := by
  obtain ⟨n, sx, hs⟩ := open_script hval hd
  obtain ⟨p, n', cap, rfl, h⟩ := open_rows (e := 37) (m := 5) Try.underlying22 (by kernel_rfl) (by decide) hval hd
  refine ⟨n, sx, hs, fun i hi => ?_⟩
  obtain ⟨p', cap', e1, h2⟩ := hs
  injection e1 with e1 e2 e3
  subst e1 e2
  obtain ⟨g, off, rfl, _, hx2⟩ := h2 (by omega)
  obtain ⟨g', off', e4, _, hx⟩ := h (by omega)
  injection e4 with e4
  injection e4 with e5 e6
  subst e5 e6
  obtain ⟨cs, fuel, x, hlen, hcell, hy⟩ := hx i hi
  have hc := hx2 i hi
  have f := fun (k : Nat) (fd : Field) (hf : _) (ho : fd.offset = k) (hc : Try.prog.cellsOf fd.type = 1) (hlt : k < cs.length) => open_field (P := Try.prog) (t := 37) Try.underlying37 hy k fd hf k ho hc hlt
  obtain ⟨m1, y1, e1⟩ := f 1 _ rfl rfl (by kernel_rfl) (by omega)
  obtain ⟨m3, y3, e3⟩ := f 3 _ rfl rfl (by kernel_rfl) (by omega)
  obtain ⟨n1, z1, _, w1⟩ := DataW.trod_int (k := .i64) (by kernel_rfl) e1
  obtain ⟨n3, z3, _, w3⟩ := DataW.trod_int (k := .u64) (by kernel_rfl) e3
  have q1 := hcell 1 (by omega)
  have q3 := hcell 3 (by omega)
  rw [hc.2.1, List.getElem?_eq_getElem (by omega)] at q1
  rw [hc.2.2.2.1, List.getElem?_eq_getElem (by omega)] at q3
  simp only [List.getD, List.getElem?_eq_getElem (show 1 < cs.length by omega), List.getElem?_eq_getElem (show 3 < cs.length by omega), Option.getD_some, List.cons.injEq, and_true] at z1 z3
  rw [z1] at q1
  rw [z3] at q3
  simp only [Option.some.injEq, Value.int.injEq, true_and] at q1 q3
  rw [q1, q3]
  exact ⟨w1, w3⟩
end
end Go.Proofs.Ytppkfpphefonoaa
