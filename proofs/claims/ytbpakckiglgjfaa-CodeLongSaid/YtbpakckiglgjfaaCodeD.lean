
/- Programs, in plain terms, and as cells hold them. No condition. -/
import Derived.Test.YtbpakckiglgjfaaHeap
import Derived.Test.YtbpakckiglgjfaaNumW
namespace Go.Proofs.Ytbpakckiglgjfaa
open Go.RowKit
set_option linter.unusedVariables false
namespace Cd
structure OpV where
  k : Int
  d : Int
  a : Int
  b : Int
  n : Int
structure FunV where
  args : Int
  regs : Int
  ops : List OpV
instance : Inhabited OpV := ⟨⟨0, 0, 0, 0, 0⟩⟩
instance : Inhabited FunV := ⟨⟨0, 0, []⟩⟩
def U8 (x : Int) : Prop := 0 ≤ x ∧ x ≤ 255
def OkO (o : OpV) : Prop := U8 o.k ∧ I64 o.d ∧ I64 o.a ∧ I64 o.b ∧ I64 o.n
def OkF (f : FunV) : Prop := I64 f.args ∧ I64 f.regs ∧ ∀ o ∈ f.ops, OkO o
def OkP (fs : List FunV) : Prop := ∀ f ∈ fs, OkF f
def Lim (fs : List FunV) : Prop := fs.length ≤ 60 ∧ ∀ f ∈ fs, f.ops.length ≤ 200
/-! ### What kinds have -/
def kd (k : Int) : Bool := (decide (1 ≤ k) && decide (k ≤ 9)) || k == 12
def ka (k : Int) : Bool := (decide (2 ≤ k) && decide (k ≤ 9)) || k == 11 || k == 12 || k == 14
def kb (k : Int) : Bool := decide (3 ≤ k) && decide (k ≤ 9)
def kn (k : Int) : Bool := k == 1 || k == 10 || k == 11 || k == 12
def known (k : Int) : Bool := decide (1 ≤ k) && decide (k ≤ 14)
def regB (x : Int) : Bool := decide (0 ≤ x) && decide (x ≤ 16)
def formB (o : OpV) : Bool := known o.k && (regB o.d && (regB o.a && regB o.b)) && (kd o.k || o.d == 0) && (ka o.k || o.a == 0) && (kb o.k || o.b == 0) && (kn o.k || o.n == 0)
def funB (f : FunV) : Bool := regB f.args && regB f.regs && decide (f.ops.length ≤ 64) && f.ops.all formB
def mayB (fs : List FunV) : Bool := decide (fs.length ≤ 16) && fs.all funB
/-! ### How they lie -/
def opA (o : OpV) : Array Value := #[.int .u8 o.k, .int .i64 o.d, .int .i64 o.a, .int .i64 o.b, .int .i64 o.n]
def OpsAt (w : World) (v : Value) (l : List OpV) : Prop :=
  ∃ p cap, v = .slice p l.length cap ∧ (0 < l.length → ∃ g off, p = some ⟨g, off, none⟩ ∧ g < w.heap.size ∧ ∀ i (h : i < l.length) j, j < 5 → w.cell? ⟨g, off + i * 5 + j, none⟩ = (opA l[i])[j]?)
def FunsAt (w : World) (v : Value) (fs : List FunV) : Prop :=
  ∃ p cap, v = .slice p fs.length cap ∧ (0 < fs.length → ∃ g off, p = some ⟨g, off, none⟩ ∧ g < w.heap.size ∧ ∀ i (h : i < fs.length), w.cell? ⟨g, off + i * 3, none⟩ = some (.int .i64 fs[i].args) ∧ w.cell? ⟨g, off + i * 3 + 1, none⟩ = some (.int .i64 fs[i].regs) ∧
    ∃ vo, w.cell? ⟨g, off + i * 3 + 2, none⟩ = some vo ∧ OpsAt w vo fs[i].ops)
theorem OpsAt.below {w w' : World} {v : Value} {l : List OpV} (h : OpsAt w v l) (hb : Below w.heap.size w w') : OpsAt w' v l := by
  obtain ⟨p, cap, rfl, hx⟩ := h
  refine ⟨p, cap, rfl, fun hl => ?_⟩
  obtain ⟨g, off, rfl, hg, hc⟩ := hx hl
  exact ⟨g, off, rfl, Nat.lt_of_lt_of_le hg hb.size, fun i hi j hj => by rw [hb.cell (p := ⟨g, _, none⟩) hg]; exact hc i hi j hj⟩
theorem FunsAt.below {w w' : World} {v : Value} {l : List FunV} (h : FunsAt w v l) (hb : Below w.heap.size w w') : FunsAt w' v l := by
  obtain ⟨p, cap, rfl, hx⟩ := h
  refine ⟨p, cap, rfl, fun hl => ?_⟩
  obtain ⟨g, off, rfl, hg, hc⟩ := hx hl
  refine ⟨g, off, rfl, Nat.lt_of_lt_of_le hg hb.size, fun i hi => ?_⟩
  obtain ⟨h1, h2, vo, h3, h4⟩ := hc i hi
  exact ⟨by rw [hb.cell (p := ⟨g, _, none⟩) hg]; exact h1, by rw [hb.cell (p := ⟨g, _, none⟩) hg]; exact h2, vo, by rw [hb.cell (p := ⟨g, _, none⟩) hg]; exact h3, h4.below hb⟩
theorem OpsAt.alloc {w : World} {v : Value} {l : List OpV} (h : OpsAt w v l) (o : Obj) : OpsAt (w.alloc o) v l := h.below ((Below.refl _ _).alloc (Nat.le_refl _) o)
theorem FunsAt.alloc {w : World} {v : Value} {l : List FunV} (h : FunsAt w v l) (o : Obj) : FunsAt (w.alloc o) v l := h.below ((Below.refl _ _).alloc (Nat.le_refl _) o)
theorem OpsAt.drew {w : World} {v : Value} {l : List OpV} (h : OpsAt w v l) : OpsAt w.drew v l := h
theorem FunsAt.drew {w : World} {v : Value} {l : List FunV} (h : FunsAt w v l) : FunsAt w.drew v l := h
theorem OpsAt.slice {w : World} {v : Value} {l : List OpV} (h : OpsAt w v l) : ∃ p cap, v = .slice p l.length cap := by obtain ⟨p, cap, e, _⟩ := h; exact ⟨p, cap, e⟩
theorem FunsAt.slice {w : World} {v : Value} {l : List FunV} (h : FunsAt w v l) : ∃ p cap, v = .slice p l.length cap := by obtain ⟨p, cap, e, _⟩ := h; exact ⟨p, cap, e⟩
end Cd
end Go.Proofs.Ytbpakckiglgjfaa
