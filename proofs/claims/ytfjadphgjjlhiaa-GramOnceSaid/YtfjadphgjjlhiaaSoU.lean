
/- Rows of uint64 that are sorted: what they hold; cmp.Less; insertionSortOrdered. No condition. -/
import Derived.Test.YtfjadphgjjlhiaaRows
import Derived.Test.YtfjadphgjjlhiaaHeap
import Derived.Sort.Statements
import Derived.Sort.LotA
namespace Go.Proofs.Ytfjadphgjjlhiaa
open Go.RowKit
set_option linter.unusedVariables false
set_option linter.unusedSimpArgs false
theorem isnan_u (x : Int) (w : World) : Calls Try.prog 61 #[.int .u64 x] w fun e w' => e = .returned (.bool false) ∧ w' = w := by
  go_enter Try.func61, Try.ntmps61
  go_wp2
  go_ret
  simp
theorem less_u (x y : Int) (w : World) : Calls Try.prog 51 #[.int .u64 x, .int .u64 y] w fun e w' => e = .returned (.bool (decide (x < y))) ∧ w' = w := by
  go_enter Try.func51, Try.ntmps51
  go_wp2_with (go_at_call 61; ((with_reducible refine (isnan_u _ _).mono ?_); rintro e w' ⟨rfl, rfl⟩))
  go_ret
  simp
theorem less_t {x y : Int} {b : Bool} (h : decide (x < y) = b) (w : World) : Calls Try.prog 51 #[.int .u64 x, .int .u64 y] w fun e w' => e = .returned (.bool b) ∧ w' = w := by
  subst h; exact less_u x y w
namespace Sou
/-- The row's block: d, and what lies behind it. -/
def UR (w : World) (g : Nat) (d : Array Int) (tl : List Value) : Prop := Blk w g 29 (d.map (Value.int .u64) ++ tl.toArray)
theorem UR.cell {w : World} {g : Nat} {d : Array Int} {tl : List Value} (h : UR w g d tl) {i : Nat} (hi : i < d.size) : w.cell? ⟨g, i, none⟩ = some (.int .u64 d[i]!) := by
  rw [(show Blk w g _ _ from h).cell i, Array.getElem?_append_left (by simpa using hi), Array.getElem?_map, getElem!_pos d i hi, Array.getElem?_eq_getElem hi]
  rfl
theorem UR.frozen {w : World} {g : Nat} {d : Array Int} {tl : List Value} (h : UR w g d tl) (i : Nat) : w.frozen? ⟨g, i, none⟩ = false := (show Blk w g _ _ from h).frozen i
theorem UR.lt {w : World} {g : Nat} {d : Array Int} {tl : List Value} (h : UR w g d tl) : g < w.heap.size := (show Blk w g _ _ from h).lt
theorem UR.set {w : World} {g : Nat} {d : Array Int} {tl : List Value} (h : UR w g d tl) {i : Nat} (hi : i < d.size) (x : Int) : UR (w.setCell ⟨g, i, none⟩ (.int .u64 x)) g (d.setIfInBounds i x) tl := by
  have := (show Blk w g _ _ from h).set i (.int .u64 x)
  unfold UR
  have e : (d.map (Value.int .u64) ++ tl.toArray).setIfInBounds i (.int .u64 x) = (d.setIfInBounds i x).map (Value.int .u64) ++ tl.toArray := by
    rw [Array.setIfInBounds_append_left (by simpa using hi), Array.map_setIfInBounds]
  rw [← e]; exact this
theorem UR.drew {w : World} {g : Nat} {d : Array Int} {tl : List Value} (h : UR w g d tl) : UR w.drew g d tl := (show Blk w g _ _ from h).drew
theorem UR.alloc {w : World} {g : Nat} {d : Array Int} {tl : List Value} (h : UR w g d tl) (o : Obj) : UR (w.alloc o) g d tl := (show Blk w g _ _ from h).alloc o
theorem UR.below {w w' : World} {g : Nat} {d : Array Int} {tl : List Value} (h : UR w g d tl) (hb : Below w.heap.size w w') : UR w' g d tl := (show Blk w g _ _ from h).below hb
theorem UR.only {S : Nat → Prop} {w w' : World} {g : Nat} {d : Array Int} {tl : List Value} (h : UR w g d tl) (ho : Only S w w') (hS : ¬ S g) : UR w' g d tl := (show Blk w g _ _ from h).only ho hS
theorem UR.swp {w : World} {g : Nat} {d : Array Int} {tl : List Value} (h : UR w g d tl) {i j : Nat} (hi : i < d.size) (hj : j < d.size) : UR ((w.setCell ⟨g, i, none⟩ (.int .u64 d[j]!)).setCell ⟨g, j, none⟩ (.int .u64 d[i]!)) g (Sort.swp d i j) tl :=
  (h.set hi _).set (by simpa using hj) _
/-- The row, and that nothing else has turned. -/
structure UW (w0 : World) (g : Nat) (d : Array Int) (tl : List Value) (w : World) : Prop where
  r : UR w g d tl
  o : Only (· = g) w0 w
theorem UW.drew {w0 : World} {g : Nat} {d : Array Int} {tl : List Value} {w : World} (h : UW w0 g d tl w) : UW w0 g d tl w.drew := ⟨h.r.drew, h.o.drew⟩
theorem UW.drewN {w0 : World} {g : Nat} {d : Array Int} {tl : List Value} {w : World} (h : UW w0 g d tl w) (n : Nat) : UW w0 g d tl (w.drewN n) := ⟨h.r, ⟨h.o.os, h.o.tape, h.o.output, h.o.size, h.o.block⟩⟩
theorem UW.alloc {w0 : World} {g : Nat} {d : Array Int} {tl : List Value} {w : World} (h : UW w0 g d tl w) (o : Obj) : UW w0 g d tl (w.alloc o) := ⟨h.r.alloc o, h.o.alloc o⟩
theorem UW.swp {w0 : World} {g : Nat} {d : Array Int} {tl : List Value} {w : World} (h : UW w0 g d tl w) {i j : Nat} (hi : i < d.size) (hj : j < d.size) : UW w0 g (Sort.swp d i j) tl ((w.setCell ⟨g, i, none⟩ (.int .u64 d[j]!)).setCell ⟨g, j, none⟩ (.int .u64 d[i]!)) :=
  ⟨h.r.swp hi hj, h.o.set1.set1⟩
theorem UW.then {w0 w : World} {g : Nat} {d d' : Array Int} {tl : List Value} {w' : World} (h : UW w0 g d tl w) (k : UW w g d' tl w') : UW w0 g d' tl w' := ⟨k.r, h.o.trans k.o⟩
def UPost (w0 : World) (g : Nat) (d : Array Int) (tl : List Value) (e : Ending) (w' : World) : Prop := e = .returned (.tuple #[]) ∧ UW w0 g d tl w'
end Sou
end Go.Proofs.Ytfjadphgjjlhiaa
