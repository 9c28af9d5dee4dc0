
/- The walks of choosePivotOrdered and reverseRangeOrdered at uint64: what is chosen lies in the row. No condition but that the row is not too long. -/
import Derived.Test.YtfjadphgjjlhiaaSoP
import Derived.Sort.LotB
namespace Go.Proofs.Ytfjadphgjjlhiaa
open Go.RowKit Sou
set_option linter.unusedVariables false
set_option linter.unusedSimpArgs false
namespace Sou
theorem CW.back {w wc : World} {g : Nat} {d : Array Int} {tl : List Value} {o : Obj} (h : UR w g d tl) (hC : CW (w.alloc o) w.heap.size wc) : UW w g d tl wc := by
  have hg : g < w.heap.size := h.lt
  refine ⟨(h.alloc o).only hC.o (by omega), hC.o.os, hC.o.tape, hC.o.output, by have := hC.o.size; simp at this; omega, fun k hk hs => ?_⟩
  rw [hC.o.block k (by simp; omega) (by omega), Below.heap_alloc _ _ _ hk]
def CpPost (w0 : World) (g a b : Nat) (d : Array Int) (tl : List Value) (e : Ending) (w' : World) : Prop := (∃ (p : Nat) (h : Int), a ≤ p ∧ p < b ∧ e = .returned (.tuple #[.int .i64 p, .int .i64 h])) ∧ UW w0 g d tl w'
def RvR (w0 : World) (g n : Nat) (R : Array Int) (tl : List Value) (u v : Value) (wr : World) : Prop := ∃ (i j : Nat) (d : Array Int), u = .int .i64 i ∧ v = .int .i64 j ∧ i ≤ n ∧ j < n ∧ d.size = n ∧ Go.Sort.reverseLoop i j d = R ∧ UW w0 g d tl wr
theorem rv_go {i j : Nat} {d : Array Int} (h : i < j) : Go.Sort.reverseLoop i j d = Go.Sort.reverseLoop (i + 1) (j - 1) (Go.Sort.swp d i j) := by rw [Go.Sort.reverseLoop, if_pos h]
theorem rv_stop {i j : Nat} {d : Array Int} (h : ¬ i < j) : Go.Sort.reverseLoop i j d = d := by rw [Go.Sort.reverseLoop, if_neg h]
end Sou
set_option maxRecDepth 100000 in
set_option maxHeartbeats 4000000 in
theorem reverse_u {w : World} {g n cap a b : Nat} {d : Array Int} {tl : List Value} (h : UR w g d tl) (hn : d.size = n) (hab : a < b) (hb : b ≤ n) (hs : n ≤ 1000000) :
    Calls Try.prog 49 #[.slice (some ⟨g, 0, none⟩) n cap, .int .i64 (a : Int), .int .i64 (b : Int)] w (UPost w g (Go.Sort.reverseRange d a b) tl) := by
  have hz : RvR w g n (Go.Sort.reverseRange d a b) tl (.int .i64 a) (.int .i64 ((b - 1 : Nat) : Int)) w := ⟨a, b - 1, d, rfl, rfl, by omega, by omega, hn, rfl, h, Only.refl _ _⟩
  generalize Go.Sort.reverseRange d a b = R at *
  have HZ := Lib.hid hz
  have e2 : IntKind.i64.wrap ((b : Int) - 1) = ((b - 1 : Nat) : Int) := by rw [IntKind.wrap_i64]; omega
  clear h hn hz hb
  generalize b - 1 = j0 at *
  go_enter Try.func49, Try.ntmps49
  go_wp2_with fail
  clear e2 hab
  go_loopw [6, 7] (fun u v wr => RvR w g n R tl u v wr) (fun u v _ => (intOf v + 1 - intOf u).toNat)
  case atStart => exact HZ.out
  case round =>
    clear HZ
    obtain ⟨i, j, dk, rfl, rfl, hi, hj, hdn, hR, hU⟩ := hrel
    have HU := Lib.hid hU
    have HDN := Lib.hid hdn
    by_cases hij : i < j
    · have hij' : (i : Int) < (j : Int) := by omega
      have HRE := Lib.hid ((rv_go (d := dk) hij).symm.trans hR)
      have HBD : Hid (i < n ∧ j < n ∧ i < j) := Lib.hid (by omega)
      clear hU hdn hR hi hj hij
      go_wp2_with fail
      go_upto_region 3 with fail
      go_cut [] (fun wc => UW w g (Go.Sort.swp dk i j) tl wc)
      case first =>
        have hsw := fun W (h : UW w g dk tl W) => (h.swp (i := i) (j := j) (by have := HDN.out; have := HBD.out; omega) (by have := HDN.out; have := HBD.out; omega)).drew
        have HSW := Lib.hid (hsw _ HU.out)
        have hf := HU.out.r.frozen
        have x0 := HU.out.r.cell (i := i) (by have := HDN.out; have := HBD.out; omega)
        have x1 := HU.out.r.cell (i := j) (by have := HDN.out; have := HBD.out; omega)
        have i0 : ((i : Nat) : Int) < (n : Int) := by have := HBD.out; omega
        have i1 : ((j : Nat) : Int) < (n : Int) := by have := HBD.out; omega
        have j0 : (0 : Int) ≤ ((i : Nat) : Int) := by omega
        have j1 : (0 : Int) ≤ ((j : Nat) : Int) := by omega
        clear hsw HU
        by_cases hAB : i = j
        · subst hAB
          generalize (dk)[i]! = y1 at *
          go_region
          all_goals (go_wp2_with fail; go_meet)
          all_goals exact HSW.out
        · have hBA : ¬ j = i := fun e => hAB e.symm
          generalize (dk)[i]! = y0 at *
          generalize (dk)[j]! = y1 at *
          go_region
          all_goals (go_wp2_with fail; go_meet)
          all_goals exact HSW.out
      case rest =>
        clear HU
        have hdks : (Go.Sort.swp dk i j).size = n := by rw [Go.Sort.swp_size]; exact HDN.out
        have HZ : Hid (RvR w g n R tl (.int .i64 ((i + 1 : Nat) : Int)) (.int .i64 ((j - 1 : Nat) : Int)) wc) := Lib.hid ⟨i + 1, j - 1, _, rfl, rfl, by have := HBD.out; omega, by have := HBD.out; omega, hdks, HRE.out, hcut⟩
        have e1 : IntKind.i64.wrap ((i : Int) + 1) = ((i + 1 : Nat) : Int) := by have := HBD.out; rw [IntKind.wrap_i64]; omega
        have e2 : IntKind.i64.wrap ((j : Int) - 1) = ((j - 1 : Nat) : Int) := by have := HBD.out; rw [IntKind.wrap_i64]; omega
        clear hdks hcut HRE HDN hij'
        go_wp2_with fail
        go_roundw
        case rel => exact HZ.out
        case measure => have := HBD.out; simp [intOf]; omega
    · have hij' : ¬ (i : Int) < (j : Int) := by omega
      have hR2 : dk = R := (rv_stop (d := dk) hij).symm.trans hR
      have HR2 := Lib.hid hR2
      clear hU hdn hR hi hj hij hR2
      go_wp2_with fail
      go_end0
      exact ⟨rfl, by rw [← HR2.out]; exact HU.out⟩
end Go.Proofs.Ytfjadphgjjlhiaa
