/- The rows of leases, and the law's maps: plain laws. No condition. -/
import Derived.Test.YtppkfpphefonoaaFairE
namespace Go.Proofs.Ytppkfpphefonoaa
open Go.RowKit Lea Go.Maps
set_option linter.unusedVariables false
namespace Lea
theorem aliveN_rows {l : List Seat} (hn : l.length = 33) : aliveN l = (rowI l 33).length := by
  have e : l = (List.range 33).map fun k : Nat => sat l k := by
    apply List.ext_getElem
    · simp [hn]
    · intro i h1 h2
      rw [List.getElem_map, List.getElem_range, sat_k hn (by omega)]
  have h1 : aliveN l = ((List.range 33).map fun k : Nat => sat l k).countP Seat.alive := by unfold aliveN; rw [← e]
  rw [h1, List.countP_map]
  unfold rowI
  rw [List.countP_eq_length_filter]
  rfl
theorem rowI_at {l : List Seat} (hn : l.length = 33) (ho : OwnNo l) {j : Nat} (hj : j < (rowI l 33).length) :
    onQ l ((rowI l 33)[j] : Nat) = true ∧ (sat l ((rowI l 33)[j] : Nat)).w = ((rowI l 33)[j] : Nat) ∧ (Lit.int .i64 ((rowI l 33)[j] : Nat)).wf = true := by
  have hm : (rowI l 33)[j] ∈ rowI l 33 := List.getElem_mem hj
  generalize (rowI l 33)[j] = x at *
  unfold rowI at hm
  have hm2 := List.mem_filter.1 hm
  have hlt := List.mem_range.1 hm2.1
  have hw := ho x (sat l x) (by rw [sat_k hn hlt, List.getElem?_eq_getElem (by omega)]) hm2.2
  have hok : okW (x : Int) = true := by unfold okW; simp; omega
  refine ⟨?_, hw.1, WalkArith.wf_i64 (by omega)⟩
  unfold onQ
  rw [hok, hm2.2]; rfl
theorem rowI_up {l : List Seat} {i : Nat} (hj : i + 1 < (rowI l 33).length) : (rowI l 33)[i] < (rowI l 33)[i + 1] := by
  have hs : (rowI l 33).Pairwise (· < ·) := by unfold rowI; exact List.Pairwise.filter _ List.pairwise_lt_range
  exact List.pairwise_iff_getElem.1 hs i (i + 1) (by omega) hj (by omega)
theorem rows_at' (l : List Seat) (xs : List Nat) {i j : Nat} (hi : i < xs.length) (hj : j < 3) : (rowsOf l xs)[i * 3 + j]? = (rowL (sat l (xs[i] : Nat)))[j]? :=
  flat_get (fun (k : Nat) => rowL (sat l k)) 3 (fun _ => rfl) xs i j hi hj
end Lea
theorem quiet_drew {a w : World} (h : Only (fun _ => False) a w) (n : Nat) : Only (fun _ => False) a (w.drewN n) := ⟨h.os, h.tape, h.output, h.size, h.block⟩
end Go.Proofs.Ytppkfpphefonoaa
