/- The walks of the program's leases: Rows. No condition. -/
import Derived.Test.YtppkfpphefonoaaLeaseK
namespace Go.Proofs.Ytppkfpphefonoaa
open Go.RowKit Lea
set_option linter.unusedVariables false
namespace Lea
def rowI (l : List Seat) (i : Nat) : List Nat := (List.range i).filter fun k => (sat l k).alive
def rowL (s : Seat) : List Value := [.int .i64 s.w, .int .u64 s.inc, .int .i64 s.til]
def rowsOf (l : List Seat) (ks : List Nat) : List Value := ks.flatMap fun (k : Nat) => rowL (sat l k)
theorem rowI_succ (l : List Seat) (i : Nat) : rowI l (i + 1) = if (sat l i).alive = true then rowI l i ++ [i] else rowI l i := by
  unfold rowI
  rw [List.range_succ, List.filter_append]
  by_cases h : (sat l i).alive = true <;> simp [h]
theorem rowI_len (l : List Seat) (i : Nat) : (rowI l i).length ≤ i := by
  unfold rowI; have := List.length_filter_le (fun k : Nat => (sat l k).alive) (List.range i); simpa using this
def allC (l : List Seat) : List Value := l.flatMap seatL
theorem allC_len {l : List Seat} (h : l.length = 33) : (allC l).length = 165 := by unfold allC; rw [flat_len seatL 5 seatL_len, h]
end Lea
theorem PL.part {w : World} {b : Nat} {len : Int} {l : List Seat} (h : PL w b len l) : ∀ j v, (allC l)[j]? = some v → w.cell? ⟨b, 1 + j, none⟩ = some v := by
  intro j v hv
  rw [h.blk.cell]
  unfold cells
  rw [List.getElem?_toArray, Nat.add_comm 1 j, List.getElem?_cons_succ]
  exact hv
theorem info_lease : Info Try.prog 31 (.agg #[.int .i64 0, .int .u64 0, .int .i64 0]) 3 24 := by unfold Info; kernel_rfl
def RowsPost (l : List Seat) (w : World) (e : Ending) (w' : World) : Prop :=
  ∃ v, e = .returned v ∧ w'.ownsRow w.heap.size 31 3 v (rowI l 33).length (rowsOf l (rowI l 33)) ∧ Below w.heap.size w w'
def RowsRel (l : List Seat) (w : World) (u v : Value) (wr : World) : Prop :=
  ∃ i : Nat, i ≤ 33 ∧ u = .int .i64 i ∧ wr.ownsRow w.heap.size 31 3 v (rowI l i).length (rowsOf l (rowI l i)) ∧ Below w.heap.size w wr
set_option maxRecDepth 100000 in
set_option maxHeartbeats 1000000 in
theorem rows_any {b : Nat} {len : Int} {l : List Seat} {w : World} (h : PL w b len l) :
    Calls Try.prog 22 #[.pointer (some ⟨b, 0, none⟩)] w (RowsPost l w) := by
  have HH := Lib.hid h
  have hn := h.n
  have hal : (allC l).length = 165 := allC_len hn
  have hix : ∀ (k : Nat) (hk : k < 33) (w : World), (Instr.index 96 (.agg (allC l).toArray) (.int .i64 k)).run Try.prog w = .ok (.agg (seatL (l[k]'(by omega))).toArray) w := fun k hk w =>
    run_index_part _ _ _ Try.underlying96 Try.underlying95 rfl (by kernel_rfl) hk (flat_extract seatL 5 seatL_len l k (by omega))
  have hrfl := Below.refl w.heap.size w
  clear h
  have HX := Lib.hid hix
  have HA := Lib.hid hal
  clear hix hal
  go_enter Try.func22, Try.ntmps22
  go_wp2_with (first | (go_at_call 52; ((with_reducible refine (made_any HH.out).mono ?_); rintro e w' ⟨rfl, rfl⟩)) | (refine wpl_load_part rfl 96 _ rfl b 1 rfl (allC l) _ (PL.part HH.out) Try.underlying96 rfl (by rw [HA.out]; kernel_rfl) ?_))
  have hil := HA.out
  go_loopw [12, 2] (fun u v wr => RowsRel l w u v wr) (fun u v _ => (33 - intOf u).toNat)
  case atStart => exact ⟨0, by omega, rfl, by simpa [rowI, rowsOf] using World.ownsRow_nil _ _ _ _, hrfl⟩
  case round =>
    obtain ⟨k, hk33, rfl, hown, hb⟩ := hrel
    by_cases hk : k < 33
    · have hxk := HX.out k hk
      have hsd := sat_k hn hk
      generalize l[k]'(by omega) = s at hxk hsd
      simp only [seatL] at hxk
      have hsz := hb.size
      cases ha : s.alive with
      | false =>
        rw [ha] at hxk
        go_wp2
        go_roundw
        case rel =>
          refine ⟨k + 1, by omega, rfl, ?_, hb.alloc hsz _⟩
          rw [rowI_succ, hsd, if_neg (by simp [ha])]
          exact hown.alloc _
        case measure => simp [intOf]; omega
      | true =>
        rw [ha] at hxk
        have hil2 : (rowI l k).length ≤ k := rowI_len l k
        generalize hxi : (rowI l k).length = m at *
        have hm : (m : Nat) < 2147483648 := by omega
        go_wp2_with (at_builtin; refine wpl_append_row rfl rfl rfl rfl Try.underlying47 info_lease rfl rfl rfl (by decide) (by decide) (hown.alloc _) ?c1 ?c2 ?c3 ?_)
        case c1 => exact hm
        case c2 => simp; omega
        case c3 => simp
        intro v' w1 hown2 hb1
        go_wp2
        go_roundw
        case rel =>
          refine ⟨k + 1, by omega, rfl, ?_, (hb.alloc hsz _).trans hb1⟩
          rw [rowI_succ, hsd, if_pos ha, List.length_append, hxi, rowsOf, List.flatMap_append]
          have e2 : ([k].flatMap fun (k : Nat) => rowL (sat l k)) = rowL s := by simp [hsd]
          rw [e2]
          exact hown2
        case measure => simp [intOf]; omega
    · have : k = 33 := by omega
      subst this
      go_wp2
      go_ret
      exact ⟨_, rfl, hown, hb⟩
end Go.Proofs.Ytppkfpphefonoaa
