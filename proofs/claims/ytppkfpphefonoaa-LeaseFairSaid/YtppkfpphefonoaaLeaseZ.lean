/- The walks of the program's leases, fourth part. No condition. -/
import Derived.Test.YtppkfpphefonoaaLeaseY
namespace Go.Proofs.Ytppkfpphefonoaa
open Go.RowKit Lea
set_option linter.unusedVariables false
/-! ### Alive -/
namespace Lea
def aliveQ (l : List Seat) (n : Int) : Bool := okW n && (sat l n).alive
def aliveI (l : List Seat) (n : Int) : Int := if aliveQ l n = true then (sat l n).inc else 0
end Lea
def AlivePost (w : World) (i : Int) (q : Bool) (e : Ending) (w' : World) : Prop := e = .returned (.tuple #[.int .u64 i, .bool q]) ∧ w = w'
set_option maxHeartbeats 1000000 in
theorem alive_any {b : Nat} {len : Int} {l : List Seat} {w : World} (h : PL w b len l) (n : Int) :
    Calls Try.prog 24 #[.pointer (some ⟨b, 0, none⟩), .int .i64 n] w (AlivePost w (aliveI l n) (aliveQ l n)) := by
  have HH := Lib.hid h
  have hn := h.n
  cases how : okW n with
  | false =>
    have e1 : aliveQ l n = false := by simp [aliveQ, how]
    have e2 : aliveI l n = 0 := by simp [aliveI, e1]
    rw [e1, e2]
    clear h
    go_enter Try.func24, Try.ntmps24
    go_wp2_with (first | (go_at_call 52; ((with_reducible refine (made_any HH.out).mono ?_); rintro e w' ⟨rfl, rfl⟩)) | (go_at_call 53; ((with_reducible refine (worker_any _ _).mono ?_); rintro e w' ⟨rfl, rfl⟩)) | (go_at_call 54; ((with_reducible refine (time_any _ _).mono ?_); rintro e w' ⟨rfl, rfl⟩)))
    go_ret2
    exact ⟨rfl, rfl⟩
  | true =>
    obtain ⟨k, rfl, hk, _⟩ := okW_nat how
    have hs := (sat_k hn hk).symm
    cases ha : (sat l k).alive with
    | false =>
      have e1 : aliveQ l k = false := by simp [aliveQ, ha]
      have e2 : aliveI l k = 0 := by simp [aliveI, e1]
      rw [e1, e2]
      generalize sat l k = s at hs ha
      have c3 : w.cell? ⟨b, 1 + k * 5 + 3, none⟩ = some (.bool false) := by rw [h.cell hk 3 (by omega), hs, ← ha]; rfl
      clear h
      go_enter Try.func24, Try.ntmps24
      go_wp2_with (first | (go_at_call 52; ((with_reducible refine (made_any HH.out).mono ?_); rintro e w' ⟨rfl, rfl⟩)) | (go_at_call 53; ((with_reducible refine (worker_any _ _).mono ?_); rintro e w' ⟨rfl, rfl⟩)) | (go_at_call 54; ((with_reducible refine (time_any _ _).mono ?_); rintro e w' ⟨rfl, rfl⟩)))
      go_ret2
      exact ⟨rfl, rfl⟩
    | true =>
      have e1 : aliveQ l k = true := by simp [aliveQ, ha, how]
      have e2 : aliveI l k = (sat l k).inc := by simp [aliveI, e1]
      rw [e1, e2]
      generalize sat l k = s at hs ha
      have c3 : w.cell? ⟨b, 1 + k * 5 + 3, none⟩ = some (.bool true) := by rw [h.cell hk 3 (by omega), hs, ← ha]; rfl
      have c1 : w.cell? ⟨b, 1 + k * 5 + 1, none⟩ = some (.int .u64 s.inc) := by rw [h.cell hk 1 (by omega), hs]; rfl
      clear h
      go_enter Try.func24, Try.ntmps24
      go_wp2_with (first | (go_at_call 52; ((with_reducible refine (made_any HH.out).mono ?_); rintro e w' ⟨rfl, rfl⟩)) | (go_at_call 53; ((with_reducible refine (worker_any _ _).mono ?_); rintro e w' ⟨rfl, rfl⟩)) | (go_at_call 54; ((with_reducible refine (time_any _ _).mono ?_); rintro e w' ⟨rfl, rfl⟩)))
      go_ret2
      exact ⟨rfl, rfl⟩
set_option maxHeartbeats 1000000 in
theorem alive_nil {w : World} (n : Int) : Calls Try.prog 24 #[.pointer none, .int .i64 n] w (AlivePost w 0 false) := by
  go_enter Try.func24, Try.ntmps24
  go_wp2_with (first | (go_at_call 52; ((with_reducible refine (made_nil).mono ?_); rintro e w' ⟨rfl, rfl⟩)))
  go_ret2
  exact ⟨rfl, rfl⟩
set_option maxHeartbeats 1000000 in
theorem join_nil {w : World} (n inc now : Int) : Calls Try.prog 13 #[.pointer none, .int .i64 n, .int .u64 inc, .int .i64 now] w fun e w' => e = .returned (.tuple #[.bool false, .int .i64 1]) ∧ w = w' := by
  go_enter Try.func13, Try.ntmps13
  go_wp2_with (first | (go_at_call 52; ((with_reducible refine (made_nil).mono ?_); rintro e w' ⟨rfl, rfl⟩)))
  go_ret2
  exact ⟨rfl, rfl⟩
set_option maxHeartbeats 1000000 in
theorem beat_nil {w : World} (n inc now : Int) : Calls Try.prog 15 #[.pointer none, .int .i64 n, .int .u64 inc, .int .i64 now] w fun e w' => e = .returned (.int .i64 1) ∧ w = w' := by
  go_enter Try.func15, Try.ntmps15
  go_wp2_with (first | (go_at_call 52; ((with_reducible refine (made_nil).mono ?_); rintro e w' ⟨rfl, rfl⟩)))
  go_ret
  exact ⟨rfl, rfl⟩
set_option maxHeartbeats 1000000 in
theorem expire_nil {w : World} (now : Int) : Calls Try.prog 17 #[.pointer none, .int .i64 now] w fun e w' => e = .returned (.tuple #[.slice none 0 0, .int .i64 1]) ∧ w = w' := by
  go_enter Try.func17, Try.ntmps17
  go_wp2_with (first | (go_at_call 52; ((with_reducible refine (made_nil).mono ?_); rintro e w' ⟨rfl, rfl⟩)))
  go_ret2
  exact ⟨rfl, rfl⟩
set_option maxHeartbeats 1000000 in
theorem leave_nil {w : World} (v : Value) : Calls Try.prog 20 #[.pointer none, v] w fun e w' => e = .returned (.int .i64 0) ∧ w = w' := by
  go_enter Try.func20, Try.ntmps20
  go_wp2_with (first | (go_at_call 52; ((with_reducible refine (made_nil).mono ?_); rintro e w' ⟨rfl, rfl⟩)))
  go_ret
  exact ⟨rfl, rfl⟩
set_option maxHeartbeats 1000000 in
theorem rows_nil {w : World} : Calls Try.prog 22 #[.pointer none] w fun e w' => e = .returned (.slice none 0 0) ∧ w = w' := by
  go_enter Try.func22, Try.ntmps22
  go_wp2_with (first | (go_at_call 52; ((with_reducible refine (made_nil).mono ?_); rintro e w' ⟨rfl, rfl⟩)))
  go_ret
  exact ⟨rfl, rfl⟩
/-! ### New -/
set_option maxHeartbeats 1000000 in
theorem new_bad {w : World} (len : Int) (h : (decide (1 ≤ len) && decide (len ≤ 4294967296)) = false) : Calls Try.prog 12 #[.int .i64 len] w fun e w' => e = .returned (.tuple #[.pointer none, .int .i64 2]) ∧ w = w' := by
  by_cases h1 : len < 1
  · clear h
    go_enter Try.func12, Try.ntmps12
    go_wp2
    go_ret2
    exact ⟨rfl, rfl⟩
  · have h2 : 4294967296 < len := by
      simp only [Bool.and_eq_false_iff, decide_eq_false_iff_not] at h; omega
    clear h
    go_enter Try.func12, Try.ntmps12
    go_wp2
    go_ret2
    exact ⟨rfl, rfl⟩
def zeros : List Seat := List.replicate 33 zeroS
def NewPost (len : Int) (w : World) (e : Ending) (w' : World) : Prop :=
  e = .returned (.tuple #[.pointer (some ⟨w.heap.size, 0, none⟩), .int .i64 0]) ∧ PL w' w.heap.size len zeros ∧ Below w.heap.size w w'
set_option maxRecDepth 100000 in
set_option maxHeartbeats 1000000 in
theorem new_good {w : World} (len : Int) (h1 : 1 ≤ len) (h2 : len ≤ 4294967296) : Calls Try.prog 12 #[.int .i64 len] w (NewPost len w) := by
  go_enter Try.func12, Try.ntmps12
  go_wp2
  go_ret2
  refine ⟨rfl, ⟨?_, by simp [zeros], h1, h2⟩, ?_⟩
  · refine Eq.trans (Blk.new w _ _) ?_
    rfl
  · exact (Below.refl _ _).alloc (Nat.le_refl _) _
end Go.Proofs.Ytppkfpphefonoaa
