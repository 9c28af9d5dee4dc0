
/- The walks of the program's reader of bricks, second part: its methods. No condition but that numbers fit their kinds. -/
import Derived.Test.YtbpakckiglgjfaaWireW
import Derived.Test.YtbpakckiglgjfaaWireA
namespace Go.Proofs.Ytbpakckiglgjfaa
open Go.RowKit Wire
set_option linter.unusedVariables false
/-! ### The checks -/
set_option maxHeartbeats 400000 in
theorem uint1_any (x n most : Int) (q : Nat) {w : World} (hq : w.cell? ⟨q, 0, none⟩ = some (.int .u64 most)) :
    Calls Try.prog 59 #[.int .u64 x, .int .i64 n, .pointer (some ⟨q, 0, none⟩)] w fun e w' => e = .returned (.tuple #[.int .i64 n, .int .i64 (if most < x then 9 else 0)]) ∧ w = w' := by
  by_cases h : most < x
  · rw [if_pos h]
    go_enter Try.func59, Try.ntmps59
    go_wp2
    go_ret2
    exact ⟨rfl, rfl⟩
  · rw [if_neg h]
    have h' : x ≤ most := by omega
    clear h
    go_enter Try.func59, Try.ntmps59
    go_wp2
    go_ret2
    exact ⟨rfl, rfl⟩
set_option maxHeartbeats 400000 in
theorem int1_any (x n lo hi : Int) (q r : Nat) {w : World} (hx : U64 x) (hq : w.cell? ⟨q, 0, none⟩ = some (.int .i64 lo)) (hr : w.cell? ⟨r, 0, none⟩ = some (.int .i64 hi)) :
    Calls Try.prog 78 #[.int .u64 x, .int .i64 n, .pointer (some ⟨q, 0, none⟩), .pointer (some ⟨r, 0, none⟩)] w fun e w' => e = .returned (.tuple #[.int .i64 n, .int .i64 (if Num.zag x < lo ∨ hi < Num.zag x then 9 else 0)]) ∧ w = w' := by
  have HZ := Lib.hid (zag_any x hx w)
  clear hx
  by_cases h : Num.zag x < lo
  · rw [if_pos (.inl h)]
    go_enter Try.func78, Try.ntmps78
    go_wp2_with (go_at_call 77; ((with_reducible refine HZ.out.mono ?_); rintro e w' ⟨rfl, rfl⟩))
    go_ret2
    exact ⟨rfl, rfl⟩
  · have h' : lo ≤ Num.zag x := by omega
    by_cases h2 : hi < Num.zag x
    · rw [if_pos (.inr h2)]
      clear h
      go_enter Try.func78, Try.ntmps78
      go_wp2_with (go_at_call 77; ((with_reducible refine HZ.out.mono ?_); rintro e w' ⟨rfl, rfl⟩))
      go_ret2
      exact ⟨rfl, rfl⟩
    · rw [if_neg (fun hh => hh.elim h h2)]
      have h2' : Num.zag x ≤ hi := by omega
      clear h h2
      go_enter Try.func78, Try.ntmps78
      go_wp2_with (go_at_call 77; ((with_reducible refine HZ.out.mono ?_); rintro e w' ⟨rfl, rfl⟩))
      go_ret2
      exact ⟨rfl, rfl⟩
def has (x : Nat → Int) (n : Nat) (y : Int) : Bool := (List.range n).any fun i => x i == y
theorem has_succ (x : Nat → Int) (n : Nat) (y : Int) : has x (n + 1) y = (has x n y || x n == y) := by simp [has, List.range_succ]
theorem has_of {x : Nat → Int} {n : Nat} {y : Int} {k : Nat} (h : k < n) (e : x k = y) : has x n y = true := by
  unfold has; rw [List.any_eq_true]; exact ⟨k, List.mem_range.2 h, by simpa using e⟩
namespace Wire
/-- The fault of a count. -/
def cntC (s : ByteArray) (x n most : Int) : Int := if most < 0 ∨ most < x then 4 else if s.size - n < x then 10 else 0
end Wire
set_option maxHeartbeats 1000000 in
theorem cnt1_any (x n most : Int) (q r b : Nat) {s : ByteArray} {e0 : Int} {w : World} (h : PR w b s e0) (hx : U64 x) (hn : 0 ≤ n) (hns : n ≤ s.size) (hm : I64 most) (hq : w.cell? ⟨q, 0, none⟩ = some (.int .i64 most)) (hr : w.cell? ⟨r, 0, none⟩ = some (.pointer (some ⟨b, 0, none⟩))) :
    Calls Try.prog 76 #[.int .u64 x, .int .i64 n, .pointer (some ⟨q, 0, none⟩), .pointer (some ⟨r, 0, none⟩)] w fun e w' => e = .returned (.tuple #[.int .i64 n, .int .i64 (cntC s x n most)]) ∧ w = w' := by
  have c0 := h.c0
  have hsz := h.sz
  unfold maxLen at hsz
  have hx0 := hx.1
  have hx1 := hx.2
  have hm0 := hm.1
  have hm1 := hm.2
  clear h hx hm
  by_cases h1 : most < 0
  · have e1 : cntC s x n most = 4 := by unfold cntC; rw [if_pos (.inl h1)]
    rw [e1]
    go_enter Try.func76, Try.ntmps76
    go_wp2
    go_ret2
    exact ⟨rfl, rfl⟩
  · have h1' : 0 ≤ most := by omega
    clear h1
    by_cases h2 : most < x
    · have e1 : cntC s x n most = 4 := by unfold cntC; rw [if_pos (.inr h2)]
      rw [e1]
      go_enter Try.func76, Try.ntmps76
      go_wp2
      go_ret2
      exact ⟨rfl, rfl⟩
    · have h2' : x ≤ most := by omega
      by_cases h3 : s.size - n < x
      · have e1 : cntC s x n most = 10 := by unfold cntC; rw [if_neg (by omega), if_pos h3]
        rw [e1]
        clear h2
        go_enter Try.func76, Try.ntmps76
        go_wp2
        go_ret2
        exact ⟨rfl, rfl⟩
      · have e1 : cntC s x n most = 0 := by unfold cntC; rw [if_neg (by omega), if_neg h3]
        rw [e1]
        have h3' : x ≤ s.size - n := by omega
        clear h2 h3
        go_enter Try.func76, Try.ntmps76
        go_wp2
        go_ret2
        exact ⟨rfl, rfl⟩
end Go.Proofs.Ytbpakckiglgjfaa
