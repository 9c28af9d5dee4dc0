/- The walks of the program's reader of bricks, second part: its methods. No condition but that numbers fit their kinds. -/
import Derived.Test.YtppkfpphefonoaaWireW
import Derived.Test.YtppkfpphefonoaaWireA
namespace Go.Proofs.Ytppkfpphefonoaa
open Go.RowKit Wire
set_option linter.unusedVariables false
/-! ### The checks -/
set_option maxHeartbeats 400000 in
theorem uint1_any (x n most : Int) (q : Nat) {w : World} (hq : w.cell? ⟨q, 0, none⟩ = some (.int .u64 most)) :
    Calls Try.prog 67 #[.int .u64 x, .int .i64 n, .pointer (some ⟨q, 0, none⟩)] w fun e w' => e = .returned (.tuple #[.int .i64 n, .int .i64 (if most < x then 9 else 0)]) ∧ w = w' := by
  by_cases h : most < x
  · rw [if_pos h]
    go_enter Try.func67, Try.ntmps67
    go_wp2
    go_ret2
    exact ⟨rfl, rfl⟩
  · rw [if_neg h]
    have h' : x ≤ most := by omega
    clear h
    go_enter Try.func67, Try.ntmps67
    go_wp2
    go_ret2
    exact ⟨rfl, rfl⟩
set_option maxHeartbeats 400000 in
theorem int1_any (x n lo hi : Int) (q r : Nat) {w : World} (hx : U64 x) (hq : w.cell? ⟨q, 0, none⟩ = some (.int .i64 lo)) (hr : w.cell? ⟨r, 0, none⟩ = some (.int .i64 hi)) :
    Calls Try.prog 69 #[.int .u64 x, .int .i64 n, .pointer (some ⟨q, 0, none⟩), .pointer (some ⟨r, 0, none⟩)] w fun e w' => e = .returned (.tuple #[.int .i64 n, .int .i64 (if Num.zag x < lo ∨ hi < Num.zag x then 9 else 0)]) ∧ w = w' := by
  have HZ := Lib.hid (zag_any x hx w)
  clear hx
  by_cases h : Num.zag x < lo
  · rw [if_pos (.inl h)]
    go_enter Try.func69, Try.ntmps69
    go_wp2_with (go_at_call 68; ((with_reducible refine HZ.out.mono ?_); rintro e w' ⟨rfl, rfl⟩))
    go_ret2
    exact ⟨rfl, rfl⟩
  · have h' : lo ≤ Num.zag x := by omega
    by_cases h2 : hi < Num.zag x
    · rw [if_pos (.inr h2)]
      clear h
      go_enter Try.func69, Try.ntmps69
      go_wp2_with (go_at_call 68; ((with_reducible refine HZ.out.mono ?_); rintro e w' ⟨rfl, rfl⟩))
      go_ret2
      exact ⟨rfl, rfl⟩
    · rw [if_neg (fun hh => hh.elim h h2)]
      have h2' : Num.zag x ≤ hi := by omega
      clear h h2
      go_enter Try.func69, Try.ntmps69
      go_wp2_with (go_at_call 68; ((with_reducible refine HZ.out.mono ?_); rintro e w' ⟨rfl, rfl⟩))
      go_ret2
      exact ⟨rfl, rfl⟩
def has (x : Nat → Int) (n : Nat) (y : Int) : Bool := (List.range n).any fun i => x i == y
theorem has_succ (x : Nat → Int) (n : Nat) (y : Int) : has x (n + 1) y = (has x n y || x n == y) := by simp [has, List.range_succ]
theorem has_of {x : Nat → Int} {n : Nat} {y : Int} {k : Nat} (h : k < n) (e : x k = y) : has x n y = true := by
  unfold has; rw [List.any_eq_true]; exact ⟨k, List.mem_range.2 h, by simpa using e⟩
set_option maxRecDepth 100000 in
set_option maxHeartbeats 1000000 in
theorem index_any {n : Nat} {x : Nat → Int} {w : World} {v : Value} (hv : Slic w v n fun i => .int .u64 (x i)) (hn : n < 1099511627776) (y : Int) :
    Calls Try.prog 85 #[v, .int .u64 y] w fun e w' => (∃ r : Int, e = .returned (.int .i64 r) ∧ decide (0 ≤ r) = has x n y) ∧ w = w' := by
  obtain ⟨p, cap, rfl, hS⟩ := hv
  have HS := Lib.hid hS
  clear hS
  go_enter Try.func85, Try.ntmps85
  go_wp2
  go_loopw [8] (fun u wr => (∃ i : Nat, i ≤ n ∧ u = .int .i64 i ∧ has x i y = false) ∧ wr = w) (fun u _ => ((n : Int) - intOf u).toNat)
  case atStart => exact ⟨⟨0, by omega, rfl, rfl⟩, rfl⟩
  case round =>
    obtain ⟨⟨k, hk1, rfl, hno⟩, rfl⟩ := hrel
    by_cases hk : k < n
    · obtain ⟨g0, off, rfl, hg, hx⟩ := HS.out (by omega)
      have x0 : wr.cell? ⟨g0, off + k, none⟩ = some (.int .u64 (x k)) := hx k hk
      clear hx
      by_cases he : y = x k
      · have hb : (y == x k) = true := by simpa using he
        have hh : has x n y = true := has_of hk he.symm
        clear he
        go_wp2
        go_ret
        exact ⟨⟨k, rfl, by rw [hh]; simp⟩, rfl⟩
      · have hb : (y == x k) = false := by simpa using he
        have hs : has x (k + 1) y = false := by rw [has_succ, hno]; simpa using fun e => he e.symm
        clear he
        go_wp2
        go_roundw
        case rel => exact ⟨⟨k + 1, by omega, rfl, hs⟩, by trivial⟩
        case measure => simp [intOf]; omega
    · have : k = n := by omega
      subst this
      go_wp2
      go_ret
      exact ⟨⟨-1, rfl, by rw [hno]; rfl⟩, rfl⟩
set_option maxHeartbeats 400000 in
theorem contains_any {n : Nat} {x : Nat → Int} {w : World} {v : Value} (hv : Slic w v n fun i => .int .u64 (x i)) (hn : n < 1099511627776) (y : Int) :
    Calls Try.prog 77 #[v, .int .u64 y] w fun e w' => e = .returned (.bool (has x n y)) ∧ w = w' := by
  have HI := Lib.hid (index_any hv hn y)
  obtain ⟨p, cap, rfl, hS⟩ := hv
  clear hS
  go_enter Try.func77, Try.ntmps77
  go_wp2_with (go_at_call 85; ((with_reducible refine HI.out.mono ?_); rintro e w' ⟨⟨r, rfl, hr⟩, rfl⟩))
  go_ret
  exact ⟨by show Ending.returned (.bool _) = _; rw [← hr], rfl⟩
set_option maxHeartbeats 400000 in
theorem tag1_any (x : Int) (m : Int) {n : Nat} {xs : Nat → Int} {w : World} {v : Value} (hv : Slic w v n fun i => .int .u64 (xs i)) (hn : n < 1099511627776) (q : Nat) (hq : w.cell? ⟨q, 0, none⟩ = some v) :
    Calls Try.prog 76 #[.int .u64 x, .int .i64 m, .pointer (some ⟨q, 0, none⟩)] w fun e w' => e = .returned (.tuple #[.int .i64 m, .int .i64 (if has xs n x = true then 0 else 8)]) ∧ w = w' := by
  have HC := Lib.hid (contains_any hv hn x)
  obtain ⟨p, cap, rfl, hS⟩ := hv
  clear hS
  cases hh : has xs n x with
  | true =>
    rw [hh] at HC
    rw [if_pos rfl]
    go_enter Try.func76, Try.ntmps76
    go_wp2_with (go_at_call 77; ((with_reducible refine HC.out.mono ?_); rintro e w' ⟨rfl, rfl⟩))
    go_ret2
    exact ⟨rfl, rfl⟩
  | false =>
    rw [hh] at HC
    rw [if_neg (by decide)]
    go_enter Try.func76, Try.ntmps76
    go_wp2_with (go_at_call 77; ((with_reducible refine HC.out.mono ?_); rintro e w' ⟨rfl, rfl⟩))
    go_ret2
    exact ⟨rfl, rfl⟩
namespace Wire
/-- The fault of a count. -/
def cntC (s : ByteArray) (x n most : Int) : Int := if most < 0 ∨ most < x then 4 else if s.size - n < x then 10 else 0
end Wire
set_option maxHeartbeats 1000000 in
theorem cnt1_any (x n most : Int) (q r b : Nat) {s : ByteArray} {e0 : Int} {w : World} (h : PR w b s e0) (hx : U64 x) (hn : 0 ≤ n) (hns : n ≤ s.size) (hm : I64 most) (hq : w.cell? ⟨q, 0, none⟩ = some (.int .i64 most)) (hr : w.cell? ⟨r, 0, none⟩ = some (.pointer (some ⟨b, 0, none⟩))) :
    Calls Try.prog 83 #[.int .u64 x, .int .i64 n, .pointer (some ⟨q, 0, none⟩), .pointer (some ⟨r, 0, none⟩)] w fun e w' => e = .returned (.tuple #[.int .i64 n, .int .i64 (cntC s x n most)]) ∧ w = w' := by
  have c0 := h.c0
  have hsz := h.sz
  unfold maxLen at hsz
  have hx0 := hx.1
  have hx1 := hx.2
  have hm0 := hm.1
  have hm1 := hm.2
  clear h hx hm
  by_cases h1 : most < 0
  · have e1 : cntC s x n most = 4 := by unfold cntC; rw [if_pos (.inl h1)]
    rw [e1]
    go_enter Try.func83, Try.ntmps83
    go_wp2
    go_ret2
    exact ⟨rfl, rfl⟩
  · have h1' : 0 ≤ most := by omega
    clear h1
    by_cases h2 : most < x
    · have e1 : cntC s x n most = 4 := by unfold cntC; rw [if_pos (.inr h2)]
      rw [e1]
      go_enter Try.func83, Try.ntmps83
      go_wp2
      go_ret2
      exact ⟨rfl, rfl⟩
    · have h2' : x ≤ most := by omega
      by_cases h3 : s.size - n < x
      · have e1 : cntC s x n most = 10 := by unfold cntC; rw [if_neg (by omega), if_pos h3]
        rw [e1]
        clear h2
        go_enter Try.func83, Try.ntmps83
        go_wp2
        go_ret2
        exact ⟨rfl, rfl⟩
      · have e1 : cntC s x n most = 0 := by unfold cntC; rw [if_neg (by omega), if_neg h3]
        rw [e1]
        have h3' : x ≤ s.size - n := by omega
        clear h2 h3
        go_enter Try.func83, Try.ntmps83
        go_wp2
        go_ret2
        exact ⟨rfl, rfl⟩
end Go.Proofs.Ytppkfpphefonoaa
