
/- The walks of what says whether a program has its form: 'reg', 'formed'. No condition but that numbers fit their kinds. -/
import Derived.Test.YtbpakckiglgjfaaCodeI
import Derived.Test.YtbpakckiglgjfaaWireA
import Derived.Deep.DeepCutAuto
import Derived.Deep.CutBlock
import Derived.Deep.RegionWith
namespace Go.Proofs.Ytbpakckiglgjfaa
open Go.RowKit Cd
set_option linter.unusedVariables false
theorem creg1_any (x : Int) (w : World) : Calls Try.prog 54 #[.int .i64 x] w fun e w' => e = .returned (.bool (!regB x)) ∧ w = w' := by
  by_cases h0 : x < 0
  · have e : regB x = false := by unfold regB; rw [Bool.and_eq_false_iff, decide_eq_false_iff_not]; omega
    rw [e]
    clear e
    go_enter Try.func54, Try.ntmps54
    go_wp2
    go_ret
    exact ⟨rfl, rfl⟩
  · have h0' : 0 ≤ x := by omega
    by_cases h1 : 16 < x
    · have e : regB x = false := by unfold regB; rw [Bool.and_eq_false_iff, decide_eq_false_iff_not, decide_eq_false_iff_not]; omega
      rw [e]
      clear e h0
      go_enter Try.func54, Try.ntmps54
      go_wp2
      go_ret
      exact ⟨rfl, rfl⟩
    · have e : regB x = true := by simp [regB]; omega
      have h1' : decide (16 < x) = false := decide_eq_false h1
      have h0'' : decide (x < 0) = false := decide_eq_false h0
      rw [e]
      clear e h0 h1
      go_enter Try.func54, Try.ntmps54
      go_wp2
      go_ret
      exact ⟨rfl, rfl⟩
def oddI (x : Nat → Int) (n : Nat) : Bool := (List.range n).any fun i => !regB (x i)
theorem oddI_succ (x : Nat → Int) (n : Nat) : oddI x (n + 1) = (oddI x n || !regB (x n)) := by simp [oddI, List.range_succ]
theorem oddI_of {x : Nat → Int} {n : Nat} {k : Nat} (h : k < n) (e : regB (x k) = false) : oddI x n = true := by
  unfold oddI; rw [List.any_eq_true]; exact ⟨k, List.mem_range.2 h, by simp [e]⟩
set_option maxRecDepth 100000 in
set_option maxHeartbeats 1000000 in
theorem cidxI_any {n : Nat} {x : Nat → Int} {w : World} {v : Value} (hv : Slic w v n fun i => .int .i64 (x i)) (hn : n < 1099511627776) :
    Calls Try.prog 73 #[v, .func (.func 54) #[] #[]] w fun e w' => (∃ r : Int, e = .returned (.int .i64 r) ∧ decide (0 ≤ r) = oddI x n) ∧ w = w' := by
  obtain ⟨p, cap, rfl, hS⟩ := hv
  have HS := Lib.hid hS
  clear hS
  go_enter Try.func73, Try.ntmps73
  go_wp2
  go_loopw [8] (fun u wr => (∃ i : Nat, i ≤ n ∧ u = .int .i64 i ∧ oddI x i = false) ∧ wr = w) (fun u _ => ((n : Int) - intOf u).toNat)
  case atStart => exact ⟨⟨0, by omega, rfl, rfl⟩, rfl⟩
  case round =>
    obtain ⟨⟨k, hk1, rfl, hno⟩, rfl⟩ := hrel
    by_cases hk : k < n
    · obtain ⟨g0, off, rfl, hg, hx⟩ := HS.out (by omega)
      have x0 : wr.cell? ⟨g0, off + k, none⟩ = some (.int .i64 (x k)) := hx k hk
      have HR := Lib.hid (creg1_any (x k) wr)
      clear hx
      cases he : regB (x k) with
      | false =>
        have hh : oddI x n = true := oddI_of hk he
        rw [he] at HR
        clear he
        go_wp2_with (go_at_call 54; ((with_reducible refine HR.out.mono ?_); rintro e w' ⟨rfl, rfl⟩))
        go_ret
        exact ⟨⟨k, rfl, by rw [hh]; simp⟩, rfl⟩
      | true =>
        have hs : oddI x (k + 1) = false := by rw [oddI_succ, hno, he]; rfl
        rw [he] at HR
        clear he
        go_wp2_with (go_at_call 54; ((with_reducible refine HR.out.mono ?_); rintro e w' ⟨rfl, rfl⟩))
        go_roundw
        case rel => exact ⟨⟨k + 1, by omega, rfl, hs⟩, by trivial⟩
        case measure => simp [intOf]; omega
    · have : k = n := by omega
      subst this
      go_wp2
      go_ret
      exact ⟨⟨-1, rfl, by rw [hno]; rfl⟩, rfl⟩
set_option maxHeartbeats 400000 in
theorem cconI_any {n : Nat} {x : Nat → Int} {w : World} {v : Value} (hv : Slic w v n fun i => .int .i64 (x i)) (hn : n < 1099511627776) :
    Calls Try.prog 53 #[v, .func (.func 54) #[] #[]] w fun e w' => e = .returned (.bool (oddI x n)) ∧ w = w' := by
  have HI := Lib.hid (cidxI_any hv hn)
  obtain ⟨p, cap, rfl, hS⟩ := hv
  clear hS
  go_enter Try.func53, Try.ntmps53
  go_wp2_with (go_at_call 73; ((with_reducible refine HI.out.mono ?_); rintro e w' ⟨⟨r, rfl, hr⟩, rfl⟩))
  go_ret
  exact ⟨by show Ending.returned (.bool _) = _; rw [← hr], rfl⟩
set_option maxHeartbeats 400000 in
theorem creg_any {n : Nat} {x : Nat → Int} {w : World} {v : Value} (hv : Slic w v n fun i => .int .i64 (x i)) (hn : n < 1099511627776) :
    Calls Try.prog 25 #[v] w fun e w' => e = .returned (.bool (!oddI x n)) ∧ w = w' := by
  have HI := Lib.hid (cconI_any hv hn)
  obtain ⟨p, cap, rfl, hS⟩ := hv
  clear hS
  cases hh : oddI x n with
  | true =>
    rw [hh] at HI
    go_enter Try.func25, Try.ntmps25
    go_wp2_with (go_at_call 53; ((with_reducible refine HI.out.mono ?_); rintro e w' ⟨rfl, rfl⟩))
    go_ret
    exact ⟨rfl, rfl⟩
  | false =>
    rw [hh] at HI
    go_enter Try.func25, Try.ntmps25
    go_wp2_with (go_at_call 53; ((with_reducible refine HI.out.mono ?_); rintro e w' ⟨rfl, rfl⟩))
    go_ret
    exact ⟨rfl, rfl⟩
theorem creg3_any {d a b : Int} {w : World} {g : Nat} {T : TypeId} (hb : Blk w g T #[.int .i64 d, .int .i64 a, .int .i64 b]) :
    Calls Try.prog 25 #[.slice (some ⟨g, 0, none⟩) 3 3] w fun e w' => e = .returned (.bool (regB d && (regB a && regB b))) ∧ w = w' := by
  have := creg_any (w := w) (v := .slice (some ⟨g, 0, none⟩) 3 3) (n := 3) (x := fun i => if i = 0 then d else if i = 1 then a else b) ⟨_, _, rfl, fun _ => ⟨g, 0, rfl, hb.lt, fun i hi => by
    have := hb.cell i
    rw [Nat.zero_add, this]
    have : i = 0 ∨ i = 1 ∨ i = 2 := by omega
    rcases this with rfl | rfl | rfl <;> rfl⟩⟩ (by decide)
  have e : (!oddI (fun i => if i = 0 then d else if i = 1 then a else b) 3) = (regB d && (regB a && regB b)) := by
    rw [oddI_succ, oddI_succ, oddI_succ]
    show (!(((false || !regB d) || !regB a) || !regB b)) = _
    cases regB d <;> cases regB a <;> cases regB b <;> rfl
  rw [e] at this
  exact this
theorem creg2_any {d a : Int} {w : World} {g : Nat} {T : TypeId} (hb : Blk w g T #[.int .i64 d, .int .i64 a]) :
    Calls Try.prog 25 #[.slice (some ⟨g, 0, none⟩) 2 2] w fun e w' => e = .returned (.bool (regB d && regB a)) ∧ w = w' := by
  have := creg_any (w := w) (v := .slice (some ⟨g, 0, none⟩) 2 2) (n := 2) (x := fun i => if i = 0 then d else a) ⟨_, _, rfl, fun _ => ⟨g, 0, rfl, hb.lt, fun i hi => by
    have := hb.cell i
    rw [Nat.zero_add, this]
    have : i = 0 ∨ i = 1 := by omega
    rcases this with rfl | rfl <;> rfl⟩⟩ (by decide)
  have e : (!oddI (fun i => if i = 0 then d else a) 2) = (regB d && regB a) := by
    rw [oddI_succ, oddI_succ]
    show (!((false || !regB d) || !regB a)) = _
    cases regB d <;> cases regB a <;> rfl
  rw [e] at this
  exact this
end Go.Proofs.Ytbpakckiglgjfaa
