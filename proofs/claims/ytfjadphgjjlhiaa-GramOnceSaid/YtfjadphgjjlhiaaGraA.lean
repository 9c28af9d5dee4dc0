
/- The walks of a net's New, may, one and put. No condition but that the net is one. -/
import Derived.Test.YtfjadphgjjlhiaaGraX
import Derived.Test.YtfjadphgjjlhiaaRes
namespace Go.Proofs.Ytfjadphgjjlhiaa
open Go.RowKit Go.Maps Gr Sok
set_option linter.unusedVariables false
set_option linter.unusedSimpArgs false
namespace Gr
def bad (a : Int) : Bool := decide (a < 0) || decide (1024 ≤ a)
/-- A row of ints. -/
def Pl (w : World) (p : Option Addr) (xs : List Int) : Prop := (xs = [] ∨ ∃ g o, p = some ⟨g, o, none⟩ ∧ ∀ i, i < xs.length → w.cell? ⟨g, o + i, none⟩ = some (.int .i64 xs[i]!))
end Gr
set_option maxRecDepth 100000 in
theorem mayc_any (a : Int) (w : World) : Calls Try.prog 37 #[.int .i64 a] w fun e w' => e = .returned (.bool (bad a)) ∧ w' = w := by
  by_cases h1 : a < 0
  · have hb : bad a = true := by simp [bad, h1]
    go_enter Try.func37, Try.ntmps37
    go_wp2_with fail
    go_ret
    first | exact ⟨rfl, rfl⟩ | (rw [hb]; exact ⟨rfl, rfl⟩)
  · by_cases h2 : 1024 ≤ a
    · have hb : bad a = true := by simp [bad, h2]
      go_enter Try.func37, Try.ntmps37
      go_wp2_with fail
      go_ret
      first | exact ⟨rfl, rfl⟩ | (rw [hb]; exact ⟨rfl, rfl⟩)
    · have hb : bad a = false := by simp [bad]; omega
      go_enter Try.func37, Try.ntmps37
      go_wp2_with fail
      go_ret
      first | exact ⟨rfl, rfl⟩ | (rw [hb]; exact ⟨rfl, rfl⟩)
set_option maxRecDepth 100000 in
set_option maxHeartbeats 1000000 in
theorem index_any {w : World} {p : Option Addr} {n cap : Nat} {xs : List Int} {B : Bool} (hB : xs.any bad = B) (hp : Pl w p xs) (hn : xs.length = n) (hm : n ≤ 1000000) :
    Calls Try.prog 41 #[.slice p n cap, .func (.func 37) #[] #[]] w fun e w' => (∃ r : Int, e = .returned (.int .i64 r) ∧ (0 ≤ r ↔ B = true)) ∧ w' = w := by
  have HP := Lib.hid hp
  have HN := Lib.hid (And.intro hn hm)
  have HBB := Lib.hid hB
  clear hp hn hm hB
  go_enter Try.func41, Try.ntmps41
  go_wp2_with fail
  go_loopw [8] (fun u wr => ∃ i : Nat, u = .int .i64 i ∧ i ≤ n ∧ (xs.take i).any bad = false ∧ wr = w) (fun u _ => ((n : Int) - intOf u).toNat)
  case atStart => exact ⟨0, rfl, Nat.zero_le _, rfl, rfl⟩
  case round =>
    obtain ⟨i, rfl, hi, hnone, rfl⟩ := hrel
    have HI := Lib.hid (And.intro hi hnone)
    clear hi hnone
    by_cases hin : i < n
    · have hin' : (i : Int) < (n : Int) := by omega
      have hi0 : (0 : Int) ≤ (i : Int) := by omega
      have hil : i < xs.length := by have := HN.out; omega
      obtain ⟨g, o, rfl, hc⟩ : ∃ g o, p = some ⟨g, o, none⟩ ∧ ∀ i, i < xs.length → wr.cell? ⟨g, o + i, none⟩ = some (.int .i64 xs[i]!) := by
        rcases HP.out with h | h
        · rw [h] at hil; exact absurd hil (Nat.not_lt_zero _)
        · exact h
      have x0 := hc i hil
      obtain ⟨x, hx⟩ : ∃ x, x = xs[i]! := ⟨_, rfl⟩
      rw [← hx] at x0
      have htake : (xs.take (i + 1)).any bad = ((xs.take i).any bad || bad x) := by
        rw [List.take_succ_eq_append_getElem hil, List.any_append, hx, getElem!_pos xs i hil]; simp
      have HTK := Lib.hid htake
      have HLN := Lib.hid hil
      have HX := Lib.hid hx
      clear hc htake hil hx hin
      have HMC := Lib.hid (mayc_any x wr)
      have HE : Hid (wrap64 ((i : Int) + 1) = ((i + 1 : Nat) : Int)) := Lib.hid (Sou.w64n rfl (by have := HN.out; have := HLN.out; omega))
      generalize bad x = q at *
      cases q with
      | true =>
        go_wp2_with (go_at_call 37; ((with_reducible refine HMC.out.mono ?_); rintro e w' ⟨rfl, rfl⟩))
        go_ret
        have hB2 : B = true := by
          have ht := HTK.out
          rw [Bool.or_true] at ht
          rw [← HBB.out]
          rw [List.any_eq_true] at ht ⊢
          obtain ⟨y, hy, hb⟩ := ht
          exact ⟨y, List.mem_of_mem_take hy, hb⟩
        exact ⟨⟨_, rfl, fun _ => hB2, fun _ => by omega⟩, rfl⟩
      | false =>
        go_wp2_with (go_at_call 37; ((with_reducible refine HMC.out.mono ?_); rintro e w' ⟨rfl, rfl⟩))
        go_roundw
        case rel => first | exact ⟨i + 1, rfl, by have := HN.out; have := HLN.out; omega, by rw [HTK.out, HI.out.2]; rfl, by first | rfl | trivial⟩ | (rw [HE.out]; exact ⟨i + 1, rfl, by have := HN.out; have := HLN.out; omega, by rw [HTK.out, HI.out.2]; rfl, by first | rfl | trivial⟩)
        case measure => first | (simp [intOf]; omega) | (rw [HE.out]; simp [intOf]; omega)
    · have hin' : ¬ (i : Int) < (n : Int) := by omega
      have hall : xs.any bad = false := by
        have := HI.out.2
        rwa [List.take_of_length_le (by have := HN.out; omega)] at this
      have HA := Lib.hid hall
      clear hall hin
      go_wp2_with fail
      go_ret
      have hB2 : B = false := by rw [← HBB.out]; exact HA.out
      exact ⟨⟨_, rfl, fun h => absurd h (by decide), fun h => by rw [hB2] at h; cases h⟩, rfl⟩
set_option maxRecDepth 100000 in
theorem contains_any {w : World} {p : Option Addr} {n cap : Nat} {xs : List Int} (hp : Pl w p xs) (hn : xs.length = n) (hm : n ≤ 1000000) :
    Calls Try.prog 36 #[.slice p n cap, .func (.func 37) #[] #[]] w fun e w' => e = .returned (.bool (xs.any bad)) ∧ w' = w := by
  have HC := Lib.hid (index_any (cap := cap) rfl hp hn hm)
  clear hp hn hm
  generalize xs.any bad = B at *
  go_enter Try.func36, Try.ntmps36
  go_wp2_with (go_at_call 41; ((with_reducible refine HC.out.mono ?_); rintro e w' ⟨⟨r, rfl, hr⟩, rfl⟩))
  go_ret
  refine ⟨?_, rfl⟩
  congr 2
end Go.Proofs.Ytfjadphgjjlhiaa
