
/- slices.Sort at []uint64: it sorts. No condition but that the row is not too long. -/
import Derived.Test.YtfjadphgjjlhiaaSoD
namespace Go.Proofs.Ytfjadphgjjlhiaa
open Go.RowKit Sou
set_option linter.unusedVariables false
set_option linter.unusedSimpArgs false
set_option maxRecDepth 100000 in
theorem ins_nil (p : Option Addr) (cap : Nat) (w : World) : Calls Try.prog 45 #[.slice p 0 cap, .int .i64 0, .int .i64 0] w fun e w' => e = .returned (.tuple #[]) ∧ w' = w := by
  go_enter Try.func45, Try.ntmps45
  go_wp2_with fail
  go_loopw [6] (fun u wr => u = .int .i64 1 ∧ wr = w) (fun _ _ => 0)
  case atStart => exact ⟨rfl, rfl⟩
  case round =>
    obtain ⟨rfl, rfl⟩ := hrel
    go_wp2_with fail
    go_end0
    exact ⟨rfl, rfl⟩
set_option maxRecDepth 100000 in
theorem pdq_nil (p : Option Addr) (cap : Nat) (lim : Int) (w : World) : Calls Try.prog 43 #[.slice p 0 cap, .int .i64 0, .int .i64 0, .int .i64 lim] w fun e w' => e = .returned (.tuple #[]) ∧ w' = w := by
  go_enter Try.func43, Try.ntmps43
  go_wp2_with fail
  go_loopw [1, 2] (fun u v wr => u = .int .i64 0 ∧ v = .int .i64 0 ∧ wr = w) (fun _ _ _ => 0)
  case atStart => exact ⟨rfl, rfl, rfl⟩
  case round =>
    obtain ⟨rfl, rfl, rfl⟩ := hrel
    go_wp2_with (go_at_call 45; ((with_reducible refine (ins_nil _ _ _).mono ?_); rintro e w' ⟨rfl, rfl⟩))
    refine bodyPost_ret (results_none rfl _ _ _) rfl ?_
    exact ⟨rfl, rfl⟩
set_option maxRecDepth 100000 in
theorem sort_nil (p : Option Addr) (cap : Nat) (w : World) : Calls Try.prog 39 #[.slice p 0 cap] w fun e w' => e = .returned (.tuple #[]) ∧ w' = w := by
  have HB : Hid (∀ W : World, Calls Try.prog 44 #[.int .u64 0] W fun e w' => e = .returned (.int .i64 0) ∧ w' = W) := Lib.hid (fun W => bitsLen_u (w := W) (n := 0) (by decide))
  go_enter Try.func39, Try.ntmps39
  go_wp2_with (first | (go_at_call 44; ((with_reducible refine (HB.out _).mono ?_); rintro e w' ⟨rfl, rfl⟩)) | (go_at_call 43; ((with_reducible refine (pdq_nil _ _ _ _).mono ?_); rintro e w' ⟨rfl, rfl⟩)))
  go_end0
  exact ⟨rfl, rfl⟩
set_option maxRecDepth 100000 in
theorem sort_u {w : World} {g n cap : Nat} {d : Array Int} {tl : List Value} (h : UR w g d tl) (hn : d.size = n) (hs : n ≤ 1000000) :
    Calls Try.prog 39 #[.slice (some ⟨g, 0, none⟩) n cap] w (PdPost w g 0 n d tl) := by
  obtain ⟨lim, hlim⟩ : ∃ lim, lim = Go.Sort.bitsLen n := ⟨_, rfl⟩
  have hl : lim ≤ 1000 := by
    rw [hlim]
    exact Nat.le_trans ((Go.Sort.bitsLen_le_iff n 62).2 (by omega)) (by decide)
  have HB : Hid (∀ W : World, Calls Try.prog 44 #[.int .u64 (n : Int)] W fun e w' => e = .returned (.int .i64 (lim : Int)) ∧ w' = W) := Lib.hid (by rw [hlim]; exact fun W => bitsLen_u (by omega))
  have hp := pdq_u (g := g) (n := n) (cap := cap) (tl := tl) hs (n + 1) w 0 n lim d h hn (Nat.zero_le _) (Nat.le_refl _) (by omega) hl (Or.inl rfl)
  have HP : Hid (Calls Try.prog 43 #[.slice (some ⟨g, 0, none⟩) n cap, .int .i64 0, .int .i64 (n : Int), .int .i64 (lim : Int)] w (PdPost w g 0 n d tl)) := Lib.hid hp
  have e1 : IntKind.u64.wrap (n : Int) = (n : Int) := by clear hp; rw [IntKind.wrap_u64]; omega
  clear hp hl hlim h hn hs
  go_enter Try.func39, Try.ntmps39
  go_wp2_with (first | (go_at_call 44; ((with_reducible refine (HB.out _).mono ?_); rintro e w' ⟨rfl, rfl⟩)) | (go_at_call 43; ((with_reducible refine HP.out.mono ?_); rintro e w' ⟨rfl, hq⟩)))
  go_end0
  exact ⟨rfl, hq⟩
end Go.Proofs.Ytfjadphgjjlhiaa
