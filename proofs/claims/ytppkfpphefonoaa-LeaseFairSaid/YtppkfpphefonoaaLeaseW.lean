/- The walks of the program's leases. No condition but that numbers fit their kinds. -/
import Derived.Test.YtppkfpphefonoaaRows
import Derived.Test.YtppkfpphefonoaaLease
namespace Go.Proofs.Ytppkfpphefonoaa
open Go.RowKit
set_option linter.unusedVariables false
namespace Lea
def okW (n : Int) : Bool := decide (1 ≤ n) && decide (n ≤ 32)
def okT (t : Int) : Bool := decide (0 ≤ t) && decide (t ≤ 17592186044416)
theorem okW_t {n : Int} (h : okW n = true) : 1 ≤ n ∧ n ≤ 32 := by simpa [okW] using h
theorem okT_t {n : Int} (h : okT n = true) : 0 ≤ n ∧ n ≤ 17592186044416 := by simpa [okT] using h
end Lea
open Lea
set_option maxHeartbeats 400000 in
theorem worker_any (n : Int) (w : World) : Calls Try.prog 53 #[.int .i64 n] w fun e w' => e = .returned (.bool (okW n)) ∧ w = w' := by
  by_cases h1 : 1 ≤ n
  · by_cases h2 : n ≤ 32
    · have h : okW n = true := by simp [okW, h1, h2]
      rw [h]
      go_enter Try.func53, Try.ntmps53
      go_wp2
      go_ret
      exact ⟨rfl, rfl⟩
    · have h : okW n = false := by simp [okW, h2]
      rw [h]
      have h3 : decide (n ≤ 32) = false := by simpa using h2
      go_enter Try.func53, Try.ntmps53
      go_wp2
      go_ret
      exact ⟨rfl, rfl⟩
  · have h : okW n = false := by simp [okW, h1]
    rw [h]
    have h3 : decide (1 ≤ n) = false := by simpa using h1
    go_enter Try.func53, Try.ntmps53
    go_wp2
    go_ret
    exact ⟨rfl, rfl⟩
set_option maxHeartbeats 400000 in
theorem time_any (n : Int) (w : World) : Calls Try.prog 54 #[.int .i64 n] w fun e w' => e = .returned (.bool (okT n)) ∧ w = w' := by
  by_cases h1 : 0 ≤ n
  · by_cases h2 : n ≤ 17592186044416
    · have h : okT n = true := by simp [okT, h1, h2]
      rw [h]
      go_enter Try.func54, Try.ntmps54
      go_wp2
      go_ret
      exact ⟨rfl, rfl⟩
    · have h : okT n = false := by simp [okT, h2]
      rw [h]
      have h3 : decide (n ≤ 17592186044416) = false := by simpa using h2
      go_enter Try.func54, Try.ntmps54
      go_wp2
      go_ret
      exact ⟨rfl, rfl⟩
  · have h : okT n = false := by simp [okT, h1]
    rw [h]
    have h3 : decide (0 ≤ n) = false := by simpa using h1
    go_enter Try.func54, Try.ntmps54
    go_wp2
    go_ret
    exact ⟨rfl, rfl⟩
set_option maxHeartbeats 400000 in
theorem rworker_any (n : Int) (w : World) : Calls Try.prog 25 #[.int .i64 n] w fun e w' => e = .returned (.bool (okW n)) ∧ w = w' := by
  by_cases h1 : 1 ≤ n
  · by_cases h2 : n ≤ 32
    · have h : okW n = true := by simp [okW, h1, h2]
      rw [h]
      go_enter Try.func25, Try.ntmps25
      go_wp2
      go_ret
      exact ⟨rfl, rfl⟩
    · have h : okW n = false := by simp [okW, h2]
      rw [h]
      have h3 : decide (n ≤ 32) = false := by simpa using h2
      go_enter Try.func25, Try.ntmps25
      go_wp2
      go_ret
      exact ⟨rfl, rfl⟩
  · have h : okW n = false := by simp [okW, h1]
    rw [h]
    have h3 : decide (1 ≤ n) = false := by simpa using h1
    go_enter Try.func25, Try.ntmps25
    go_wp2
    go_ret
    exact ⟨rfl, rfl⟩
set_option maxHeartbeats 400000 in
theorem rnow_any (n : Int) (w : World) : Calls Try.prog 55 #[.int .i64 n] w fun e w' => e = .returned (.bool (okT n)) ∧ w = w' := by
  by_cases h1 : 0 ≤ n
  · by_cases h2 : n ≤ 17592186044416
    · have h : okT n = true := by simp [okT, h1, h2]
      rw [h]
      go_enter Try.func55, Try.ntmps55
      go_wp2
      go_ret
      exact ⟨rfl, rfl⟩
    · have h : okT n = false := by simp [okT, h2]
      rw [h]
      have h3 : decide (n ≤ 17592186044416) = false := by simpa using h2
      go_enter Try.func55, Try.ntmps55
      go_wp2
      go_ret
      exact ⟨rfl, rfl⟩
  · have h : okT n = false := by simp [okT, h1]
    rw [h]
    have h3 : decide (0 ≤ n) = false := by simpa using h1
    go_enter Try.func55, Try.ntmps55
    go_wp2
    go_ret
    exact ⟨rfl, rfl⟩

/-- The program's leases lie in block b. -/
structure PL (w : World) (b : Nat) (len : Int) (l : List Seat) : Prop where
  blk : Blk w b 98 (cells len l)
  n : l.length = 33
  len1 : 1 ≤ len
  len2 : len ≤ 4294967296
set_option maxHeartbeats 400000 in
theorem made_any {b : Nat} {len : Int} {l : List Seat} {w : World} (h : PL w b len l) : Calls Try.prog 52 #[.pointer (some ⟨b, 0, none⟩)] w fun e w' => e = .returned (.bool true) ∧ w = w' := by
  have c0 : w.cell? ⟨b, 0, none⟩ = some (.int .i64 len) := h.blk.cell 0
  have h1 : decide (0 < len) = true := by have := h.len1; simp; omega
  clear h
  go_enter Try.func52, Try.ntmps52
  go_wp2
  go_ret
  exact ⟨rfl, rfl⟩
set_option maxHeartbeats 400000 in
theorem made_nil {w : World} : Calls Try.prog 52 #[.pointer none] w fun e w' => e = .returned (.bool false) ∧ w = w' := by
  go_enter Try.func52, Try.ntmps52
  go_wp2
  go_ret
  exact ⟨rfl, rfl⟩
theorem PL.cell {w : World} {b : Nat} {len : Int} {l : List Seat} (h : PL w b len l) {k : Nat} (hk : k < 33) (j : Nat) (hj : j < 5) : w.cell? ⟨b, 1 + k * 5 + j, none⟩ = (seatL (l[k]'(by have := h.n; omega)))[j]? := by
  rw [h.blk.cell, cells_get (by have := h.n; omega) hj]
/-- What Join answers, and leaves. -/
def joinB (len : Int) (l : List Seat) (n inc now : Int) : Bool := okW n && !(inc == 0) && okT now
def JoinPost (b : Nat) (len : Int) (l : List Seat) (w : World) (r : Bool) (c : Int) (l' : List Seat) (e : Ending) (w' : World) : Prop :=
  e = .returned (.tuple #[.bool r, .int .i64 c]) ∧ PL w' b len l' ∧ Only (· = b) w w'
set_option maxHeartbeats 1000000 in
theorem join_bad {b : Nat} {len : Int} {l : List Seat} {w : World} (h : PL w b len l) (n inc now : Int) (hb : joinB len l n inc now = false) :
    Calls Try.prog 13 #[.pointer (some ⟨b, 0, none⟩), .int .i64 n, .int .u64 inc, .int .i64 now] w (JoinPost b len l w false 2 l) := by
  have HH := Lib.hid h
  by_cases h1 : okW n = true
  · by_cases h2 : inc = 0
    · subst h2
      clear h hb
      go_enter Try.func13, Try.ntmps13
      go_wp2_with (first | (go_at_call 52; ((with_reducible refine (made_any HH.out).mono ?_); rintro e w' ⟨rfl, rfl⟩)) | (go_at_call 53; ((with_reducible refine (worker_any _ _).mono ?_); rintro e w' ⟨rfl, rfl⟩)) | (go_at_call 54; ((with_reducible refine (time_any _ _).mono ?_); rintro e w' ⟨rfl, rfl⟩)))
      go_ret2
      exact ⟨rfl, HH.out, Only.refl _ _⟩
    · have h2' : (inc == 0) = false := by simpa using h2
      have h3 : okT now = false := by simpa [joinB, h1, h2'] using hb
      clear h hb h2
      go_enter Try.func13, Try.ntmps13
      go_wp2_with (first | (go_at_call 52; ((with_reducible refine (made_any HH.out).mono ?_); rintro e w' ⟨rfl, rfl⟩)) | (go_at_call 53; ((with_reducible refine (worker_any _ _).mono ?_); rintro e w' ⟨rfl, rfl⟩)) | (go_at_call 54; ((with_reducible refine (time_any _ _).mono ?_); rintro e w' ⟨rfl, rfl⟩)))
      go_ret2
      exact ⟨rfl, HH.out, Only.refl _ _⟩
  · have h1' : okW n = false := by simpa using h1
    clear h hb h1
    go_enter Try.func13, Try.ntmps13
    go_wp2_with (first | (go_at_call 52; ((with_reducible refine (made_any HH.out).mono ?_); rintro e w' ⟨rfl, rfl⟩)) | (go_at_call 53; ((with_reducible refine (worker_any _ _).mono ?_); rintro e w' ⟨rfl, rfl⟩)) | (go_at_call 54; ((with_reducible refine (time_any _ _).mono ?_); rintro e w' ⟨rfl, rfl⟩)))
    go_ret2
    exact ⟨rfl, HH.out, Only.refl _ _⟩

theorem PL.frozen {w : World} {b : Nat} {len : Int} {l : List Seat} (h : PL w b len l) (o : Nat) : w.frozen? ⟨b, o, none⟩ = false := h.blk.frozen o
set_option maxHeartbeats 1000000 in
theorem join_old {b : Nat} {len : Int} {l : List Seat} {w : World} (h : PL w b len l) (k : Nat) (hk : k < 33) (inc now : Int) (hb : joinB len l k inc now = true) (s : Seat) (hs : l[k]'(by have := h.n; omega) = s) (ho : inc < s.seen) :
    Calls Try.prog 13 #[.pointer (some ⟨b, 0, none⟩), .int .i64 k, .int .u64 inc, .int .i64 now] w (JoinPost b len l w false 230 l) := by
  have HH := Lib.hid h
  simp only [joinB, Bool.and_eq_true, Bool.not_eq_true'] at hb
  obtain ⟨⟨h1, h2⟩, h3⟩ := hb
  have c4 : w.cell? ⟨b, 1 + k * 5 + 4, none⟩ = some (.int .u64 s.seen) := by rw [h.cell hk 4 (by omega), hs]; rfl
  clear h hs
  go_enter Try.func13, Try.ntmps13
  go_wp2_with (first | (go_at_call 52; ((with_reducible refine (made_any HH.out).mono ?_); rintro e w' ⟨rfl, rfl⟩)) | (go_at_call 53; ((with_reducible refine (worker_any _ _).mono ?_); rintro e w' ⟨rfl, rfl⟩)) | (go_at_call 54; ((with_reducible refine (time_any _ _).mono ?_); rintro e w' ⟨rfl, rfl⟩)))
  go_ret2
  exact ⟨rfl, HH.out, Only.refl _ _⟩

theorem new_PL {w : World} {b : Nat} {len : Int} {l : List Seat} (h : PL w b len l) {k : Nat} (hk : k < 33) (n inc til : Int) (al : Bool) (seen : Int) {w5 : World}
    (e : w5 = ((((w.setCell ⟨b, 1 + k * 5, none⟩ (.int .i64 n)).setCell ⟨b, 1 + k * 5 + 1, none⟩ (.int .u64 inc)).setCell ⟨b, 1 + k * 5 + 2, none⟩ (.int .i64 til)).setCell ⟨b, 1 + k * 5 + 3, none⟩ (.bool al)).setCell ⟨b, 1 + k * 5 + 4, none⟩ (.int .u64 seen)) :
    PL w5 b len (l.set k ⟨n, inc, til, al, seen⟩) := by
  subst e
  have hn := h.n
  refine ⟨?_, by simpa using hn, h.len1, h.len2⟩
  rw [← cells_store (by omega)]
  exact ((((h.blk.set _ _).set _ _).set _ _).set _ _).set _ _
set_option maxHeartbeats 1000000 in
theorem join_new {b : Nat} {len : Int} {l : List Seat} {w : World} (h : PL w b len l) (k : Nat) (hk : k < 33) (inc now : Int) (hb : joinB len l k inc now = true) (s : Seat) (hs : l[k]'(by have := h.n; omega) = s) (ho : s.seen ≤ inc) :
    Calls Try.prog 13 #[.pointer (some ⟨b, 0, none⟩), .int .i64 k, .int .u64 inc, .int .i64 now] w (JoinPost b len l w (s.alive && decide (s.inc < inc)) 0 (l.set k ⟨k, inc, now + len, true, inc⟩)) := by
  have HH := Lib.hid h
  simp only [joinB, Bool.and_eq_true, Bool.not_eq_true'] at hb
  obtain ⟨⟨h1, h2⟩, h3⟩ := hb
  have c0 : w.cell? ⟨b, 0, none⟩ = some (.int .i64 len) := h.blk.cell 0
  have c10 : w.cell? ⟨b, 1 + k * 5, none⟩ = some (.int .i64 s.w) := by have := h.cell hk 0 (by omega); rw [hs] at this; exact this
  have c1 : w.cell? ⟨b, 1 + k * 5 + 1, none⟩ = some (.int .u64 s.inc) := by rw [h.cell hk 1 (by omega), hs]; rfl
  have c2 : w.cell? ⟨b, 1 + k * 5 + 2, none⟩ = some (.int .i64 s.til) := by rw [h.cell hk 2 (by omega), hs]; rfl
  have c3 : w.cell? ⟨b, 1 + k * 5 + 3, none⟩ = some (.bool s.alive) := by rw [h.cell hk 3 (by omega), hs]; rfl
  have c4 : w.cell? ⟨b, 1 + k * 5 + 4, none⟩ = some (.int .u64 s.seen) := by rw [h.cell hk 4 (by omega), hs]; rfl
  have hf : ∀ o, w.frozen? ⟨b, o, none⟩ = false := h.frozen
  have hl1 := h.len1
  have hl2 := h.len2
  have ht := okT_t h3
  have ht1 := ht.1
  have ht2 := ht.2
  clear h ht hs
  go_enter Try.func13, Try.ntmps13
  go_wp2_with (first | (go_at_call 52; ((with_reducible refine (made_any HH.out).mono ?_); rintro e w' ⟨rfl, rfl⟩)) | (go_at_call 53; ((with_reducible refine (worker_any _ _).mono ?_); rintro e w' ⟨rfl, rfl⟩)) | (go_at_call 54; ((with_reducible refine (time_any _ _).mono ?_); rintro e w' ⟨rfl, rfl⟩)))
  all_goals go_ret2
  all_goals refine ⟨?_, ?_, ?_⟩
  all_goals first | (exact new_PL HH.out hk _ _ _ _ _ rfl) | exact (Only.refl _ _).set1.set1.set1.set1.set1 | skip
  · rename_i ha; rw [ha]; rfl
  · rename_i ha; rw [eq_false_of_ne_true ha]; rfl

end Go.Proofs.Ytppkfpphefonoaa
