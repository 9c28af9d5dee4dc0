/- The document's example of leases comes true. No condition. -/
import Derived.Test.YtppkfpphefonoaaLeaseZ
namespace Go.Proofs.Ytppkfpphefonoaa
open Go.RowKit Lea
set_option linter.unusedVariables false
/-- What a row's value looks like, with no element or with some. -/
theorem row_shape {w : World} {base : Nat} {e : TypeId} {size : Nat} {v : Value} {n : Nat} {xs : List Value} (h : w.ownsRow base e size v n xs) :
    ∃ p cap, v = .slice p n cap ∧ (0 < n → ∃ g, p = some ⟨g, 0, none⟩ ∧ base ≤ g ∧ ∀ k : Nat, k < n * size → w.cell? ⟨g, k, none⟩ = xs[k]?) := by
  rcases h.2 with ⟨rfl, rfl⟩ | ⟨g, cap, cur, rfl, hb, hg, h1, h2, h3, h4⟩
  · exact ⟨none, 0, rfl, fun h => by omega⟩
  · refine ⟨_, cap, rfl, fun _ => ⟨g, rfl, hb, fun k hk => ?_⟩⟩
    rw [← h4, List.getElem?_take_of_lt hk]
    simp [World.cell?, hg]
theorem below_only {B b : Nat} {w w1 w2 : World} (h : Below B w w1) (ho : Only (· = b) w1 w2) (hb : B ≤ b) (hB : B ≤ w.heap.size) : Below B w w2 :=
  ⟨ho.os.trans h.os, ho.tape.trans h.tape, ho.output.trans h.output, Nat.le_trans h.size ho.size, fun k hk => (ho.block k (by have := h.size; omega) (by omega)).trans (h.block k hk)⟩
namespace Lea
def k1 : List Seat := zeros.set 3 ⟨3, 1, 10, true, 1⟩
def k2 : List Seat := zeros.set 3 ⟨3, 1, 15, true, 1⟩
def k3 : List Seat := zeros.set 3 ⟨3, 1, 15, false, 1⟩
def k4 : List Seat := zeros.set 3 ⟨3, 2, 30, true, 2⟩
def k5 : List Seat := zeros.set 3 ⟨3, 3, 32, true, 3⟩
end Lea
section
variable {b : Nat} {w : World}
theorem wk_join1 (h : PL w b 10 zeros) : Calls Try.prog 13 #[.pointer (some ⟨b, 0, none⟩), .int .i64 3, .int .u64 1, .int .i64 0] w (JoinPost b 10 zeros w false 0 k1) := join_any h 3 1 0
theorem wk_beat (h : PL w b 10 k1) : Calls Try.prog 15 #[.pointer (some ⟨b, 0, none⟩), .int .i64 3, .int .u64 1, .int .i64 5] w (CodePost b 10 w 0 k2) := beat_any h 3 1 5
theorem wk_exp1 (h : PL w b 10 k2) : Calls Try.prog 17 #[.pointer (some ⟨b, 0, none⟩), .int .i64 14] w (ExpPost b 10 k2 w 0 [] k2) := expire_any h 14
theorem wk_exp2 (h : PL w b 10 k2) : Calls Try.prog 17 #[.pointer (some ⟨b, 0, none⟩), .int .i64 15] w (ExpPost b 10 k2 w 0 [3] k3) := expire_any h 15
theorem wk_join2 (h : PL w b 10 k3) : Calls Try.prog 13 #[.pointer (some ⟨b, 0, none⟩), .int .i64 3, .int .u64 2, .int .i64 20] w (JoinPost b 10 k3 w false 0 k4) := join_any h 3 2 20
theorem wk_join3 (h : PL w b 10 k4) : Calls Try.prog 13 #[.pointer (some ⟨b, 0, none⟩), .int .i64 3, .int .u64 1, .int .i64 21] w (JoinPost b 10 k4 w false 230 k4) := join_any h 3 1 21
theorem wk_join4 (h : PL w b 10 k4) : Calls Try.prog 13 #[.pointer (some ⟨b, 0, none⟩), .int .i64 3, .int .u64 3, .int .i64 22] w (JoinPost b 10 k4 w true 0 k5) := join_any h 3 3 22
theorem wk_alive (h : PL w b 10 k5) : Calls Try.prog 24 #[.pointer (some ⟨b, 0, none⟩), .int .i64 3] w (AlivePost w 3 true) := alive_any h 3
end
theorem cell_only {w w' : World} {B b g : Nat} {v : Value} (ho : Only (· = b) w w') (hc : w.cell? ⟨g, 0, none⟩ = some v) (hne : g ≠ b) : w'.cell? ⟨g, 0, none⟩ = some v := by
  have hlt : g < w.heap.size := by
    rcases Nat.lt_or_ge g w.heap.size with h | h
    · exact h
    · simp [World.cell?, Array.getElem?_eq_none h] at hc
  rw [← hc]; simp only [World.cell?]; rw [ho.block g hlt hne]
set_option maxRecDepth 100000 in
set_option maxHeartbeats 4000000 in
theorem works_any (w : World) : Calls Try.prog 11 #[] w fun e w' => e = .returned (.bool true) ∧ Below w.heap.size w w' := by
  have hrfl := Below.refl w.heap.size w
  go_enter Try.func11, Try.ntmps11
  go_wp2_with (first | (go_at_call 12; ((with_reducible refine (new_good 10 (by decide) (by decide)).mono ?_); rintro e w1 ⟨rfl, h, hb1⟩; have H0 := Lib.hid h; clear h)) | (go_at_call 13; ((with_reducible refine (wk_join1 H0.out).mono ?_); rintro e w2 ⟨rfl, h, o2⟩; have H1 := Lib.hid h; clear h)) | (go_at_call 15; ((with_reducible refine (wk_beat H1.out).mono ?_); rintro e w3 ⟨rfl, h, o3⟩; have H2 := Lib.hid h; clear h)) | (go_at_call 17; ((with_reducible refine (wk_exp1 H2.out).mono ?_); rintro e w4 ⟨v, rfl, own, h, o4⟩; have H3 := Lib.hid h; clear h; obtain ⟨p, cap, rfl, s4⟩ := row_shape own; clear own)))
  go_wp2_with (first | (go_at_call 17; ((with_reducible refine (wk_exp2 H3.out).mono ?_); rintro e w5 ⟨v, rfl, own, h, o5⟩; have H4 := Lib.hid h; clear h; obtain ⟨p, cap, rfl, s5⟩ := row_shape own; clear own)))
  obtain ⟨g, rfl, hg, hc⟩ := s5 (by decide)
  have hc0 := hc 0 (by decide)
  have hsz : g ≠ w.heap.size := by have := hb1.size; have := o2.size; have := o3.size; have := o4.size; have := H0.out.blk.lt; omega
  go_wp2_with (first | (go_at_call 13; ((with_reducible refine (wk_join2 H4.out).mono ?_); rintro e w6 ⟨rfl, h, o6⟩; have H5 := Lib.hid h; clear h)) | (go_at_call 13; ((with_reducible refine (wk_join3 H5.out).mono ?_); rintro e w7 ⟨rfl, h, o7⟩; have H6 := Lib.hid h; clear h)) | (go_at_call 13; ((with_reducible refine (wk_join4 H6.out).mono ?_); rintro e w8 ⟨rfl, h, o8⟩; have H7 := Lib.hid h; clear h)))
  have hc8 : w8.cell? ⟨g, 0, none⟩ = some (.int .i64 3) := cell_only (B := 0) o8 (cell_only (B := 0) o7 (cell_only (B := 0) o6 hc0 hsz) hsz) hsz
  clear hc hc0
  go_wp2_with (first | (go_at_call 24; ((with_reducible refine (wk_alive H7.out).mono ?_); rintro e w9 ⟨rfl, rfl⟩)))
  go_ret
  refine ⟨rfl, ?_⟩
  have hB := Nat.le_refl w.heap.size
  exact below_only (below_only (below_only (below_only (below_only (below_only (below_only hb1 o2 hB hB) o3 hB hB) o4 hB hB) o5 hB hB) o6 hB hB) o7 hB hB) o8 hB hB
end Go.Proofs.Ytppkfpphefonoaa
