
/- The walks of 'of' and 'has'. No condition. -/
import Derived.Test.YtbpakckiglgjfaaCodeH
namespace Go.Proofs.Ytbpakckiglgjfaa
open Go.RowKit Cd Go.Maps
set_option linter.unusedVariables false
theorem only_of_grown {b : Nat} {w w' : World} (h : w.grownBy w' (some b)) : Only (· = b) w w' := ⟨h.os, h.tape, h.output, h.size, fun i hi hne => h.block i hi (fun e => hne (by injection e))⟩
def OfRel (w1 : World) (b N : Nat) (D : DU) (xs : List Int) (d a b' n : Bool) (u : Value) (wr : World) : Prop :=
  ∃ i : Nat, i ≤ xs.length ∧ u = .int .i64 i ∧ PM wr b (N + i) (st D (xs.take i) d a b' n) ∧ Only (· = b) w1 wr
def OfPost (w : World) (b N : Nat) (D : DU) (xs : List Int) (d a b' n : Bool) (e : Ending) (w' : World) : Prop := e = .returned (.tuple #[]) ∧ PM w' b (N + xs.length) (st D xs d a b' n) ∧ Only (· = b) w w'
set_option maxRecDepth 100000 in
set_option maxHeartbeats 1000000 in
theorem of_any {w : World} {b N : Nat} {D : DU} (h : PM w b N D) (hN : N ≤ 1000) (d a b' n : Bool) (xs : List Int) (hx : ∀ x ∈ xs, U8 x) (hl : xs.length ≤ 100) {g : Nat} {T : TypeId} (hg : Blk w g T (xs.map (Value.int .u8)).toArray) (hne : g ≠ b) :
    Calls Try.prog 68 #[.agg #[.bool d, .bool a, .bool b', .bool n], .map (some b), .slice (some ⟨g, 0, none⟩) xs.length xs.length] w (OfPost w b N D xs d a b' n) := by
  have H0 := Lib.hid (h.alloc (.cells #[.bool d, .bool a, .bool b', .bool n] 78))
  have HG := Lib.hid (hg.alloc (.cells #[.bool d, .bool a, .bool b', .bool n] 78))
  have HT := Lib.hid (Blk.new w 78 #[.bool d, .bool a, .bool b', .bool n])
  have HX := Lib.hid hx
  have HO := Lib.hid ((Only.refl (· = b) w).alloc (.cells #[.bool d, .bool a, .bool b', .bool n] 78))
  have hlt := h.lt
  clear h hg hx
  go_enter Try.func68, Try.ntmps68
  go_wp2
  have h0 : OfRel (w.alloc (.cells #[.bool d, .bool a, .bool b', .bool n] 78)) b N D xs d a b' n (.int .i64 0) (w.alloc (.cells #[.bool d, .bool a, .bool b', .bool n] 78)) := ⟨0, by omega, rfl, H0.out, Only.refl _ _⟩
  clear H0
  generalize hw1 : w.alloc (.cells #[.bool d, .bool a, .bool b', .bool n] 78) = w1 at *
  go_loopw [10] (fun u wr => OfRel w1 b N D xs d a b' n u wr) (fun u _ => ((xs.length : Int) - intOf u).toNat)
  case atStart => exact h0
  case round =>
    obtain ⟨k, hk1, rfl, hP, ho⟩ := hrel
    have HP := Lib.hid hP
    have HQ := Lib.hid ho
    by_cases hk : k < xs.length
    · have x0 : wr.cell? ⟨g, k, none⟩ = some (.int .u8 xs[k]) := by
        have := (HG.out.only ho hne).cell k
        rw [this]; simp [hk]
      have hb := (HT.out.only ho (by omega))
      have y0 : wr.cell? ⟨w.heap.size, 0, none⟩ = some (.bool d) := hb.cell 0
      have y1 : wr.cell? ⟨w.heap.size, 1, none⟩ = some (.bool a) := hb.cell 1
      have y2 : wr.cell? ⟨w.heap.size, 2, none⟩ = some (.bool b') := hb.cell 2
      have y3 : wr.cell? ⟨w.heap.size, 3, none⟩ = some (.bool n) := hb.cell 3
      have hk8 := HX.out _ (List.getElem_mem hk)
      have hst := st_take (D := D) (d := d) (a := a) (b := b') (n := n) hk
      clear hP ho hb h0
      generalize xs[k] = x at *
      go_wp2_with (at_mapUpdate; refine wpList_mapUpdate_own _ rfl _ _ _ 79 rfl 5 78 kdU Try.underlying79 _ b (N + k) _ rfl HP.out (by unfold maxLen; omega) _ _ (KU x) rfl rfl (keyU hk8) (pd d a b' n) [] (partE_mk _ _ _ _) ?_; intro w5 oH gH; have HX5 := Lib.hid oH; have HO5 := Lib.hid (HQ.out.trans (only_of_grown gH)); clear oH gH)
      go_roundw
      case rel => exact ⟨k + 1, by omega, rfl, by rw [hst]; exact HX5.out, HO5.out⟩
      case measure => simp [intOf]; omega
    · have : k = xs.length := by omega
      subst this
      clear hP ho h0
      go_wp2
      go_end0
      have := HP.out
      rw [List.take_length] at this
      exact ⟨rfl, this, HO.out.trans HQ.out⟩
theorem of_at {w : World} {b N : Nat} {D : DU} (h : PM w b N D) (hN : N ≤ 1000) (d a b' n : Bool) (xs : List Int) (hx : ∀ x ∈ xs, U8 x) (hl : xs.length ≤ 100) {g : Nat} {T : TypeId} {A : Array Value} (hA : A = (xs.map (Value.int .u8)).toArray) {m : Nat} (hm : m = xs.length) (hg : Blk w g T A) (hne : b < g) :
    Calls Try.prog 68 #[.agg #[.bool d, .bool a, .bool b', .bool n], .map (some b), .slice (some ⟨g, 0, none⟩) m m] w (OfPost w b N D xs d a b' n) := by
  subst hA hm; exact of_any h hN d a b' n xs hx hl hg (by omega)
def HasPost (w : World) (e : Ending) (w' : World) : Prop := ∃ b, e = .returned (.map (some b)) ∧ Look w' b ∧ Below w.heap.size w w'
theorem of_u8 : ∀ x ∈ ([3, 4, 5, 6, 7, 8, 9] : List Int), U8 x := by intro x h; unfold U8; simp at h; omega
theorem of_u1 {y : Int} (h : 0 ≤ y ∧ y ≤ 255) : ∀ x ∈ ([y] : List Int), U8 x := by intro x hx; unfold U8; simp at hx; omega
set_option maxRecDepth 100000 in
set_option maxHeartbeats 1000000 in
theorem has_any (w : World) : Calls Try.prog 49 #[] w (HasPost w) := by
  have hmm := @run_makeMap Try.prog
  have P0 := Lib.hid (show PM (w.alloc (.map #[] 0)) w.heap.size 0 (.map []) from World.ownsMap_made w Try.prog 5 partE)
  have B0 := Lib.hid (Only.refl (· = w.heap.size) (w.alloc (.map #[] 0)))
  go_enter Try.func49, Try.ntmps49
  go_wp2_with (first | (go_at_call 68; ((with_reducible refine (of_at (P0.out.alloc (.cells #[.int .u8 1] 5)) (by decide) true false false true [1] (of_u1 (by decide)) (by decide) (m := 1) (T := 5) (A := #[.int .u8 1]) rfl rfl (by first | exact Blk.new _ _ _ | (have := Blk.new (w.alloc (.map #[] 0)) 5 #[.int .u8 1]; simpa using this)) (by first | exact P0.out.lt | omega)).mono ?_); rintro e v1 ⟨rfl, oH, oO⟩; have P1 := Lib.hid oH; have B1 := Lib.hid (B0.out.trans (((Only.refl (· = w.heap.size) _).alloc (.cells #[.int .u8 1] 5)).trans oO)); clear oH oO)) | (go_at_call 68; ((with_reducible refine (of_at (P1.out.alloc (.cells #[.int .u8 2] 5)) (by decide) true true false false [2] (of_u1 (by decide)) (by decide) (m := 1) (T := 5) (A := #[.int .u8 2]) rfl rfl (by first | exact Blk.new _ _ _ | (have := Blk.new (w.alloc (.map #[] 0)) 5 #[.int .u8 2]; simpa using this)) (by first | exact P1.out.lt | omega)).mono ?_); rintro e v2 ⟨rfl, oH, oO⟩; have P2 := Lib.hid oH; have B2 := Lib.hid (B1.out.trans (((Only.refl (· = w.heap.size) _).alloc (.cells #[.int .u8 2] 5)).trans oO)); clear oH oO)) | (go_at_call 68; ((with_reducible refine (of_at (P2.out.alloc (.cells #[.int .u8 3, .int .u8 4, .int .u8 5, .int .u8 6, .int .u8 7, .int .u8 8, .int .u8 9] 5)) (by decide) true true true false [3, 4, 5, 6, 7, 8, 9] of_u8 (by decide) (m := 7) (T := 5) (A := #[.int .u8 3, .int .u8 4, .int .u8 5, .int .u8 6, .int .u8 7, .int .u8 8, .int .u8 9]) rfl rfl (by first | exact Blk.new _ _ _ | (have := Blk.new (w.alloc (.map #[] 0)) 5 #[.int .u8 3, .int .u8 4, .int .u8 5, .int .u8 6, .int .u8 7, .int .u8 8, .int .u8 9]; simpa using this)) (by first | exact P2.out.lt | omega)).mono ?_); rintro e v3 ⟨rfl, oH, oO⟩; have P3 := Lib.hid oH; have B3 := Lib.hid (B2.out.trans (((Only.refl (· = w.heap.size) _).alloc (.cells #[.int .u8 3, .int .u8 4, .int .u8 5, .int .u8 6, .int .u8 7, .int .u8 8, .int .u8 9] 5)).trans oO)); clear oH oO)) | (go_at_call 68; ((with_reducible refine (of_at (P3.out.alloc (.cells #[.int .u8 10] 5)) (by decide) false false false true [10] (of_u1 (by decide)) (by decide) (m := 1) (T := 5) (A := #[.int .u8 10]) rfl rfl (by first | exact Blk.new _ _ _ | (have := Blk.new (w.alloc (.map #[] 0)) 5 #[.int .u8 10]; simpa using this)) (by first | exact P3.out.lt | omega)).mono ?_); rintro e v4 ⟨rfl, oH, oO⟩; have P4 := Lib.hid oH; have B4 := Lib.hid (B3.out.trans (((Only.refl (· = w.heap.size) _).alloc (.cells #[.int .u8 10] 5)).trans oO)); clear oH oO)) | (go_at_call 68; ((with_reducible refine (of_at (P4.out.alloc (.cells #[.int .u8 11] 5)) (by decide) false true false true [11] (of_u1 (by decide)) (by decide) (m := 1) (T := 5) (A := #[.int .u8 11]) rfl rfl (by first | exact Blk.new _ _ _ | (have := Blk.new (w.alloc (.map #[] 0)) 5 #[.int .u8 11]; simpa using this)) (by first | exact P4.out.lt | omega)).mono ?_); rintro e v5 ⟨rfl, oH, oO⟩; have P5 := Lib.hid oH; have B5 := Lib.hid (B4.out.trans (((Only.refl (· = w.heap.size) _).alloc (.cells #[.int .u8 11] 5)).trans oO)); clear oH oO)) | (go_at_call 68; ((with_reducible refine (of_at (P5.out.alloc (.cells #[.int .u8 12] 5)) (by decide) true true false true [12] (of_u1 (by decide)) (by decide) (m := 1) (T := 5) (A := #[.int .u8 12]) rfl rfl (by first | exact Blk.new _ _ _ | (have := Blk.new (w.alloc (.map #[] 0)) 5 #[.int .u8 12]; simpa using this)) (by first | exact P5.out.lt | omega)).mono ?_); rintro e v6 ⟨rfl, oH, oO⟩; have P6 := Lib.hid oH; have B6 := Lib.hid (B5.out.trans (((Only.refl (· = w.heap.size) _).alloc (.cells #[.int .u8 12] 5)).trans oO)); clear oH oO)) | (go_at_call 68; ((with_reducible refine (of_at (P6.out.alloc (.cells #[.int .u8 13] 5)) (by decide) false false false false [13] (of_u1 (by decide)) (by decide) (m := 1) (T := 5) (A := #[.int .u8 13]) rfl rfl (by first | exact Blk.new _ _ _ | (have := Blk.new (w.alloc (.map #[] 0)) 5 #[.int .u8 13]; simpa using this)) (by first | exact P6.out.lt | omega)).mono ?_); rintro e v7 ⟨rfl, oH, oO⟩; have P7 := Lib.hid oH; have B7 := Lib.hid (B6.out.trans (((Only.refl (· = w.heap.size) _).alloc (.cells #[.int .u8 13] 5)).trans oO)); clear oH oO)) | (go_at_call 68; ((with_reducible refine (of_at (P7.out.alloc (.cells #[.int .u8 14] 5)) (by decide) false true false false [14] (of_u1 (by decide)) (by decide) (m := 1) (T := 5) (A := #[.int .u8 14]) rfl rfl (by first | exact Blk.new _ _ _ | (have := Blk.new (w.alloc (.map #[] 0)) 5 #[.int .u8 14]; simpa using this)) (by first | exact P7.out.lt | omega)).mono ?_); rintro e v8 ⟨rfl, oH, oO⟩; have P8 := Lib.hid oH; have B8 := Lib.hid (B7.out.trans (((Only.refl (· = w.heap.size) _).alloc (.cells #[.int .u8 14] 5)).trans oO)); clear oH oO)))
  go_ret
  exact ⟨w.heap.size, rfl, P8.out, ((Below.refl _ _).alloc (Nat.le_refl _) (.map #[] 0)).trans (B8.out.below (by simp) (fun k hk => by omega))⟩
end Go.Proofs.Ytbpakckiglgjfaa
