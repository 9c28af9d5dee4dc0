
/- The walks of the program's writers of bricks. No condition but that numbers fit their kinds and that the bytes are not too many. -/
import Derived.Test.YtbpakckiglgjfaaNumR2
import Derived.Test.YtbpakckiglgjfaaRely
import Derived.Test.YtbpakckiglgjfaaBld
namespace Go.Proofs.Ytbpakckiglgjfaa
open Go.RowKit
set_option linter.unusedVariables false
/-- The value is a slice of n elements, one cell each. -/
def Slic (w : World) (v : Value) (n : Nat) (f : Nat → Value) : Prop :=
  ∃ p cap, v = .slice p n cap ∧ (0 < n → ∃ g off, p = some ⟨g, off, none⟩ ∧ g < w.heap.size ∧ ∀ i, i < n → w.cell? ⟨g, off + i, none⟩ = some (f i))
/-- The bytes of the first n, one behind the other. -/
def cat (g : Nat → ByteArray) (n : Nat) : List UInt8 := (List.range n).flatMap fun i => (g i).data.toList
theorem cat_zero (g : Nat → ByteArray) : cat g 0 = [] := rfl
theorem cat_succ (g : Nat → ByteArray) (n : Nat) : cat g (n + 1) = cat g n ++ (g n).data.toList := by simp [cat, List.range_succ, List.flatMap_append]
theorem cat_le (g : Nat → ByteArray) {i n : Nat} (h : i ≤ n) : (cat g i).length ≤ (cat g n).length := by
  induction n with
  | zero => have : i = 0 := by omega
            subst this; exact Nat.le_refl _
  | succ n ih =>
    by_cases e : i = n + 1
    · subst e; exact Nat.le_refl _
    · rw [cat_succ, List.length_append]; have := ih (by omega); omega
def AllPost (g : Nat → ByteArray) (n : Nat) (w : World) (e : Ending) (w' : World) : Prop := e = .returned (.string ⟨(cat g n).toArray⟩) ∧ Below w.heap.size w w'
def AllRel (g : Nat → ByteArray) (n : Nat) (w : World) (u : Value) (wr : World) : Prop := ∃ i : Nat, i ≤ n ∧ u = .int .i64 i ∧ Bld.Is w.heap.size w.heap.size (cat g i) wr ∧ Below w.heap.size w wr
set_option maxRecDepth 100000 in
set_option maxHeartbeats 1000000 in
theorem all_u64 {g : Nat → ByteArray} {n : Nat} {f : Nat → Value} {w : World} {v : Value} (hv : Slic w v n f) (hn : n < 4611686018427387904) (hlen : (cat g n).length ≤ 140737488355328)
    (hf : ∀ i, i < n → ∀ w, Calls Try.prog 48 #[f i] w fun e w' => e = .returned (.string (g i)) ∧ Below w.heap.size w w') :
    Calls Try.prog 47 #[.func (.func 48) #[] #[], v] w (AllPost g n w) := by
  obtain ⟨p, cap, rfl, hS⟩ := hv
  have HS := Lib.hid hS
  have HF := Lib.hid hf
  have HB := Lib.hid (Bld.fresh w)
  have hrfl := (Below.refl w.heap.size w).alloc (Nat.le_refl _) (.cells #[.pointer none, .slice none 0 0] 108)
  clear hS hf
  go_enter Try.func47, Try.ntmps47
  go_wp2
  go_loopw [10] (fun u wr => AllRel g n w u wr) (fun u _ => ((n : Int) - intOf u).toNat)
  case atStart => exact ⟨0, by omega, rfl, HB.out, hrfl⟩
  case round =>
    obtain ⟨k, hk1, rfl, hB, hb⟩ := hrel
    by_cases hk : k < n
    · obtain ⟨g0, off, rfl, hg, hx⟩ := HS.out (by omega)
      have x0 : wr.cell? ⟨g0, off + k, none⟩ = some (f k) := by rw [hb.cell hg]; exact hx k hk
      have HK := Lib.hid (HF.out k hk)
      have HBk := Lib.hid hB
      have Hb := Lib.hid hb
      clear hx hB hb
      generalize f k = fk at *
      have hl1 : (cat g (k + 1)).length ≤ 140737488355328 := Nat.le_trans (cat_le g hk) hlen
      go_wp2_with (first | (go_at_call 48; ((with_reducible refine (HK.out _).mono ?_); rintro e w1 ⟨rfl, b1⟩; have HB1 := Lib.hid (HBk.out.below b1); have HW := Lib.hid (Bld.write HB1.out (g k) (by rw [cat_succ, List.length_append] at hl1; simpa using hl1) (Nat.le_trans Hb.out.size b1.size)))) | (go_at_call 66; ((with_reducible refine HW.out.mono ?_); rintro e w2 ⟨rfl, hB2, b2⟩)))
      go_roundw
      case rel => exact ⟨k + 1, by omega, rfl, by rw [cat_succ]; exact hB2, (Hb.out.trans (b1.mono Hb.out.size)).trans b2⟩
      case measure => simp [intOf]; omega
    · have : k = n := by omega
      subst this
      have Hb := Lib.hid hb
      have HW := Lib.hid (Bld.string hB hb.size)
      clear hb hB
      go_wp2_with (go_at_call 67; ((with_reducible refine HW.out.mono ?_); rintro e w2 ⟨rfl, b2⟩))
      go_ret
      exact ⟨rfl, Hb.out.trans b2⟩
set_option maxRecDepth 100000 in
      set_option maxHeartbeats 1000000 in
      theorem all_i64 {g : Nat → ByteArray} {n : Nat} {f : Nat → Value} {w : World} {v : Value} (hv : Slic w v n f) (hn : n < 4611686018427387904) (hlen : (cat g n).length ≤ 140737488355328)
          (hf : ∀ i, i < n → ∀ w, Calls Try.prog 70 #[f i] w fun e w' => e = .returned (.string (g i)) ∧ Below w.heap.size w w') :
          Calls Try.prog 69 #[.func (.func 70) #[] #[], v] w (AllPost g n w) := by
        obtain ⟨p, cap, rfl, hS⟩ := hv
        have HS := Lib.hid hS
        have HF := Lib.hid hf
        have HB := Lib.hid (Bld.fresh w)
        have hrfl := (Below.refl w.heap.size w).alloc (Nat.le_refl _) (.cells #[.pointer none, .slice none 0 0] 108)
        clear hS hf
        go_enter Try.func69, Try.ntmps69
        go_wp2
        go_loopw [10] (fun u wr => AllRel g n w u wr) (fun u _ => ((n : Int) - intOf u).toNat)
        case atStart => exact ⟨0, by omega, rfl, HB.out, hrfl⟩
        case round =>
          obtain ⟨k, hk1, rfl, hB, hb⟩ := hrel
          by_cases hk : k < n
          · obtain ⟨g0, off, rfl, hg, hx⟩ := HS.out (by omega)
            have x0 : wr.cell? ⟨g0, off + k, none⟩ = some (f k) := by rw [hb.cell hg]; exact hx k hk
            have HK := Lib.hid (HF.out k hk)
            have HBk := Lib.hid hB
            have Hb := Lib.hid hb
            clear hx hB hb
            generalize f k = fk at *
            have hl1 : (cat g (k + 1)).length ≤ 140737488355328 := Nat.le_trans (cat_le g hk) hlen
            go_wp2_with (first | (go_at_call 70; ((with_reducible refine (HK.out _).mono ?_); rintro e w1 ⟨rfl, b1⟩; have HB1 := Lib.hid (HBk.out.below b1); have HW := Lib.hid (Bld.write HB1.out (g k) (by rw [cat_succ, List.length_append] at hl1; simpa using hl1) (Nat.le_trans Hb.out.size b1.size)))) | (go_at_call 66; ((with_reducible refine HW.out.mono ?_); rintro e w2 ⟨rfl, hB2, b2⟩)))
            go_roundw
            case rel => exact ⟨k + 1, by omega, rfl, by rw [cat_succ]; exact hB2, (Hb.out.trans (b1.mono Hb.out.size)).trans b2⟩
            case measure => simp [intOf]; omega
          · have : k = n := by omega
            subst this
            have Hb := Lib.hid hb
            have HW := Lib.hid (Bld.string hB hb.size)
            clear hb hB
            go_wp2_with (go_at_call 67; ((with_reducible refine HW.out.mono ?_); rintro e w2 ⟨rfl, b2⟩))
            go_ret
            exact ⟨rfl, Hb.out.trans b2⟩
namespace Wire
def textS (s : ByteArray) : ByteArray := Num.lebS s.size ++ s
def boolS (b : Bool) : ByteArray := Num.lebS (if b = true then 1 else 0)
end Wire
open Wire
theorem small_cat {g : Nat → ByteArray} {n : Nat} (h : ∀ i, i < n → (g i).size ≤ 10) : (cat g n).length ≤ 10 * n := by
  induction n with
  | zero => simp [cat]
  | succ n ih =>
    rw [cat_succ, List.length_append]
    have h1 := ih fun i hi => h i (by omega)
    have h2 := h n (by omega)
    have h3 : (g n).data.toList.length = (g n).size := by simp
    omega
set_option maxHeartbeats 400000 in
theorem uints_any {n : Nat} {x : Nat → Int} {w : World} {v : Value} (hv : Slic w v n fun i => .int .u64 (x i)) (hn : n < 1099511627776) (hx : ∀ i, i < n → U64 (x i)) :
    Calls Try.prog 21 #[v] w (AllPost (fun i => Num.lebS (x i)) n w) := by
  have H := Lib.hid (all_u64 hv (by omega) (g := fun i => Num.lebS (x i)) (by have := small_cat (g := fun i => Num.lebS (x i)) (n := n) (fun i hi => lebS_size (hx i hi).2); omega) (fun i hi w => uint_any (x i) (hx i hi) w))
  obtain ⟨p, cap, rfl, hS⟩ := hv
  clear hS hx
  go_enter Try.func21, Try.ntmps21
  go_wp2_with (go_at_call 47; ((with_reducible refine H.out.mono ?_); rintro e w1 ⟨rfl, b1⟩))
  go_ret
  exact ⟨rfl, b1⟩
set_option maxHeartbeats 400000 in
theorem ints_any {n : Nat} {x : Nat → Int} {w : World} {v : Value} (hv : Slic w v n fun i => .int .i64 (x i)) (hn : n < 1099511627776) (hx : ∀ i, i < n → I64 (x i)) :
    Calls Try.prog 50 #[v] w (AllPost (fun i => intS (x i)) n w) := by
  have H := Lib.hid (all_i64 hv (by omega) (g := fun i => intS (x i)) (by have := small_cat (g := fun i => intS (x i)) (n := n) (fun i hi => lebS_size (U64_zig (hx i hi)).2); omega) (fun i hi w => int_any (x i) (hx i hi) w))
  obtain ⟨p, cap, rfl, hS⟩ := hv
  clear hS hx
  go_enter Try.func50, Try.ntmps50
  go_wp2_with (go_at_call 69; ((with_reducible refine H.out.mono ?_); rintro e w1 ⟨rfl, b1⟩))
  go_ret
  exact ⟨rfl, b1⟩
end Go.Proofs.Ytbpakckiglgjfaa
