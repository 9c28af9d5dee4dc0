/- What the bytes of bricks are: the law's walk. No condition. -/
import Derived.Test.YtppkfpphefonoaaWireL
namespace Go.Proofs.Ytppkfpphefonoaa
open Go.RowKit Wire
set_option linter.unusedVariables false
theorem small_size {g : Nat → ByteArray} {n k : Nat} (h : ∀ i, i < n → (g i).size ≤ 10) (hk : k < n) (hn : n ≤ 200) : (catS g k).size + (g k).size ≤ 140737488355328 := by
  have h1 := small_cat (g := g) (n := k) fun i hi => h i (by omega)
  rw [catS_size]
  have h2 := h k hk
  omega
theorem text_cat {x : Nat → ByteArray} {n : Nat} (h : ∀ i, i < n → (x i).size ≤ 4096) : (cat (fun i => textS (x i)) n).length ≤ 4106 * n := by
  induction n with
  | zero => simp [cat]
  | succ n ih =>
    rw [cat_succ, List.length_append]
    have h1 := ih fun i hi => h i (by omega)
    have h2 := h n (by omega)
    have h3 : (textS (x n)).data.toList.length = (Num.lebS (x n).size).size + (x n).size := by unfold textS; simp
    have h4 := lebS_size (x := ((x n).size : Int)) (by omega)
    omega
def WrRel (g : Nat → ByteArray) (n : Nat) (W : World) (u v : Value) (wr : World) : Prop := ∃ i : Nat, i ≤ n ∧ v = .int .i64 i ∧ u = .string (catS g i) ∧ Below W.heap.size W wr
def WtRel (x : Nat → ByteArray) (n : Nat) (W : World) (u v : Value) (wr : World) : Prop := ∃ i : Nat, i ≤ n ∧ v = .int .i64 i ∧ u = .string (catS (fun i => textS (x i)) i) ∧ Below W.heap.size W wr ∧ ∀ j, j < i → (x j).size ≤ 4096
set_option maxRecDepth 100000 in
set_option maxHeartbeats 4000000 in
theorem wwrites_run (W : World) {n1 n2 n3 n4 : Nat} {x1 x2 : Nat → Int} {x3 : Nat → ByteArray} {x4 : Nat → Bool} {v1 v2 v3 v4 : Value} (h1 : Slic W v1 n1 fun i => .int .u64 (x1 i)) (h2 : Slic W v2 n2 fun i => .int .i64 (x2 i))
    (h3 : Slic W v3 n3 fun i => .string (x3 i)) (h4 : Slic W v4 n4 fun i => .bool (x4 i)) (k1 : ∀ i, i < n1 → U64 (x1 i)) (k2 : ∀ i, i < n2 → I64 (x2 i)) (hn1 : n1 ≤ 200) (hn2 : n2 ≤ 200) (hn3 : n3 ≤ 200) (hn4 : n4 ≤ 200) :
    Calls Try.prog 6 #[v1, v2, v3, v4] W fun e w' => e = .returned (.bool true) ∧ Below W.heap.size W w' := by
  have H1 := Lib.hid h1
  have H2 := Lib.hid h2
  have H3 := Lib.hid h3
  have H4 := Lib.hid h4
  obtain ⟨p1, cap1, rfl, hS1⟩ := h1
  obtain ⟨p2, cap2, rfl, hS2⟩ := h2
  obtain ⟨p3, cap3, rfl, hS3⟩ := h3
  obtain ⟨p4, cap4, rfl, hS4⟩ := h4
  have HS1 := Lib.hid hS1
  have HS2 := Lib.hid hS2
  have HS3 := Lib.hid hS3
  have HS4 := Lib.hid hS4
  have K1 := Lib.hid k1
  have K2 := Lib.hid k2
  have hrfl := Below.refl W.heap.size W
  clear hS1 hS2 hS3 hS4 k1 k2
  have Z1 : ∀ i, i < n1 → (Num.lebS (x1 i)).size ≤ 10 := fun i hi => lebS_size (K1.out i hi).2
  have Z2 : ∀ i, i < n2 → (intS (x2 i)).size ≤ 10 := fun i hi => lebS_size (U64_zig (K2.out i hi)).2
  have Z4 : ∀ i, i < n4 → (boolS (x4 i)).size ≤ 10 := fun i hi => lebS_size (by split <;> omega)
  have ZZ1 := Lib.hid Z1
  have ZZ2 := Lib.hid Z2
  have ZZ4 := Lib.hid Z4
  clear Z1 Z2 Z4
  go_enter Try.func6, Try.ntmps6
  go_wp2
  go_loopw [9, 13] (fun u v wr => WrRel (fun i => Num.lebS (x1 i)) n1 W u v wr) (fun u v _ => ((n1 : Int) - intOf v).toNat)
  case atStart => exact ⟨0, by omega, rfl, rfl, hrfl⟩
  case round =>
    obtain ⟨k, hk1, rfl, rfl, hb⟩ := hrel
    have HB := Lib.hid hb
    by_cases hk : k < n1
    · obtain ⟨g0, off, rfl, hg, hx⟩ := HS1.out (by omega)
      have x0 : wr.cell? ⟨g0, off + k, none⟩ = some (.int .u64 (x1 k)) := by rw [hb.cell hg]; exact hx k hk
      have hz := small_size ZZ1.out hk hn1
      have HK := Lib.hid (fun w => ruint3_any (x1 k) (K1.out k hk) w)
      have hs := Lib.hid (catS_succ (fun i => Num.lebS (x1 i)) k)
      clear hx hb
      go_wp2_with (go_at_call 27; ((with_reducible refine (HK.out _).mono ?_); rintro e w1 ⟨rfl, b1⟩))
      go_roundw
      case rel => exact ⟨k + 1, by omega, rfl, congrArg Value.string hs.out, HB.out.trans (b1.mono HB.out.size)⟩
      case measure => simp [intOf]; omega
    · have : k = n1 := by omega
      subst this
      clear hb HS1 hk hk1
      go_wp2
      have hrfl2 := HB.out
      go_loopw [10, 14] (fun u v wr => WrRel (fun i => intS (x2 i)) n2 W u v wr) (fun u v _ => ((n2 : Int) - intOf v).toNat)
      case atStart => exact ⟨0, by omega, rfl, rfl, hrfl2⟩
      case round =>
        obtain ⟨j, hk1, rfl, rfl, hb⟩ := hrel
        have HB2 := Lib.hid hb
        by_cases hk : j < n2
        · obtain ⟨g0, off, rfl, hg, hx⟩ := HS2.out (by omega)
          have x0 : wr.cell? ⟨g0, off + j, none⟩ = some (.int .i64 (x2 j)) := by rw [hb.cell hg]; exact hx j hk
          have hz := small_size ZZ2.out hk hn2
          have HK := Lib.hid (fun w => rint3_any (x2 j) (K2.out j hk) w)
          have hs := Lib.hid (catS_succ (fun i => intS (x2 i)) j)
          clear hx hb
          go_wp2_with (go_at_call 28; ((with_reducible refine (HK.out _).mono ?_); rintro e w1 ⟨rfl, b1⟩))
          go_roundw
          case rel => exact ⟨j + 1, by omega, rfl, congrArg Value.string hs.out, HB2.out.trans (b1.mono HB2.out.size)⟩
          case measure => simp [intOf]; omega
        · have : j = n2 := by omega
          subst this
          clear hb HS2 hk hk1 HB
          go_wp2
          have hrfl3 := HB2.out
          go_loopw [11, 15] (fun u v wr => WtRel x3 n3 W u v wr) (fun u v _ => ((n3 : Int) - intOf v).toNat)
          case atStart => exact ⟨0, by omega, rfl, rfl, hrfl3, fun j hj => by omega⟩
          case round =>
            obtain ⟨i, hk1, rfl, rfl, hb, hsm⟩ := hrel
            have HB3 := Lib.hid hb
            have HSM := Lib.hid hsm
            by_cases hk : i < n3
            · obtain ⟨g0, off, rfl, hg, hx⟩ := HS3.out (by omega)
              have x0 : wr.cell? ⟨g0, off + i, none⟩ = some (.string (x3 i)) := by rw [hb.cell hg]; exact hx i hk
              by_cases hbig : (x3 i).size ≤ 4096
              · have hz : (catS (fun i => textS (x3 i)) i).size + (textS (x3 i)).size ≤ 140737488355328 := by
                  have h1 := text_cat (x := x3) (n := i) hsm
                  rw [catS_size]
                  have h4 := lebS_size (x := ((x3 i).size : Int)) (by omega)
                  have h5 : (textS (x3 i)).size = (Num.lebS (x3 i).size).size + (x3 i).size := by unfold textS; simp
                  omega
                have HK := Lib.hid (fun w => rtext3_any (x3 i) (by omega) w)
                have hs := Lib.hid (catS_succ (fun i => textS (x3 i)) i)
                clear hx hb hsm
                go_wp2_with (go_at_call 29; ((with_reducible refine (HK.out _).mono ?_); rintro e w1 ⟨rfl, b1⟩))
                go_roundw
                case rel => exact ⟨i + 1, by omega, rfl, congrArg Value.string hs.out, HB3.out.trans (b1.mono HB3.out.size), fun j hj => by
                  by_cases e : j = i
                  · subst e; exact hbig
                  · exact HSM.out j (by omega)⟩
                case measure => simp [intOf]; omega
              · have hbig' : 4096 < (x3 i).size := by omega
                clear hx hb hsm hbig
                go_wp2_with (go_at_call 26; ((with_reducible refine (alive_any _).mono ?_); rintro e w9 ⟨rfl, hb9⟩))
                go_ret
                exact ⟨rfl, HB3.out.trans (hb9.mono HB3.out.size)⟩
            · have : i = n3 := by omega
              subst this
              clear hb HS3 hk hk1 HB2 hsm
              go_wp2
              have hrfl4 := HB3.out
              go_loopw [12, 16] (fun u v wr => WrRel (fun i => boolS (x4 i)) n4 W u v wr) (fun u v _ => ((n4 : Int) - intOf v).toNat)
              case atStart => exact ⟨0, by omega, rfl, rfl, hrfl4⟩
              case round =>
                obtain ⟨m, hk1, rfl, rfl, hb⟩ := hrel
                have HB4 := Lib.hid hb
                by_cases hk : m < n4
                · obtain ⟨g0, off, rfl, hg, hx⟩ := HS4.out (by omega)
                  have x0 : wr.cell? ⟨g0, off + m, none⟩ = some (.bool (x4 m)) := by rw [hb.cell hg]; exact hx m hk
                  have hz := small_size ZZ4.out hk hn4
                  have HK := Lib.hid (fun w => rbool3_any (x4 m) w)
                  have hs := Lib.hid (catS_succ (fun i => boolS (x4 i)) m)
                  clear hx hb
                  go_wp2_with (go_at_call 30; ((with_reducible refine (HK.out _).mono ?_); rintro e w1 ⟨rfl, rfl⟩))
                  go_roundw
                  case rel => exact ⟨m + 1, by omega, rfl, congrArg Value.string hs.out, HB4.out⟩
                  case measure => simp [intOf]; omega
                · have : m = n4 := by omega
                  subst this
                  clear hb HS4 hk hk1 HB3
                  have HU := Lib.hid (alls (uints_any (H1.out.grow HB4.out) (by omega) K1.out))
                  have hlen := text_cat HSM.out
                  have G1 := HB4.out
                  have GG1 := Lib.hid G1
                  clear G1 HB4
                  go_wp2_with (first | (go_at_call 31; ((with_reducible refine HU.out.mono ?_); rintro e w1 ⟨rfl, b1⟩; have GG2 := Lib.hid (GG1.out.trans (b1.mono GG1.out.size)); have HI := Lib.hid (alls (ints_any (H2.out.grow GG2.out) (by omega) K2.out)); clear b1)) | (go_at_call 32; ((with_reducible refine HI.out.mono ?_); rintro e w2 ⟨rfl, b1⟩; have GG3 := Lib.hid (GG2.out.trans (b1.mono GG2.out.size)); have HT := Lib.hid (alls (texts_any (H3.out.grow GG3.out) (by omega) (fun i hi => by have := HSM.out i hi; omega) (by omega))); clear b1)) | (go_at_call 33; ((with_reducible refine HT.out.mono ?_); rintro e w3 ⟨rfl, b1⟩; have GG4 := Lib.hid (GG3.out.trans (b1.mono GG3.out.size)); have HO := Lib.hid (alls (bools_any (H4.out.grow GG4.out) (by omega))); clear b1)) | (go_at_call 34; ((with_reducible refine HO.out.mono ?_); rintro e w4 ⟨rfl, b1⟩; have GG5 := Lib.hid (GG4.out.trans (b1.mono GG4.out.size)); clear b1)) | (go_at_call 26; ((with_reducible refine (alive_any _).mono ?_); rintro e w9 ⟨rfl, hb9⟩)))
                  go_ret
                  exact ⟨rfl, GG5.out.trans (hb9.mono GG5.out.size)⟩
set_option maxRecDepth 100000 in
set_option maxHeartbeats 1000000 in
theorem wwrites_law (W : World) {n1 n2 n3 n4 : Nat} {x1 x2 : Nat → Int} {x3 : Nat → ByteArray} {x4 : Nat → Bool} {v1 v2 v3 v4 : Value} (h1 : Slic W v1 n1 fun i => .int .u64 (x1 i)) (h2 : Slic W v2 n2 fun i => .int .i64 (x2 i))
    (h3 : Slic W v3 n3 fun i => .string (x3 i)) (h4 : Slic W v4 n4 fun i => .bool (x4 i)) (k1 : ∀ i, i < n1 → U64 (x1 i)) (k2 : ∀ i, i < n2 → I64 (x2 i)) :
    Calls Try.prog 6 #[v1, v2, v3, v4] W fun e w' => e = .returned (.bool true) ∧ Below W.heap.size W w' := by
  by_cases hn : n1 ≤ 200 ∧ n2 ≤ 200 ∧ n3 ≤ 200 ∧ n4 ≤ 200
  · exact wwrites_run W h1 h2 h3 h4 k1 k2 hn.1 hn.2.1 hn.2.2.1 hn.2.2.2
  · have hor : 200 < n1 ∨ (n1 ≤ 200 ∧ 200 < n2) ∨ (n1 ≤ 200 ∧ n2 ≤ 200 ∧ 200 < n3) ∨ (n1 ≤ 200 ∧ n2 ≤ 200 ∧ n3 ≤ 200 ∧ 200 < n4) := by omega
    clear hn k1 k2
    obtain ⟨p1, cap1, rfl, hS1⟩ := h1
    obtain ⟨p2, cap2, rfl, hS2⟩ := h2
    obtain ⟨p3, cap3, rfl, hS3⟩ := h3
    obtain ⟨p4, cap4, rfl, hS4⟩ := h4
    clear hS1 hS2 hS3 hS4
    rcases hor with h | ⟨h, g⟩ | ⟨h, g, i⟩ | ⟨h, g, i, j⟩
    all_goals go_enter Try.func6, Try.ntmps6
    all_goals go_wp2_with (go_at_call 26; ((with_reducible refine (alive_any _).mono ?_); rintro e w9 ⟨rfl, hb9⟩))
    all_goals go_ret
    all_goals exact ⟨rfl, hb9⟩
theorem wf_U64 {n : Int} (h : (Lit.int .u64 n).wf = true) : U64 n := by
  have := bounds_u64 h; unfold U64; omega
theorem wf_I64 {n : Int} (h : (Lit.int .i64 n).wf = true) : I64 n := by
  have := bounds_i64 h; unfold I64; omega
set_option maxRecDepth 100000 in
theorem wwrites_open {H : Type} {enc : TypeId × Value → H} {W : World} {r : Reach} {b0 : Nat} {v1 v2 v3 v4 : Value} {d1 d2 d3 d4 : DataW H} {p1 p2 p3 p4 : List MemPlace}
    (o1 : Value.okWide Try.prog W r b0 57 v1) (r1 : DataW.Trod enc Try.prog W 0 (fun _ => true) true 57 v1 d1 p1) (_ : ∀ x ∈ p1, x.block < W.heap.size)
    (o2 : Value.okWide Try.prog W r b0 58 v2) (r2 : DataW.Trod enc Try.prog W 0 (fun _ => true) true 58 v2 d2 p2) (_ : ∀ x ∈ p2, x.block < W.heap.size)
    (o3 : Value.okWide Try.prog W r b0 59 v3) (r3 : DataW.Trod enc Try.prog W 0 (fun _ => true) true 59 v3 d3 p3) (_ : ∀ x ∈ p3, x.block < W.heap.size)
    (o4 : Value.okWide Try.prog W r b0 60 v4) (r4 : DataW.Trod enc Try.prog W 0 (fun _ => true) true 60 v4 d4 p4) (_ : ∀ x ∈ p4, x.block < W.heap.size) :
    Calls Try.prog 6 #[v1, v2, v3, v4] W fun e w' => e = .returned (.bool true) ∧ Below W.heap.size W w' := by
  obtain ⟨n1, x1, a1, w1⟩ := open_ints' (k := .u64) (e := 29) Try.underlying57 Try.underlying29 (by kernel_rfl) o1 r1
  obtain ⟨n2, x2, a2, w2⟩ := open_ints' (k := .i64) (e := 2) Try.underlying58 Try.underlying2 (by kernel_rfl) o2 r2
  obtain ⟨n3, x3, a3, _⟩ := open_strs' (e := 9) Try.underlying59 Try.underlying9 (by kernel_rfl) o3 r3
  obtain ⟨n4, x4, a4⟩ := open_bools' (e := 4) Try.underlying60 Try.underlying4 (by kernel_rfl) o4 r4
  exact wwrites_law W a1 a2 a3 a4 (fun i hi => wf_U64 (w1 i hi)) (fun i hi => wf_I64 (w2 i hi))
end Go.Proofs.Ytppkfpphefonoaa
