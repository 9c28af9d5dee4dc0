
/- The walks of layer 1 (numbers as bytes), the program's and the document's: each is what the plain terms say. No condition but that a number fits its kind. -/
import Derived.Test.YtbpakckiglgjfaaRows
import Derived.Test.YtbpakckiglgjfaaLib
import Derived.Test.YtbpakckiglgjfaaNum
namespace Go.Proofs.Ytbpakckiglgjfaa
open Go.RowKit

theorem info_u8 : Info Try.prog 5 (.int .u8 0) 1 1 := by unfold Info; kernel_rfl
def gB (l : List UInt8) : List Value := l.map fun b => .int .u8 b.toNat
/-- A number that fits 64 bits. -/
def U64 (x : Int) : Prop := 0 ≤ x ∧ x ≤ 18446744073709551615
def I64 (x : Int) : Prop := -9223372036854775808 ≤ x ∧ x ≤ 9223372036854775807

theorem or128 (y : Int) (h : 0 ≤ y) : bits .or .u8 (y % 256) 128 = ((UInt8.ofNat (y.toNat % 128 + 128)).toNat : Int) := by
  rw [Num.ofNat_toNat _ (by omega)]
  have e := u8_or (y % 256) 128 (by omega) (by omega) (by omega) (by omega)
  rw [e]
  have h1 : (y % 256).toNat = y.toNat % 256 := by omega
  rw [h1]
  have : ∀ n : Nat, n < 256 → n ||| (128 : Int).toNat = n % 128 + 128 := by decide +kernel
  rw [this _ (by omega)]
  omega
/-- What the loop of Uint keeps. -/
def UintRel (B : Nat) (x : Int) (w : World) (u v : Value) (wr : World) : Prop :=
  ∃ (l : List UInt8) (y : Int), 0 ≤ y ∧ y ≤ x ∧ u = .int .u64 y ∧ l.length + (Num.leb y.toNat).length = (Num.leb x.toNat).length ∧ l ++ Num.leb y.toNat = Num.leb x.toNat ∧ wr.ownsRow B 5 1 v l.length (gB l) ∧ Below B w wr
theorem uint_step {l : List UInt8} {x y : Int} (hy : 128 ≤ y) (h : l ++ Num.leb y.toNat = Num.leb x.toNat) :
    (l ++ [UInt8.ofNat (y.toNat % 128 + 128)]) ++ Num.leb (y / 128).toNat = Num.leb x.toNat := by
  rw [← h, Num.leb_ge y.toNat (by omega)]
  have : (y / 128).toNat = y.toNat / 128 := by omega
  rw [this]; simp
theorem uint_last {l : List UInt8} {x y : Int} (h0 : 0 ≤ y) (hy : y < 128) (h : l ++ Num.leb y.toNat = Num.leb x.toNat) : l ++ [UInt8.ofNat y.toNat] = Num.leb x.toNat := by
  rw [← h, Num.leb_lt y.toNat (by omega)]

set_option maxHeartbeats 400000 in
theorem uint_any (x : Int) (hx : U64 x) (w : World) : Calls Try.prog 48 #[.int .u64 x] w fun e w' => e = .returned (.string (Num.lebS x)) ∧ Below w.heap.size w w' := by
  have h0 : 0 ≤ x := hx.1
  have h10 : (Num.leb x.toNat).length ≤ 10 := Num.leb_len10 _ (by have := hx.2; omega)
  clear hx
  go_enter Try.func48, Try.ntmps48
  go_wp2_with fail
  go_loopw [0, 3] (fun u v wr => UintRel w.heap.size x w u v wr) (fun u v _ => (intOf u).toNat)
  case atStart => exact ⟨[], x, h0, Int.le_refl _, rfl, by simp, by simp, World.ownsRow_nil _ _ _ _, Below.refl _ _⟩
  case round =>
    obtain ⟨l, y, hy, hyx, rfl, hk, hl, hown, hbel⟩ := hrel
    have hs := hbel.size
    have HL := Lib.hid hl
    clear hl
    by_cases hge : 128 ≤ y
    · go_wp2_with (at_builtin; refine wpl_append_one rfl rfl rfl rfl Try.underlying45 info_u8 rfl rfl hown ?c1 (by decide) hs ?_)
      case c1 => omega
      intro v' w1 hown1 hb1
      go_wp2
      go_roundw
      case rel =>
        refine ⟨l ++ [UInt8.ofNat (y.toNat % 128 + 128)], y / 128, by omega, by omega, rfl, ?_, uint_step hge HL.out, ?_, hbel.trans hb1⟩
        · have := congrArg List.length (uint_step hge HL.out)
          simp only [List.length_append, List.length_cons, List.length_nil] at this ⊢; omega
        · rw [or128 y hy] at hown1
          simpa [gB] using hown1
      case measure => simp [intOf]; omega
    · go_wp2_with (first | (at_builtin; refine wpl_append_one rfl rfl rfl rfl Try.underlying45 info_u8 rfl rfl hown ?c1 (by decide) hs ?_))
      case c1 => omega
      intro v' w1 hown1 hb1
      have e : y = ((UInt8.ofNat y.toNat).toNat : Int) := by rw [Num.ofNat_toNat _ (by omega)]; omega
      rw [congrArg (Value.int .u8) e] at hown1
      have hown2 : w1.ownsRow w.heap.size 5 1 v' (l.length + 1) ((Num.leb x.toNat).map fun b => .int .u8 b.toNat) := by
        rw [← uint_last hy (by omega) HL.out]; simpa [gB] using hown1
      clear hown1 e
      go_wp2_with (refine wpl_bytes_string (Num.leb x.toNat) rfl rfl rfl Try.underlying45 Try.underlying5 Try.underlying9 hown2 ?_)
      go_ret
      exact ⟨rfl, hbel.trans hb1⟩

/-! ### Zig, Zag, the program's and the document's -/
theorem zig_bits (x : Int) (h : I64 x) : bits .xor .u64 (IntKind.u64.wrap (IntKind.u64.wrap x * 2)) (IntKind.u64.wrap (x / 9223372036854775808)) = Num.zig x := by
  obtain ⟨h1, h2⟩ := h
  unfold Num.zig
  by_cases h0 : 0 ≤ x
  · rw [if_pos h0, IntKind.wrap_u64, IntKind.wrap_u64, IntKind.wrap_u64, u64_xor _ _ (by omega) (by omega) (by omega) (by omega)]
    have e : (x / 9223372036854775808 % 18446744073709551616).toNat = 0 := by omega
    rw [e, Nat.xor_zero]; omega
  · rw [if_neg h0, IntKind.wrap_u64, IntKind.wrap_u64, IntKind.wrap_u64, u64_xor _ _ (by omega) (by omega) (by omega) (by omega)]
    have e : (x / 9223372036854775808 % 18446744073709551616).toNat = 2 ^ 64 - 1 := by omega
    rw [e]
    have hx : ∀ a : Nat, a < 2 ^ 64 → a ^^^ (2 ^ 64 - 1) = 2 ^ 64 - 1 - a := by
      intro a ha
      have := BitVec.toNat_not (x := BitVec.ofNat 64 a)
      rw [← BitVec.xor_allOnes] at this
      simp only [BitVec.toNat_xor, BitVec.toNat_ofNat, BitVec.toNat_allOnes, Nat.mod_eq_of_lt ha] at this
      exact this
    rw [hx _ (by omega)]
    omega
theorem zag_bits (x : Int) (h : U64 x) : bits .xor .i64 (wrap64 (x / 2)) (wrap64 (-wrap64 (bits .and .u64 x 1))) = Num.zag x := by
  obtain ⟨h1, h2⟩ := h
  have ha : bits .and .u64 x 1 = x % 2 := by
    rw [u64_and x 1 h1 (by omega) (by omega) (by omega)]
    have : (x.toNat &&& (1 : Int).toNat) = x.toNat % 2 := Nat.and_two_pow_sub_one_eq_mod x.toNat 1
    rw [this]; omega
  have hw : wrap64 (x / 2) = x / 2 := by unfold wrap64; omega
  rw [ha, hw]
  unfold Num.zag
  have hk : ∀ y : Int, 0 ≤ y → y ≤ 9223372036854775807 → bits .xor .i64 y 0 = y ∧ bits .xor .i64 y (-1) = -y - 1 := by
    intro y hy1 hy2
    have b1 : (BitVec.ofInt 64 y).toNat = y.toNat := by rw [BitVec.toNat_ofInt]; omega
    constructor
    · have e : (BitVec.ofInt 64 y ^^^ BitVec.ofInt 64 0) = BitVec.ofInt 64 y := by simp
      show IntKind.i64.wrap ((BitVec.ofInt 64 y ^^^ BitVec.ofInt 64 0).toNat : Int) = y
      rw [e, IntKind.wrap_i64, b1]; omega
    · have e : (BitVec.ofInt 64 y ^^^ BitVec.ofInt 64 (-1)) = ~~~ (BitVec.ofInt 64 y) := by
        have : BitVec.ofInt 64 (-1) = BitVec.allOnes 64 := by decide
        rw [this, BitVec.xor_allOnes]
      show IntKind.i64.wrap ((BitVec.ofInt 64 y ^^^ BitVec.ofInt 64 (-1)).toNat : Int) = -y - 1
      rw [e, IntKind.wrap_i64, BitVec.toNat_not, b1]; omega
  by_cases h0 : x % 2 = 0
  · rw [if_pos h0, h0]
    have : wrap64 (-wrap64 0) = 0 := by unfold wrap64; omega
    rw [this]; exact (hk _ (by omega) (by omega)).1
  · rw [if_neg h0, show x % 2 = 1 from by omega]
    have : wrap64 (-wrap64 1) = -1 := by unfold wrap64; omega
    rw [this]; exact (hk _ (by omega) (by omega)).2
theorem ret1 {k : IntKind} {a b : Int} (h : a = b) : Ending.returned (.int k a) = .returned (.int k b) := by rw [h]
set_option maxHeartbeats 400000 in
theorem zig_any (x : Int) (hx : I64 x) (w : World) : Calls Try.prog 82 #[.int .i64 x] w fun e w' => e = .returned (.int .u64 (Num.zig x)) ∧ w = w' := by
  have hr := Lib.hid (zig_bits x hx); clear hx
  go_enter Try.func82, Try.ntmps82
  go_wp2
  go_ret
  exact ⟨ret1 hr.out, rfl⟩
set_option maxHeartbeats 400000 in
theorem zag_any (x : Int) (hx : U64 x) (w : World) : Calls Try.prog 77 #[.int .u64 x] w fun e w' => e = .returned (.int .i64 (Num.zag x)) ∧ w = w' := by
  have hr := Lib.hid (zag_bits x hx); clear hx
  go_enter Try.func77, Try.ntmps77
  go_wp2
  go_ret
  exact ⟨ret1 hr.out, rfl⟩
set_option maxHeartbeats 400000 in
theorem rzig_any (x : Int) (hx : I64 x) (w : World) : Calls Try.prog 86 #[.int .i64 x] w fun e w' => e = .returned (.int .u64 (Num.zig x)) ∧ w = w' := by
  have hr1 : 0 ≤ x → IntKind.u64.wrap (2 * IntKind.u64.wrap x) = Num.zig x := by
    intro h; rw [IntKind.wrap_u64, IntKind.wrap_u64]; unfold Num.zig; rw [if_pos h]; have := hx.2; omega
  have hr2 : x < 0 → IntKind.u64.wrap (IntKind.u64.wrap (2 * IntKind.u64.wrap (wrap64 (-wrap64 (x + 1)))) + 1) = Num.zig x := by
    intro h; rw [IntKind.wrap_u64, IntKind.wrap_u64, IntKind.wrap_u64]; unfold Num.zig wrap64; rw [if_neg (by omega)]; have := hx.1; omega
  have hr3 := Lib.hid hr1; have hr4 := Lib.hid hr2; clear hx hr1 hr2
  go_enter Try.func86, Try.ntmps86
  go_wp2
  all_goals go_ret
  · exact ⟨ret1 (hr3.out (by assumption)), rfl⟩
  · exact ⟨ret1 (hr4.out (by assumption)), rfl⟩
set_option maxHeartbeats 400000 in
theorem rzag_any (x : Int) (hx : U64 x) (w : World) : Calls Try.prog 84 #[.int .u64 x] w fun e w' => e = .returned (.int .i64 (Num.zag x)) ∧ w = w' := by
  have hr : (x.tmod 2 == 0) = true → wrap64 (IntKind.u64.wrap (x.tdiv 2)) = Num.zag x := by
    intro h; rw [IntKind.wrap_u64]; unfold Num.zag wrap64; rw [Int.tdiv_eq_ediv_of_nonneg hx.1]; rw [Int.tmod_eq_emod_of_nonneg hx.1] at h; simp at h; have := hx.1; have := hx.2; rw [if_pos h]; omega
  have hr2 : (x.tmod 2 == 0) = false → wrap64 (wrap64 (-wrap64 (IntKind.u64.wrap (x.tdiv 2))) - 1) = Num.zag x := by
    intro h; rw [IntKind.wrap_u64]; unfold Num.zag wrap64; rw [Int.tdiv_eq_ediv_of_nonneg hx.1]; rw [Int.tmod_eq_emod_of_nonneg hx.1] at h; simp at h; have := hx.1; have := hx.2; rw [if_neg (by omega)]; omega
  have hr3 := Lib.hid hr; have hr4 := Lib.hid hr2; clear hx hr hr2
  go_enter Try.func84, Try.ntmps84
  go_wp2
  all_goals go_ret
  · exact ⟨ret1 (hr3.out (by assumption)), rfl⟩
  · exact ⟨ret1 (hr4.out (by assumption)), rfl⟩
/-- A whole number's bytes, as text. -/
def intS (x : Int) : ByteArray := Num.lebS (Num.zig x)
theorem U64_zig {x : Int} (h : I64 x) : U64 (Num.zig x) := Num.zig_range x h.1 h.2
theorem I64_zag {x : Int} (h : U64 x) : I64 (Num.zag x) := Num.zag_range x h.1 h.2
set_option maxHeartbeats 400000 in
theorem int_any (x : Int) (hx : I64 x) (w : World) : Calls Try.prog 70 #[.int .i64 x] w fun e w' => e = .returned (.string (intS x)) ∧ Below w.heap.size w w' := by
  go_enter Try.func70, Try.ntmps70
  go_wp2_with (first | (go_at_call 82; refine (zig_any x hx _).mono ?_; rintro e w' ⟨rfl, rfl⟩) | (go_at_call 48; refine (uint_any _ (U64_zig hx) _).mono ?_; rintro e w' ⟨rfl, hb⟩))
  go_ret
  exact ⟨rfl, hb⟩

/-! ### The document's Uint -/
theorem lebS_size {x : Int} (h : x ≤ 18446744073709551615) : (Num.lebS x).size ≤ 10 := by
  have := Num.leb_len10 x.toNat (by omega)
  simpa [Num.lebS, ByteArray.size] using this
def hiByte (x : Int) : UInt8 := UInt8.ofNat (x.toNat % 128 + 128)
theorem ruint_step {x : Int} (h : 128 ≤ x) : (⟨#[hiByte x]⟩ : ByteArray) ++ Num.lebS (x / 128) = Num.lebS x := by
  unfold Num.lebS hiByte
  rw [Num.leb_ge x.toNat (by omega)]
  have : (x / 128).toNat = x.toNat / 128 := by omega
  rw [this]
  apply ByteArray.ext
  simp
theorem ruint_last {x : Int} (h0 : 0 ≤ x) (h : x < 128) : (⟨#[UInt8.ofNat x.toNat]⟩ : ByteArray) = Num.lebS x := by
  unfold Num.lebS; rw [Num.leb_lt x.toNat (by omega)]

theorem conv1 (W : World) (b : Nat) (v : Int) (h : W.cell? ⟨b, 0, none⟩ = some (.int .u8 v)) : (convert 45 9 (.slice (some ⟨b, 0, none⟩) 1 1)).run Try.prog W = .ok (.string ⟨#[UInt8.ofNat v.toNat]⟩) W :=
  run_conv1 Try.underlying45 Try.underlying5 Try.underlying9 W b v h
attribute [local go_sem] conv1
set_option maxHeartbeats 400000 in
theorem ruint_ind (n : Nat) : ∀ (x : Int) (_ : 0 ≤ x ∧ x ≤ 18446744073709551615) (_ : x < n) (w : World), Calls Try.prog 79 #[.int .u64 x] w fun e w' => e = .returned (.string (Num.lebS x)) ∧ Below w.heap.size w w' := by
  induction n with
  | zero => intro x hx hn; omega
  | succ n ih =>
    intro x hx hn w
    have hx0 := hx.1
    have hx1 := hx.2
    by_cases hge : x < 128
    · have hr := Lib.hid (ruint_last hx0 hge)
      clear hn ih hx
      go_enter Try.func79, Try.ntmps79
      go_wp2_with fail
      go_ret
      exact ⟨by rw [← hr.out]; rfl, (Below.refl _ _).alloc (Nat.le_refl _) _⟩
    · have ih2 := Lib.hid ih
      have hb1 : x / 128 < n := by omega
      have hb2 : x / 128 ≤ 18446744073709551615 := by omega
      have hb3 : 0 ≤ x / 128 := by omega
      have e1 : IntKind.u64.wrap (x.tdiv 128) = x / 128 := by rw [IntKind.wrap_u64, Int.tdiv_eq_ediv_of_nonneg hx0]; omega
      have e2 : UInt8.ofNat (IntKind.u8.wrap (IntKind.u64.wrap (128 + x.tmod 128))).toNat = hiByte x := by
        unfold hiByte; congr 1; rw [IntKind.wrap_u8, IntKind.wrap_u64, Int.tmod_eq_emod_of_nonneg hx0]; omega
      have hr := Lib.hid (ruint_step (x := x) (by omega))
      have hsz : (Num.lebS (x / 128)).size ≤ 10 := lebS_size (by omega)
      clear hn hx ih
      go_enter Try.func79, Try.ntmps79
      go_wp2_with fail
      go_region_with (go_at_call 79; ((with_reducible refine (ih2.out _ ⟨hb3, hb2⟩ hb1 _).mono ?_); rintro e w' ⟨rfl, hb⟩; obtain ⟨hc, hf⟩ := bcell hb))
      all_goals go_wp2
      all_goals go_ret
      all_goals refine ⟨congrArg (fun s => Ending.returned (Value.string s)) hr.out, ?_⟩
      · exact (((Below.refl _ _).alloc (Nat.le_refl _) _).drew).trans (hb.mono (by simp))
      · exact (((Below.refl _ _).alloc (Nat.le_refl _) _).drew).trans (hb.mono (by simp))
      · exact ((Below.refl _ _).drew.trans hb).alloc hb.size _
theorem ruint_any (x : Int) (hx : U64 x) (w : World) : Calls Try.prog 79 #[.int .u64 x] w fun e w' => e = .returned (.string (Num.lebS x)) ∧ Below w.heap.size w w' :=
  ruint_ind (x.toNat + 1) x hx (by have := hx.1; omega) w
end Go.Proofs.Ytbpakckiglgjfaa
