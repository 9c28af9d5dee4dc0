import Derived.Test.YtlahficmkfgooaaGreatRows
import Derived.Test.YtlahficmkfgooaaGreatMga
import Derived.Maps.OwnSet

/- The walks of layer 1 (numbers as bytes), the program's and the document's: each is what the plain terms say. No condition but that a number fits its kind. -/
namespace Go.Proofs.YtlahficmkfgooaaGreat
open Go.RowKit

theorem info_u8 : Info Tryz.prog 5 (.int .u8 0) 1 1 := by unfold Info; kernel_rfl
def gB (l : List UInt8) : List Value := l.map fun b => .int .u8 b.toNat
/-- A number that fits 64 bits. -/
def U64 (x : Int) : Prop := 0 ≤ x ∧ x ≤ 18446744073709551615
def I64 (x : Int) : Prop := -9223372036854775808 ≤ x ∧ x ≤ 9223372036854775807

theorem or128 (y : Int) (h : 0 ≤ y) : bits .or .u8 (y % 256) 128 = ((UInt8.ofNat (y.toNat % 128 + 128)).toNat : Int) := by
  rw [Num.ofNat_toNat _ (by omega)]
  have e := u8_or (y % 256) 128 (by omega) (by omega) (by omega) (by omega)
  rw [e]
  have h1 : (y % 256).toNat = y.toNat % 256 := by omega
  rw [h1]
  have : ∀ n : Nat, n < 256 → n ||| (128 : Int).toNat = n % 128 + 128 := by decide +kernel
  rw [this _ (by omega)]
  omega
/-- What the loop of Uint keeps. -/
def UintRel (B : Nat) (x : Int) (w : World) (u v : Value) (wr : World) : Prop :=
  ∃ (l : List UInt8) (y : Int), 0 ≤ y ∧ y ≤ x ∧ u = .int .u64 y ∧ l.length + (Num.leb y.toNat).length = (Num.leb x.toNat).length ∧ l ++ Num.leb y.toNat = Num.leb x.toNat ∧ wr.ownsRow B 5 1 v l.length (gB l) ∧ Below B w wr
theorem uint_step {l : List UInt8} {x y : Int} (hy : 128 ≤ y) (h : l ++ Num.leb y.toNat = Num.leb x.toNat) :
    (l ++ [UInt8.ofNat (y.toNat % 128 + 128)]) ++ Num.leb (y / 128).toNat = Num.leb x.toNat := by
  rw [← h, Num.leb_ge y.toNat (by omega)]
  have : (y / 128).toNat = y.toNat / 128 := by omega
  rw [this]; simp
theorem uint_last {l : List UInt8} {x y : Int} (h0 : 0 ≤ y) (hy : y < 128) (h : l ++ Num.leb y.toNat = Num.leb x.toNat) : l ++ [UInt8.ofNat y.toNat] = Num.leb x.toNat := by
  rw [← h, Num.leb_lt y.toNat (by omega)]

set_option maxHeartbeats 400000 in
theorem uint_any (x : Int) (hx : U64 x) (w : World) : Calls Tryz.prog 64 #[.int .u64 x] w fun e w' => e = .returned (.string (Num.lebS x)) ∧ Below w.heap.size w w' := by
  have h0 : 0 ≤ x := hx.1
  have h10 : (Num.leb x.toNat).length ≤ 10 := Num.leb_len10 _ (by have := hx.2; omega)
  clear hx
  go_enter Tryz.func64, Tryz.ntmps64
  go_wp2_with fail
  go_loopw [0, 3] (fun u v wr => UintRel w.heap.size x w u v wr) (fun u v _ => (intOf u).toNat)
  case atStart => exact ⟨[], x, h0, Int.le_refl _, rfl, by simp, by simp, World.ownsRow_nil _ _ _ _, Below.refl _ _⟩
  case round =>
    obtain ⟨l, y, hy, hyx, rfl, hk, hl, hown, hbel⟩ := hrel
    have hs := hbel.size
    have HL := Lib.hid hl
    clear hl
    by_cases hge : 128 ≤ y
    · go_wp2_with (at_builtin; refine wpl_append_one rfl rfl rfl rfl Tryz.underlying144 info_u8 rfl rfl hown ?c1 (by decide) hs ?_)
      case c1 => omega
      intro v' w1 hown1 hb1
      go_wp2
      go_roundw
      case rel =>
        refine ⟨l ++ [UInt8.ofNat (y.toNat % 128 + 128)], y / 128, by omega, by omega, rfl, ?_, uint_step hge HL.out, ?_, hbel.trans hb1⟩
        · have := congrArg List.length (uint_step hge HL.out)
          simp only [List.length_append, List.length_cons, List.length_nil] at this ⊢; omega
        · rw [or128 y hy] at hown1
          simpa [gB] using hown1
      case measure => simp [intOf]; omega
    · go_wp2_with (first | (at_builtin; refine wpl_append_one rfl rfl rfl rfl Tryz.underlying144 info_u8 rfl rfl hown ?c1 (by decide) hs ?_))
      case c1 => omega
      intro v' w1 hown1 hb1
      have e : y = ((UInt8.ofNat y.toNat).toNat : Int) := by rw [Num.ofNat_toNat _ (by omega)]; omega
      rw [congrArg (Value.int .u8) e] at hown1
      have hown2 : w1.ownsRow w.heap.size 5 1 v' (l.length + 1) ((Num.leb x.toNat).map fun b => .int .u8 b.toNat) := by
        rw [← uint_last hy (by omega) HL.out]; simpa [gB] using hown1
      clear hown1 e
      go_wp2_with (refine wpl_bytes_string (Num.leb x.toNat) rfl rfl rfl Tryz.underlying144 Tryz.underlying5 Tryz.underlying9 hown2 ?_)
      go_ret
      exact ⟨rfl, hbel.trans hb1⟩

/-! ### Zig, Zag, the program's and the document's -/
theorem zig_bits (x : Int) (h : I64 x) : bits .xor .u64 (IntKind.u64.wrap (IntKind.u64.wrap x * 2)) (IntKind.u64.wrap (x / 9223372036854775808)) = Num.zig x := by
  obtain ⟨h1, h2⟩ := h
  unfold Num.zig
  by_cases h0 : 0 ≤ x
  · rw [if_pos h0, IntKind.wrap_u64, IntKind.wrap_u64, IntKind.wrap_u64, u64_xor _ _ (by omega) (by omega) (by omega) (by omega)]
    have e : (x / 9223372036854775808 % 18446744073709551616).toNat = 0 := by omega
    rw [e, Nat.xor_zero]; omega
  · rw [if_neg h0, IntKind.wrap_u64, IntKind.wrap_u64, IntKind.wrap_u64, u64_xor _ _ (by omega) (by omega) (by omega) (by omega)]
    have e : (x / 9223372036854775808 % 18446744073709551616).toNat = 2 ^ 64 - 1 := by omega
    rw [e]
    have hx : ∀ a : Nat, a < 2 ^ 64 → a ^^^ (2 ^ 64 - 1) = 2 ^ 64 - 1 - a := by
      intro a ha
      have := BitVec.toNat_not (x := BitVec.ofNat 64 a)
      rw [← BitVec.xor_allOnes] at this
      simp only [BitVec.toNat_xor, BitVec.toNat_ofNat, BitVec.toNat_allOnes, Nat.mod_eq_of_lt ha] at this
      exact this
    rw [hx _ (by omega)]
    omega
theorem zag_bits (x : Int) (h : U64 x) : bits .xor .i64 (wrap64 (x / 2)) (wrap64 (-wrap64 (bits .and .u64 x 1))) = Num.zag x := by
  obtain ⟨h1, h2⟩ := h
  have ha : bits .and .u64 x 1 = x % 2 := by
    rw [u64_and x 1 h1 (by omega) (by omega) (by omega)]
    have : (x.toNat &&& (1 : Int).toNat) = x.toNat % 2 := Nat.and_two_pow_sub_one_eq_mod x.toNat 1
    rw [this]; omega
  have hw : wrap64 (x / 2) = x / 2 := by unfold wrap64; omega
  rw [ha, hw]
  unfold Num.zag
  have hk : ∀ y : Int, 0 ≤ y → y ≤ 9223372036854775807 → bits .xor .i64 y 0 = y ∧ bits .xor .i64 y (-1) = -y - 1 := by
    intro y hy1 hy2
    have b1 : (BitVec.ofInt 64 y).toNat = y.toNat := by rw [BitVec.toNat_ofInt]; omega
    constructor
    · have e : (BitVec.ofInt 64 y ^^^ BitVec.ofInt 64 0) = BitVec.ofInt 64 y := by simp
      show IntKind.i64.wrap ((BitVec.ofInt 64 y ^^^ BitVec.ofInt 64 0).toNat : Int) = y
      rw [e, IntKind.wrap_i64, b1]; omega
    · have e : (BitVec.ofInt 64 y ^^^ BitVec.ofInt 64 (-1)) = ~~~ (BitVec.ofInt 64 y) := by
        have : BitVec.ofInt 64 (-1) = BitVec.allOnes 64 := by decide
        rw [this, BitVec.xor_allOnes]
      show IntKind.i64.wrap ((BitVec.ofInt 64 y ^^^ BitVec.ofInt 64 (-1)).toNat : Int) = -y - 1
      rw [e, IntKind.wrap_i64, BitVec.toNat_not, b1]; omega
  by_cases h0 : x % 2 = 0
  · rw [if_pos h0, h0]
    have : wrap64 (-wrap64 0) = 0 := by unfold wrap64; omega
    rw [this]; exact (hk _ (by omega) (by omega)).1
  · rw [if_neg h0, show x % 2 = 1 from by omega]
    have : wrap64 (-wrap64 1) = -1 := by unfold wrap64; omega
    rw [this]; exact (hk _ (by omega) (by omega)).2
theorem ret1 {k : IntKind} {a b : Int} (h : a = b) : Ending.returned (.int k a) = .returned (.int k b) := by rw [h]
set_option maxHeartbeats 400000 in
theorem zig_any (x : Int) (hx : I64 x) (w : World) : Calls Tryz.prog 94 #[.int .i64 x] w fun e w' => e = .returned (.int .u64 (Num.zig x)) ∧ w = w' := by
  have hr := Lib.hid (zig_bits x hx); clear hx
  go_enter Tryz.func94, Tryz.ntmps94
  go_wp2
  go_ret
  exact ⟨ret1 hr.out, rfl⟩
set_option maxHeartbeats 400000 in
theorem zag_any (x : Int) (hx : U64 x) (w : World) : Calls Tryz.prog 80 #[.int .u64 x] w fun e w' => e = .returned (.int .i64 (Num.zag x)) ∧ w = w' := by
  have hr := Lib.hid (zag_bits x hx); clear hx
  go_enter Tryz.func80, Tryz.ntmps80
  go_wp2
  go_ret
  exact ⟨ret1 hr.out, rfl⟩
set_option maxHeartbeats 400000 in
theorem rzig_any (x : Int) (hx : I64 x) (w : World) : Calls Tryz.prog 113 #[.int .i64 x] w fun e w' => e = .returned (.int .u64 (Num.zig x)) ∧ w = w' := by
  have hr1 : 0 ≤ x → IntKind.u64.wrap (2 * IntKind.u64.wrap x) = Num.zig x := by
    intro h; rw [IntKind.wrap_u64, IntKind.wrap_u64]; unfold Num.zig; rw [if_pos h]; have := hx.2; omega
  have hr2 : x < 0 → IntKind.u64.wrap (IntKind.u64.wrap (2 * IntKind.u64.wrap (wrap64 (-wrap64 (x + 1)))) + 1) = Num.zig x := by
    intro h; rw [IntKind.wrap_u64, IntKind.wrap_u64, IntKind.wrap_u64]; unfold Num.zig wrap64; rw [if_neg (by omega)]; have := hx.1; omega
  have hr3 := Lib.hid hr1; have hr4 := Lib.hid hr2; clear hx hr1 hr2
  go_enter Tryz.func113, Tryz.ntmps113
  go_wp2
  all_goals go_ret
  · exact ⟨ret1 (hr3.out (by assumption)), rfl⟩
  · exact ⟨ret1 (hr4.out (by assumption)), rfl⟩
set_option maxHeartbeats 400000 in
theorem rzag_any (x : Int) (hx : U64 x) (w : World) : Calls Tryz.prog 114 #[.int .u64 x] w fun e w' => e = .returned (.int .i64 (Num.zag x)) ∧ w = w' := by
  have hr : (x.tmod 2 == 0) = true → wrap64 (IntKind.u64.wrap (x.tdiv 2)) = Num.zag x := by
    intro h; rw [IntKind.wrap_u64]; unfold Num.zag wrap64; rw [Int.tdiv_eq_ediv_of_nonneg hx.1]; rw [Int.tmod_eq_emod_of_nonneg hx.1] at h; simp at h; have := hx.1; have := hx.2; rw [if_pos h]; omega
  have hr2 : (x.tmod 2 == 0) = false → wrap64 (wrap64 (-wrap64 (IntKind.u64.wrap (x.tdiv 2))) - 1) = Num.zag x := by
    intro h; rw [IntKind.wrap_u64]; unfold Num.zag wrap64; rw [Int.tdiv_eq_ediv_of_nonneg hx.1]; rw [Int.tmod_eq_emod_of_nonneg hx.1] at h; simp at h; have := hx.1; have := hx.2; rw [if_neg (by omega)]; omega
  have hr3 := Lib.hid hr; have hr4 := Lib.hid hr2; clear hx hr hr2
  go_enter Tryz.func114, Tryz.ntmps114
  go_wp2
  all_goals go_ret
  · exact ⟨ret1 (hr3.out (by assumption)), rfl⟩
  · exact ⟨ret1 (hr4.out (by assumption)), rfl⟩
/-- A whole number's bytes, as text. -/
def intS (x : Int) : ByteArray := Num.lebS (Num.zig x)
theorem U64_zig {x : Int} (h : I64 x) : U64 (Num.zig x) := Num.zig_range x h.1 h.2
theorem I64_zag {x : Int} (h : U64 x) : I64 (Num.zag x) := Num.zag_range x h.1 h.2
set_option maxHeartbeats 400000 in
theorem int_any (x : Int) (hx : I64 x) (w : World) : Calls Tryz.prog 68 #[.int .i64 x] w fun e w' => e = .returned (.string (intS x)) ∧ Below w.heap.size w w' := by
  go_enter Tryz.func68, Tryz.ntmps68
  go_wp2_with (first | (go_at_call 94; refine (zig_any x hx _).mono ?_; rintro e w' ⟨rfl, rfl⟩) | (go_at_call 64; refine (uint_any _ (U64_zig hx) _).mono ?_; rintro e w' ⟨rfl, hb⟩))
  go_ret
  exact ⟨rfl, hb⟩

/-! ### The document's Uint -/
theorem lebS_size {x : Int} (h : x ≤ 18446744073709551615) : (Num.lebS x).size ≤ 10 := by
  have := Num.leb_len10 x.toNat (by omega)
  simpa [Num.lebS, ByteArray.size] using this
def hiByte (x : Int) : UInt8 := UInt8.ofNat (x.toNat % 128 + 128)
theorem ruint_step {x : Int} (h : 128 ≤ x) : (⟨#[hiByte x]⟩ : ByteArray) ++ Num.lebS (x / 128) = Num.lebS x := by
  unfold Num.lebS hiByte
  rw [Num.leb_ge x.toNat (by omega)]
  have : (x / 128).toNat = x.toNat / 128 := by omega
  rw [this]
  apply ByteArray.ext
  simp
theorem ruint_last {x : Int} (h0 : 0 ≤ x) (h : x < 128) : (⟨#[UInt8.ofNat x.toNat]⟩ : ByteArray) = Num.lebS x := by
  unfold Num.lebS; rw [Num.leb_lt x.toNat (by omega)]

theorem conv1 (W : World) (b : Nat) (v : Int) (h : W.cell? ⟨b, 0, none⟩ = some (.int .u8 v)) : (convert 144 9 (.slice (some ⟨b, 0, none⟩) 1 1)).run Tryz.prog W = .ok (.string ⟨#[UInt8.ofNat v.toNat]⟩) W :=
  run_conv1 Tryz.underlying144 Tryz.underlying5 Tryz.underlying9 W b v h
attribute [local go_sem] conv1
set_option maxHeartbeats 400000 in
theorem ruint_ind (n : Nat) : ∀ (x : Int) (_ : 0 ≤ x ∧ x ≤ 18446744073709551615) (_ : x < n) (w : World), Calls Tryz.prog 97 #[.int .u64 x] w fun e w' => e = .returned (.string (Num.lebS x)) ∧ Below w.heap.size w w' := by
  induction n with
  | zero => intro x hx hn; omega
  | succ n ih =>
    intro x hx hn w
    have hx0 := hx.1
    have hx1 := hx.2
    by_cases hge : x < 128
    · have hr := Lib.hid (ruint_last hx0 hge)
      clear hn ih hx
      go_enter Tryz.func97, Tryz.ntmps97
      go_wp2_with fail
      go_ret
      exact ⟨by rw [← hr.out]; rfl, (Below.refl _ _).alloc (Nat.le_refl _) _⟩
    · have ih2 := Lib.hid ih
      have hb1 : x / 128 < n := by omega
      have hb2 : x / 128 ≤ 18446744073709551615 := by omega
      have hb3 : 0 ≤ x / 128 := by omega
      have e1 : IntKind.u64.wrap (x.tdiv 128) = x / 128 := by rw [IntKind.wrap_u64, Int.tdiv_eq_ediv_of_nonneg hx0]; omega
      have e2 : UInt8.ofNat (IntKind.u8.wrap (IntKind.u64.wrap (128 + x.tmod 128))).toNat = hiByte x := by
        unfold hiByte; congr 1; rw [IntKind.wrap_u8, IntKind.wrap_u64, Int.tmod_eq_emod_of_nonneg hx0]; omega
      have hr := Lib.hid (ruint_step (x := x) (by omega))
      have hsz : (Num.lebS (x / 128)).size ≤ 10 := lebS_size (by omega)
      clear hn hx ih
      go_enter Tryz.func97, Tryz.ntmps97
      go_wp2_with fail
      go_region_with (go_at_call 97; ((with_reducible refine (ih2.out _ ⟨hb3, hb2⟩ hb1 _).mono ?_); rintro e w' ⟨rfl, hb⟩; obtain ⟨hc, hf⟩ := bcell hb))
      all_goals go_wp2
      all_goals go_ret
      all_goals refine ⟨congrArg (fun s => Ending.returned (Value.string s)) hr.out, ?_⟩
      · exact (((Below.refl _ _).alloc (Nat.le_refl _) _).drew).trans (hb.mono (by simp))
      · exact (((Below.refl _ _).alloc (Nat.le_refl _) _).drew).trans (hb.mono (by simp))
      · exact ((Below.refl _ _).drew.trans hb).alloc hb.size _
theorem ruint_any (x : Int) (hx : U64 x) (w : World) : Calls Tryz.prog 97 #[.int .u64 x] w fun e w' => e = .returned (.string (Num.lebS x)) ∧ Below w.heap.size w w' :=
  ruint_ind (x.toNat + 1) x hx (by have := hx.1; omega) w
end Go.Proofs.YtlahficmkfgooaaGreat


/- Programs, in plain terms, and as cells hold them. No condition. -/
namespace Go.Proofs.YtlahficmkfgooaaGreat
open Go.RowKit
set_option linter.unusedVariables false
namespace Cd
structure OpV where
  k : Int
  d : Int
  a : Int
  b : Int
  n : Int
structure FunV where
  args : Int
  regs : Int
  ops : List OpV
instance : Inhabited OpV := ⟨⟨0, 0, 0, 0, 0⟩⟩
instance : Inhabited FunV := ⟨⟨0, 0, []⟩⟩
def U8 (x : Int) : Prop := 0 ≤ x ∧ x ≤ 255
def OkO (o : OpV) : Prop := U8 o.k ∧ I64 o.d ∧ I64 o.a ∧ I64 o.b ∧ I64 o.n
def OkF (f : FunV) : Prop := I64 f.args ∧ I64 f.regs ∧ ∀ o ∈ f.ops, OkO o
def OkP (fs : List FunV) : Prop := ∀ f ∈ fs, OkF f
def Lim (fs : List FunV) : Prop := fs.length ≤ 60 ∧ ∀ f ∈ fs, f.ops.length ≤ 200
/-! ### What kinds have -/
def kd (k : Int) : Bool := (decide (1 ≤ k) && decide (k ≤ 9)) || k == 12
def ka (k : Int) : Bool := (decide (2 ≤ k) && decide (k ≤ 9)) || k == 11 || k == 12 || k == 14
def kb (k : Int) : Bool := decide (3 ≤ k) && decide (k ≤ 9)
def kn (k : Int) : Bool := k == 1 || k == 10 || k == 11 || k == 12
def known (k : Int) : Bool := decide (1 ≤ k) && decide (k ≤ 14)
def regB (x : Int) : Bool := decide (0 ≤ x) && decide (x ≤ 16)
def formB (o : OpV) : Bool := known o.k && (regB o.d && (regB o.a && regB o.b)) && (kd o.k || o.d == 0) && (ka o.k || o.a == 0) && (kb o.k || o.b == 0) && (kn o.k || o.n == 0)
def funB (f : FunV) : Bool := regB f.args && regB f.regs && decide (f.ops.length ≤ 64) && f.ops.all formB
def mayB (fs : List FunV) : Bool := decide (fs.length ≤ 16) && fs.all funB
/-! ### How they lie -/
def opA (o : OpV) : Array Value := #[.int .u8 o.k, .int .i64 o.d, .int .i64 o.a, .int .i64 o.b, .int .i64 o.n]
def OpsAt (w : World) (v : Value) (l : List OpV) : Prop :=
  ∃ p cap, v = .slice p l.length cap ∧ (0 < l.length → ∃ g off, p = some ⟨g, off, none⟩ ∧ g < w.heap.size ∧ ∀ i (h : i < l.length) j, j < 5 → w.cell? ⟨g, off + i * 5 + j, none⟩ = (opA l[i])[j]?)
def FunsAt (w : World) (v : Value) (fs : List FunV) : Prop :=
  ∃ p cap, v = .slice p fs.length cap ∧ (0 < fs.length → ∃ g off, p = some ⟨g, off, none⟩ ∧ g < w.heap.size ∧ ∀ i (h : i < fs.length), w.cell? ⟨g, off + i * 3, none⟩ = some (.int .i64 fs[i].args) ∧ w.cell? ⟨g, off + i * 3 + 1, none⟩ = some (.int .i64 fs[i].regs) ∧
    ∃ vo, w.cell? ⟨g, off + i * 3 + 2, none⟩ = some vo ∧ OpsAt w vo fs[i].ops)
theorem OpsAt.below {w w' : World} {v : Value} {l : List OpV} (h : OpsAt w v l) (hb : Below w.heap.size w w') : OpsAt w' v l := by
  obtain ⟨p, cap, rfl, hx⟩ := h
  refine ⟨p, cap, rfl, fun hl => ?_⟩
  obtain ⟨g, off, rfl, hg, hc⟩ := hx hl
  exact ⟨g, off, rfl, Nat.lt_of_lt_of_le hg hb.size, fun i hi j hj => by rw [hb.cell (p := ⟨g, _, none⟩) hg]; exact hc i hi j hj⟩
theorem FunsAt.below {w w' : World} {v : Value} {l : List FunV} (h : FunsAt w v l) (hb : Below w.heap.size w w') : FunsAt w' v l := by
  obtain ⟨p, cap, rfl, hx⟩ := h
  refine ⟨p, cap, rfl, fun hl => ?_⟩
  obtain ⟨g, off, rfl, hg, hc⟩ := hx hl
  refine ⟨g, off, rfl, Nat.lt_of_lt_of_le hg hb.size, fun i hi => ?_⟩
  obtain ⟨h1, h2, vo, h3, h4⟩ := hc i hi
  exact ⟨by rw [hb.cell (p := ⟨g, _, none⟩) hg]; exact h1, by rw [hb.cell (p := ⟨g, _, none⟩) hg]; exact h2, vo, by rw [hb.cell (p := ⟨g, _, none⟩) hg]; exact h3, h4.below hb⟩
theorem OpsAt.alloc {w : World} {v : Value} {l : List OpV} (h : OpsAt w v l) (o : Obj) : OpsAt (w.alloc o) v l := h.below ((Below.refl _ _).alloc (Nat.le_refl _) o)
theorem FunsAt.alloc {w : World} {v : Value} {l : List FunV} (h : FunsAt w v l) (o : Obj) : FunsAt (w.alloc o) v l := h.below ((Below.refl _ _).alloc (Nat.le_refl _) o)
theorem OpsAt.drew {w : World} {v : Value} {l : List OpV} (h : OpsAt w v l) : OpsAt w.drew v l := h
theorem FunsAt.drew {w : World} {v : Value} {l : List FunV} (h : FunsAt w v l) : FunsAt w.drew v l := h
theorem OpsAt.slice {w : World} {v : Value} {l : List OpV} (h : OpsAt w v l) : ∃ p cap, v = .slice p l.length cap := by obtain ⟨p, cap, e, _⟩ := h; exact ⟨p, cap, e⟩
theorem FunsAt.slice {w : World} {v : Value} {l : List FunV} (h : FunsAt w v l) : ∃ p cap, v = .slice p l.length cap := by obtain ⟨p, cap, e, _⟩ := h; exact ⟨p, cap, e⟩
end Cd
end Go.Proofs.YtlahficmkfgooaaGreat


/- The map of what kinds have: 'of', 'has', and what a look into it yields. No condition. -/
namespace Go.Proofs.YtlahficmkfgooaaGreat
open Go.RowKit Cd Go.Maps
set_option linter.unusedVariables false
namespace Cd
abbrev DU := DataW Unit
def KU (x : Int) : Lit := .int .u8 x
theorem ku_ne {x y : Int} (h : x ≠ y) : KU x ≠ KU y := fun e => h (by unfold KU at e; injection e)
theorem ku_key (x : Int) : WideAt.IsKeyLit (KU x) := by unfold KU; trivial
def pv (d a b n : Bool) : Value := .agg #[.bool d, .bool a, .bool b, .bool n]
def pd (d a b n : Bool) : DU := .agg [.lit (.bool d), .lit (.bool a), .lit (.bool b), .lit (.bool n)]
def partE (v : Value) : Option (DU × List MemPlace) :=
  match v with
  | .agg cs => match cs.toList with
    | [.bool d, .bool a, .bool b, .bool n] => some (pd d a b n, [])
    | _ => none
  | _ => none
theorem partE_mk (d a b n : Bool) : partE (pv d a b n) = some (pd d a b n, []) := rfl
theorem partE_inv {v : Value} {d a b n : Bool} {ps : List MemPlace} (h : partE v = some (pd d a b n, ps)) : v = pv d a b n := by
  unfold partE at h
  split at h
  · rename_i cs
    split at h
    · rename_i d' a' b' n' e
      simp only [Option.some.injEq, Prod.mk.injEq, pd, DataW.agg.injEq, List.cons.injEq, DataW.lit.injEq, Lit.bool.injEq, and_true] at h
      obtain ⟨⟨rfl, rfl, rfl, rfl⟩, _⟩ := h
      have : cs = #[.bool d', .bool a', .bool b', .bool n'] := by rw [← Array.toArray_toList (xs := cs), e]
      rw [this]; rfl
    · cases h
  · cases h
def st (D : DU) (xs : List Int) (d a b n : Bool) : DU := xs.foldl (fun D x => D.put (KU x) (pd d a b n)) D
theorem st_take {D : DU} {xs : List Int} {d a b n : Bool} {i : Nat} (h : i < xs.length) : st D (xs.take (i + 1)) d a b n = (st D (xs.take i) d a b n).put (KU xs[i]) (pd d a b n) := by
  unfold st; rw [List.take_succ_eq_append_getElem h, List.foldl_append]; rfl
/-- The map, as it reads. -/
def pm : DU := st (st (st (st (st (st (st (st (.map []) [1] true false false true) [2] true true false false) [3, 4, 5, 6, 7, 8, 9] true true true false) [10] false false false true) [11] false true false true) [12] true true false true) [13] false false false false) [14] false true false false
theorem pm_has (k : Int) : has pm (KU k) = known k := by
  by_cases h : 1 ≤ k ∧ k ≤ 14
  · have : k = 1 ∨ k = 2 ∨ k = 3 ∨ k = 4 ∨ k = 5 ∨ k = 6 ∨ k = 7 ∨ k = 8 ∨ k = 9 ∨ k = 10 ∨ k = 11 ∨ k = 12 ∨ k = 13 ∨ k = 14 := by omega
    rcases this with rfl | rfl | rfl | rfl | rfl | rfl | rfl | rfl | rfl | rfl | rfl | rfl | rfl | rfl <;> (show _ = _; kernel_rfl)
  · have h1 : known k = false := by unfold known; rw [Bool.and_eq_false_iff, decide_eq_false_iff_not, decide_eq_false_iff_not]; omega
    rw [h1]
    simp only [pm, st, List.foldl_cons, List.foldl_nil]
    iterate 14 rw [has_put_other (ku_ne (by omega))]
    rfl
theorem pm_at (k : Int) : pm.atKey (KU k) (pd false false false false) = pd (kd k) (ka k) (kb k) (kn k) := by
  by_cases h : 1 ≤ k ∧ k ≤ 14
  · have : k = 1 ∨ k = 2 ∨ k = 3 ∨ k = 4 ∨ k = 5 ∨ k = 6 ∨ k = 7 ∨ k = 8 ∨ k = 9 ∨ k = 10 ∨ k = 11 ∨ k = 12 ∨ k = 13 ∨ k = 14 := by omega
    rcases this with rfl | rfl | rfl | rfl | rfl | rfl | rfl | rfl | rfl | rfl | rfl | rfl | rfl | rfl <;> (show _ = _; kernel_rfl)
  · have e : ∀ n : Int, 1 ≤ n → n ≤ 14 → ¬ k = n := fun n h1 h2 e => h ⟨by omega, by omega⟩
    have e1 : ∀ n : Int, 1 ≤ n → n ≤ 14 → (k == n) = false := fun n h1 h2 => by simpa using e n h1 h2
    have h1 : kd k = false := by unfold kd; rw [e1 12 (by omega) (by omega), Bool.or_false, Bool.and_eq_false_iff, decide_eq_false_iff_not, decide_eq_false_iff_not]; omega
    have h2 : ka k = false := by unfold ka; rw [e1 12 (by omega) (by omega), e1 11 (by omega) (by omega), e1 14 (by omega) (by omega), Bool.or_false, Bool.or_false, Bool.or_false, Bool.and_eq_false_iff, decide_eq_false_iff_not, decide_eq_false_iff_not]; omega
    have h3 : kb k = false := by unfold kb; rw [Bool.and_eq_false_iff, decide_eq_false_iff_not, decide_eq_false_iff_not]; omega
    have h4 : kn k = false := by unfold kn; rw [e1 1 (by omega) (by omega), e1 10 (by omega) (by omega), e1 11 (by omega) (by omega), e1 12 (by omega) (by omega)]; rfl
    rw [h1, h2, h3, h4]
    simp only [pm, st, List.foldl_cons, List.foldl_nil]
    iterate 14 rw [atKey_put_other (ku_ne (by omega))]
    rfl
end Cd
theorem kdU : Keyed Tryz.prog 5 := int_keyed Tryz.underlying5
theorem keyU {x : Int} (h : U8 x) : keyOf Tryz.prog 5 (.int .u8 x) = some (KU x) := keyOf_int_mk Tryz.underlying5 (WalkArith.wf_u8 (by unfold U8 at h; omega))
abbrev PM (w : World) (b n : Nat) (D : DU) : Prop := w.ownsMap Tryz.prog 5 partE b n D
theorem zP (w : World) : (zeroValue 183).run Tryz.prog w = .ok (pv false false false false) w := Tryz.zeroValue183 w
/-- Block b is the map. -/
def Look (w : World) (b : Nat) : Prop := PM w b 14 pm
theorem Look.below {w w' : World} {b : Nat} (h : Look w b) (hb : Below w.heap.size w w') : Look w' b := h.kept (row := none) ⟨hb.os, hb.tape, hb.output, hb.size, fun i hi _ => hb.block i hi⟩ (by simp)
theorem Look.alloc {w : World} {b : Nat} (h : Look w b) (o : Obj) : Look (w.alloc o) b := h.below ((Below.refl _ _).alloc (Nat.le_refl _) o)
theorem Look.ok {w : World} {b : Nat} (h : Look w b) {k : Int} (hk : U8 k) :
    (Instr.lookup 185 (.map (some b)) (.int .u8 k) true).run Tryz.prog w = .ok (.tuple #[.agg #[.bool (kd k), .bool (ka k), .bool (kb k), .bool (kn k)], .bool (known k)]) w := by
  obtain ⟨v, ps, hr, hv⟩ := World.ownsMap.look_ok h kdU Tryz.underlying185 (zP w) (partE_mk _ _ _ _) (keyU hk)
  rw [pm_at] at hv
  rw [hr, partE_inv hv, pm_has]
  rfl
theorem Look.at {w : World} {b : Nat} (h : Look w b) {k : Int} (hk : U8 k) :
    (Instr.lookup 185 (.map (some b)) (.int .u8 k) false).run Tryz.prog w = .ok (.agg #[.bool (kd k), .bool (ka k), .bool (kb k), .bool (kn k)]) w := by
  obtain ⟨v, ps, hr, hv⟩ := World.ownsMap.lookup h kdU Tryz.underlying185 (zP w) (partE_mk _ _ _ _) (keyU hk)
  rw [pm_at] at hv
  rw [hr, partE_inv hv]
  rfl
end Go.Proofs.YtlahficmkfgooaaGreat


/- The walks of 'of' and 'has'. No condition. -/
namespace Go.Proofs.YtlahficmkfgooaaGreat
open Go.RowKit Cd Go.Maps
set_option linter.unusedVariables false
theorem only_of_grown {b : Nat} {w w' : World} (h : w.grownBy w' (some b)) : Only (· = b) w w' := ⟨h.os, h.tape, h.output, h.size, fun i hi hne => h.block i hi (fun e => hne (by injection e))⟩
def OfRel (w1 : World) (b N : Nat) (D : DU) (xs : List Int) (d a b' n : Bool) (u : Value) (wr : World) : Prop :=
  ∃ i : Nat, i ≤ xs.length ∧ u = .int .i64 i ∧ PM wr b (N + i) (st D (xs.take i) d a b' n) ∧ Only (· = b) w1 wr
def OfPost (w : World) (b N : Nat) (D : DU) (xs : List Int) (d a b' n : Bool) (e : Ending) (w' : World) : Prop := e = .returned (.tuple #[]) ∧ PM w' b (N + xs.length) (st D xs d a b' n) ∧ Only (· = b) w w'
set_option maxRecDepth 100000 in
set_option maxHeartbeats 1000000 in
theorem of_any {w : World} {b N : Nat} {D : DU} (h : PM w b N D) (hN : N ≤ 1000) (d a b' n : Bool) (xs : List Int) (hx : ∀ x ∈ xs, U8 x) (hl : xs.length ≤ 100) {g : Nat} {T : TypeId} (hg : Blk w g T (xs.map (Value.int .u8)).toArray) (hne : g ≠ b) :
    Calls Tryz.prog 126 #[.agg #[.bool d, .bool a, .bool b', .bool n], .map (some b), .slice (some ⟨g, 0, none⟩) xs.length xs.length] w (OfPost w b N D xs d a b' n) := by
  have H0 := Lib.hid (h.alloc (.cells #[.bool d, .bool a, .bool b', .bool n] 183))
  have HG := Lib.hid (hg.alloc (.cells #[.bool d, .bool a, .bool b', .bool n] 183))
  have HT := Lib.hid (Blk.new w 183 #[.bool d, .bool a, .bool b', .bool n])
  have HX := Lib.hid hx
  have HO := Lib.hid ((Only.refl (· = b) w).alloc (.cells #[.bool d, .bool a, .bool b', .bool n] 183))
  have hlt := h.lt
  clear h hg hx
  go_enter Tryz.func126, Tryz.ntmps126
  go_wp2
  have h0 : OfRel (w.alloc (.cells #[.bool d, .bool a, .bool b', .bool n] 183)) b N D xs d a b' n (.int .i64 0) (w.alloc (.cells #[.bool d, .bool a, .bool b', .bool n] 183)) := ⟨0, by omega, rfl, H0.out, Only.refl _ _⟩
  clear H0
  generalize hw1 : w.alloc (.cells #[.bool d, .bool a, .bool b', .bool n] 183) = w1 at *
  go_loopw [10] (fun u wr => OfRel w1 b N D xs d a b' n u wr) (fun u _ => ((xs.length : Int) - intOf u).toNat)
  case atStart => exact h0
  case round =>
    obtain ⟨k, hk1, rfl, hP, ho⟩ := hrel
    have HP := Lib.hid hP
    have HQ := Lib.hid ho
    by_cases hk : k < xs.length
    · have x0 : wr.cell? ⟨g, k, none⟩ = some (.int .u8 xs[k]) := by
        have := (HG.out.only ho hne).cell k
        rw [this]; simp [hk]
      have hb := (HT.out.only ho (by omega))
      have y0 : wr.cell? ⟨w.heap.size, 0, none⟩ = some (.bool d) := hb.cell 0
      have y1 : wr.cell? ⟨w.heap.size, 1, none⟩ = some (.bool a) := hb.cell 1
      have y2 : wr.cell? ⟨w.heap.size, 2, none⟩ = some (.bool b') := hb.cell 2
      have y3 : wr.cell? ⟨w.heap.size, 3, none⟩ = some (.bool n) := hb.cell 3
      have hk8 := HX.out _ (List.getElem_mem hk)
      have hst := st_take (D := D) (d := d) (a := a) (b := b') (n := n) hk
      clear hP ho hb h0
      generalize xs[k] = x at *
      go_wp2_with (at_mapUpdate; refine wpList_mapUpdate_own _ rfl _ _ _ 185 rfl 5 183 kdU Tryz.underlying185 _ b (N + k) _ rfl HP.out (by unfold maxLen; omega) _ _ (KU x) rfl rfl (keyU hk8) (pd d a b' n) [] (partE_mk _ _ _ _) ?_; intro w5 oH gH; have HX5 := Lib.hid oH; have HO5 := Lib.hid (HQ.out.trans (only_of_grown gH)); clear oH gH)
      go_roundw
      case rel => exact ⟨k + 1, by omega, rfl, by rw [hst]; exact HX5.out, HO5.out⟩
      case measure => simp [intOf]; omega
    · have : k = xs.length := by omega
      subst this
      clear hP ho h0
      go_wp2
      go_end0
      have := HP.out
      rw [List.take_length] at this
      exact ⟨rfl, this, HO.out.trans HQ.out⟩
theorem of_at {w : World} {b N : Nat} {D : DU} (h : PM w b N D) (hN : N ≤ 1000) (d a b' n : Bool) (xs : List Int) (hx : ∀ x ∈ xs, U8 x) (hl : xs.length ≤ 100) {g : Nat} {T : TypeId} {A : Array Value} (hA : A = (xs.map (Value.int .u8)).toArray) {m : Nat} (hm : m = xs.length) (hg : Blk w g T A) (hne : b < g) :
    Calls Tryz.prog 126 #[.agg #[.bool d, .bool a, .bool b', .bool n], .map (some b), .slice (some ⟨g, 0, none⟩) m m] w (OfPost w b N D xs d a b' n) := by
  subst hA hm; exact of_any h hN d a b' n xs hx hl hg (by omega)
def HasPost (w : World) (e : Ending) (w' : World) : Prop := ∃ b, e = .returned (.map (some b)) ∧ Look w' b ∧ Below w.heap.size w w'
theorem of_u8 : ∀ x ∈ ([3, 4, 5, 6, 7, 8, 9] : List Int), U8 x := by intro x h; unfold U8; simp at h; omega
theorem of_u1 {y : Int} (h : 0 ≤ y ∧ y ≤ 255) : ∀ x ∈ ([y] : List Int), U8 x := by intro x hx; unfold U8; simp at hx; omega
set_option maxRecDepth 100000 in
set_option maxHeartbeats 1000000 in
theorem has_any (w : World) : Calls Tryz.prog 115 #[] w (HasPost w) := by
  have hmm := @run_makeMap Tryz.prog
  have P0 := Lib.hid (show PM (w.alloc (.map #[] 0)) w.heap.size 0 (.map []) from World.ownsMap_made w Tryz.prog 5 partE)
  have B0 := Lib.hid (Only.refl (· = w.heap.size) (w.alloc (.map #[] 0)))
  go_enter Tryz.func115, Tryz.ntmps115
  go_wp2_with (first | (go_at_call 126; ((with_reducible refine (of_at (P0.out.alloc (.cells #[.int .u8 1] 5)) (by decide) true false false true [1] (of_u1 (by decide)) (by decide) (m := 1) (T := 5) (A := #[.int .u8 1]) rfl rfl (by first | exact Blk.new _ _ _ | (have := Blk.new (w.alloc (.map #[] 0)) 5 #[.int .u8 1]; simpa using this)) (by first | exact P0.out.lt | omega)).mono ?_); rintro e v1 ⟨rfl, oH, oO⟩; have P1 := Lib.hid oH; have B1 := Lib.hid (B0.out.trans (((Only.refl (· = w.heap.size) _).alloc (.cells #[.int .u8 1] 5)).trans oO)); clear oH oO)) | (go_at_call 126; ((with_reducible refine (of_at (P1.out.alloc (.cells #[.int .u8 2] 5)) (by decide) true true false false [2] (of_u1 (by decide)) (by decide) (m := 1) (T := 5) (A := #[.int .u8 2]) rfl rfl (by first | exact Blk.new _ _ _ | (have := Blk.new (w.alloc (.map #[] 0)) 5 #[.int .u8 2]; simpa using this)) (by first | exact P1.out.lt | omega)).mono ?_); rintro e v2 ⟨rfl, oH, oO⟩; have P2 := Lib.hid oH; have B2 := Lib.hid (B1.out.trans (((Only.refl (· = w.heap.size) _).alloc (.cells #[.int .u8 2] 5)).trans oO)); clear oH oO)) | (go_at_call 126; ((with_reducible refine (of_at (P2.out.alloc (.cells #[.int .u8 3, .int .u8 4, .int .u8 5, .int .u8 6, .int .u8 7, .int .u8 8, .int .u8 9] 5)) (by decide) true true true false [3, 4, 5, 6, 7, 8, 9] of_u8 (by decide) (m := 7) (T := 5) (A := #[.int .u8 3, .int .u8 4, .int .u8 5, .int .u8 6, .int .u8 7, .int .u8 8, .int .u8 9]) rfl rfl (by first | exact Blk.new _ _ _ | (have := Blk.new (w.alloc (.map #[] 0)) 5 #[.int .u8 3, .int .u8 4, .int .u8 5, .int .u8 6, .int .u8 7, .int .u8 8, .int .u8 9]; simpa using this)) (by first | exact P2.out.lt | omega)).mono ?_); rintro e v3 ⟨rfl, oH, oO⟩; have P3 := Lib.hid oH; have B3 := Lib.hid (B2.out.trans (((Only.refl (· = w.heap.size) _).alloc (.cells #[.int .u8 3, .int .u8 4, .int .u8 5, .int .u8 6, .int .u8 7, .int .u8 8, .int .u8 9] 5)).trans oO)); clear oH oO)) | (go_at_call 126; ((with_reducible refine (of_at (P3.out.alloc (.cells #[.int .u8 10] 5)) (by decide) false false false true [10] (of_u1 (by decide)) (by decide) (m := 1) (T := 5) (A := #[.int .u8 10]) rfl rfl (by first | exact Blk.new _ _ _ | (have := Blk.new (w.alloc (.map #[] 0)) 5 #[.int .u8 10]; simpa using this)) (by first | exact P3.out.lt | omega)).mono ?_); rintro e v4 ⟨rfl, oH, oO⟩; have P4 := Lib.hid oH; have B4 := Lib.hid (B3.out.trans (((Only.refl (· = w.heap.size) _).alloc (.cells #[.int .u8 10] 5)).trans oO)); clear oH oO)) | (go_at_call 126; ((with_reducible refine (of_at (P4.out.alloc (.cells #[.int .u8 11] 5)) (by decide) false true false true [11] (of_u1 (by decide)) (by decide) (m := 1) (T := 5) (A := #[.int .u8 11]) rfl rfl (by first | exact Blk.new _ _ _ | (have := Blk.new (w.alloc (.map #[] 0)) 5 #[.int .u8 11]; simpa using this)) (by first | exact P4.out.lt | omega)).mono ?_); rintro e v5 ⟨rfl, oH, oO⟩; have P5 := Lib.hid oH; have B5 := Lib.hid (B4.out.trans (((Only.refl (· = w.heap.size) _).alloc (.cells #[.int .u8 11] 5)).trans oO)); clear oH oO)) | (go_at_call 126; ((with_reducible refine (of_at (P5.out.alloc (.cells #[.int .u8 12] 5)) (by decide) true true false true [12] (of_u1 (by decide)) (by decide) (m := 1) (T := 5) (A := #[.int .u8 12]) rfl rfl (by first | exact Blk.new _ _ _ | (have := Blk.new (w.alloc (.map #[] 0)) 5 #[.int .u8 12]; simpa using this)) (by first | exact P5.out.lt | omega)).mono ?_); rintro e v6 ⟨rfl, oH, oO⟩; have P6 := Lib.hid oH; have B6 := Lib.hid (B5.out.trans (((Only.refl (· = w.heap.size) _).alloc (.cells #[.int .u8 12] 5)).trans oO)); clear oH oO)) | (go_at_call 126; ((with_reducible refine (of_at (P6.out.alloc (.cells #[.int .u8 13] 5)) (by decide) false false false false [13] (of_u1 (by decide)) (by decide) (m := 1) (T := 5) (A := #[.int .u8 13]) rfl rfl (by first | exact Blk.new _ _ _ | (have := Blk.new (w.alloc (.map #[] 0)) 5 #[.int .u8 13]; simpa using this)) (by first | exact P6.out.lt | omega)).mono ?_); rintro e v7 ⟨rfl, oH, oO⟩; have P7 := Lib.hid oH; have B7 := Lib.hid (B6.out.trans (((Only.refl (· = w.heap.size) _).alloc (.cells #[.int .u8 13] 5)).trans oO)); clear oH oO)) | (go_at_call 126; ((with_reducible refine (of_at (P7.out.alloc (.cells #[.int .u8 14] 5)) (by decide) false true false false [14] (of_u1 (by decide)) (by decide) (m := 1) (T := 5) (A := #[.int .u8 14]) rfl rfl (by first | exact Blk.new _ _ _ | (have := Blk.new (w.alloc (.map #[] 0)) 5 #[.int .u8 14]; simpa using this)) (by first | exact P7.out.lt | omega)).mono ?_); rintro e v8 ⟨rfl, oH, oO⟩; have P8 := Lib.hid oH; have B8 := Lib.hid (B7.out.trans (((Only.refl (· = w.heap.size) _).alloc (.cells #[.int .u8 14] 5)).trans oO)); clear oH oO)))
  go_ret
  exact ⟨w.heap.size, rfl, P8.out, ((Below.refl _ _).alloc (Nat.le_refl _) (.map #[] 0)).trans (B8.out.below (by simp) (fun k hk => by omega))⟩
end Go.Proofs.YtlahficmkfgooaaGreat


/- The walks of layer 1's readers and of how many bytes a number has. No condition but that a text is no longer than Go lets it be. -/
namespace Go.Proofs.YtlahficmkfgooaaGreat
open Go.RowKit
set_option linter.unusedVariables false

theorem bl (s : ByteArray) : s.data.toList.length = s.size := rfl
theorem bat (s : ByteArray) (k : Nat) (h : k < s.size) : s.data.toList[k]'(by rw [bl]; exact h) = s[k] := rfl
/-- What is read of a text: the number, how many bytes, the fault. -/
def rdS (s : ByteArray) : Nat × Nat × Nat := Num.rd s.data.toList
theorem read_end {s : ByteArray} {k : Nat} (h : Num.Up s.data.toList k) (hk : k ≤ s.size) (h1 : ¬ k < s.size) (h2 : k < 10) : rdS s = (0, 0, 10) := Num.rd_end h (by rw [bl]; omega) h2
theorem read_far {s : ByteArray} {k : Nat} (h : Num.Up s.data.toList k) (h2 : ¬ k < 10) : rdS s = (0, 0, 8) := Num.rd_far h (by omega)
theorem read_zero {s : ByteArray} {k : Nat} (h : Num.Up s.data.toList k) (h1 : k < s.size) (h2 : k < 10) (h3 : s[k].toNat < 128) (h4 : s[k].toNat = 0) (h5 : 1 ≤ k) : rdS s = (0, 0, 8) := by
  unfold rdS; rw [Num.rd_at h h1 h2 (by rw [bat s k h1]; exact h3), if_pos ⟨by rw [bat s k h1]; exact h4, h5⟩]
theorem read_over {s : ByteArray} {k : Nat} (h : Num.Up s.data.toList k) (h1 : k < s.size) (h2 : k < 10) (h3 : s[k].toNat < 128) (h4 : k = 9) (h5 : 1 < s[k].toNat) : rdS s = (0, 0, 8) := by
  unfold rdS; rw [Num.rd_at h h1 h2 (by rw [bat s k h1]; exact h3), if_neg (by rw [bat s k h1]; omega), if_pos ⟨h4, by rw [bat s k h1]; exact h5⟩]
theorem read_ok {s : ByteArray} {k : Nat} (h : Num.Up s.data.toList k) (h1 : k < s.size) (h2 : k < 10) (h3 : s[k].toNat < 128) (h4 : ¬ (s[k].toNat = 0 ∧ 1 ≤ k)) (h5 : ¬ (k = 9 ∧ 1 < s[k].toNat)) : rdS s = (Num.val (s.data.toList.take (k + 1)), k + 1, 0) := by
  unfold rdS; rw [Num.rd_at h h1 h2 (by rw [bat s k h1]; exact h3), if_neg (by rw [bat s k h1]; exact h4), if_neg (by rw [bat s k h1]; exact h5)]
theorem read_next {s : ByteArray} {k : Nat} (h : Num.Up s.data.toList k) (h1 : k < s.size) (h3 : 128 ≤ s[k].toNat) : Num.Up s.data.toList (k + 1) := Num.up_succ h h1 (by rw [bat s k h1]; exact h3)
/-- What the program's reader adds. -/
theorem read_bits {s : ByteArray} {k : Nat} (h1 : k < s.size) (h2 : k < 10) (h5 : k = 9 → s[k].toNat % 128 ≤ 1) :
    bits .or .u64 (Num.val (s.data.toList.take k) : Nat) (IntKind.u64.wrap (IntKind.u64.wrap (bits .and .u8 (s[k].toNat : Int) 127) * 2 ^ (7 * k))) = (Num.val (s.data.toList.take (k + 1)) : Nat) := by
  have hv := Num.val_take_lt s.data.toList k
  have hb := s[k].toNat_lt
  have ha : bits .and .u8 (s[k].toNat : Int) 127 = ((s[k].toNat % 128 : Nat) : Int) := by
    have h127 : (127 : Int) = ((127 : Nat) : Int) := rfl
    rw [h127, u8_and_nat s[k].toNat 127 hb (by omega)]
    have : s[k].toNat &&& 127 = s[k].toNat % 128 := Nat.and_two_pow_sub_one_eq_mod s[k].toNat 7
    rw [this]
  rw [ha, IntKind.wrap_u64, IntKind.wrap_u64]
  have hp : (128 : Nat) ^ k = 2 ^ (7 * k) := by rw [Nat.pow_mul]
  have e9 : (128 : Nat) ^ 9 = 9223372036854775808 := by decide
  have hm : (s[k].toNat % 128) * 128 ^ k < 18446744073709551616 := by
    by_cases h9 : k = 9
    · subst h9; rw [e9]; have := h5 rfl; omega
    · have h6 : (128 : Nat) ^ k * 128 ≤ 128 ^ 9 := by rw [← Nat.pow_succ]; exact Nat.pow_le_pow_right (by omega) (by omega)
      have h7 : (s[k].toNat % 128) * 128 ^ k ≤ 127 * 128 ^ k := Nat.mul_le_mul_right _ (by omega)
      omega
  have hv2 : 128 ^ k ≤ 9223372036854775808 := by rw [← e9]; exact Nat.pow_le_pow_right (by omega) (by omega)
  have ew : (((s[k].toNat % 128 : Nat) : Int) % 18446744073709551616 * 2 ^ (7 * k)) % 18446744073709551616 = (((s[k].toNat % 128) * 128 ^ k : Nat) : Int) := by
    have e1 : ((s[k].toNat % 128 : Nat) : Int) % 18446744073709551616 = ((s[k].toNat % 128 : Nat) : Int) := by omega
    have e2 : ((2 : Int) ^ (7 * k)) = ((128 ^ k : Nat) : Int) := by rw [hp]; simp
    rw [e1, e2, ← Int.natCast_mul]
    omega
  rw [ew, u64_or_nat _ _ (by omega) hm, Nat.or_comm]
  rw [nat_join (7 * k) ((s[k].toNat % 128) * 128 ^ k) _ (by rw [hp]; exact Nat.mul_mod_left _ _) (by rw [← hp]; exact hv)]
  rw [Num.val_step (l := s.data.toList) (k := k) h1, bat s k h1, Nat.mul_comm]
  congr 1; omega
/-- What the program's reader finds at its loop's head. -/
def ReadRel (s : ByteArray) (x n last : Value) : Prop :=
  ∃ k : Nat, k ≤ s.size ∧ k ≤ 10 ∧ n = .int .i64 k ∧ Num.Up s.data.toList k ∧ (∃ y : Nat, x = .int .u64 y ∧ (k < 10 → y = Num.val (s.data.toList.take k))) ∧ ∃ c : Int, 128 ≤ c ∧ last = .int .u8 c
theorem ret3 {a b c : Nat} {a' b' c' : Int} (h1 : a' = a) (h2 : b' = b) (h3 : c' = c) : Ending.returned (.tuple #[.int .u64 a', .int .i64 b', .int .i64 c']) = .returned (.tuple #[.int .u64 a, .int .i64 b, .int .i64 c]) := by rw [h1, h2, h3]
def ReadPost (s : ByteArray) (w : World) (e : Ending) (w' : World) : Prop :=
  e = .returned (.tuple #[.int .u64 ((rdS s).1 : Nat), .int .i64 ((rdS s).2.1 : Nat), .int .i64 ((rdS s).2.2 : Nat)]) ∧ w = w'
theorem read_post {s : ByteArray} {w : World} {a b c : Nat} {a' b' c' : Int} (h : rdS s = (a, b, c)) (h1 : a' = a) (h2 : b' = b) (h3 : c' = c) : ReadPost s w (.returned (.tuple #[.int .u64 a', .int .i64 b', .int .i64 c'])) w := by
  unfold ReadPost; rw [h, h1, h2, h3]; exact ⟨rfl, rfl⟩
set_option maxRecDepth 100000 in
set_option maxHeartbeats 1000000 in
theorem read_raw (s : ByteArray) (hs : s.size ≤ maxLen) (w : World) : Calls Tryz.prog 100 #[.string s] w (ReadPost s w) := by
  unfold maxLen at hs
  go_enter Tryz.func100, Tryz.ntmps100
  go_wp2_with fail
  go_step3
  go_wp2_with fail
  go_step3
  go_wp2_with fail
  go_loop [2, 3, 5] (fun x n last => ReadRel s x n last) (fun _ n _ => 10 - (intOf n).toNat)
  case atStart => exact ⟨0, Nat.zero_le _, Nat.zero_le _, rfl, Num.up_zero _, ⟨0, rfl, fun _ => rfl⟩, 128, by omega, rfl⟩
  case round =>
    obtain ⟨k, hk, hk10, rfl, hup, ⟨y, rfl, hy⟩, c, hc, rfl⟩ := hrel
    have HUP := Lib.hid hup
    clear hup
    by_cases hlt : k < s.size
    · by_cases h10 : k < 10
      · obtain rfl := hy h10
        by_cases hb : 128 ≤ s[k].toNat
        · have H1 := Lib.hid (read_next HUP.out hlt hb)
          have H2 := Lib.hid (read_bits (s := s) hlt h10)
          clear hy
          go_wp2_with fail
          go_round
          case rel =>
            refine ⟨k + 1, by omega, by omega, by go_num, H1.out, ⟨(bits .or .u64 (Num.val (s.data.toList.take k) : Nat) (IntKind.u64.wrap (IntKind.u64.wrap (bits .and .u8 (s[k].toNat : Int) 127) * 2 ^ (7 * k)))).toNat, ?_, fun h => ?_⟩, _, by omega, rfl⟩
            · have hw : 0 ≤ bits .or .u64 (Num.val (s.data.toList.take k) : Nat) (IntKind.u64.wrap (IntKind.u64.wrap (bits .and .u8 (s[k].toNat : Int) 127) * 2 ^ (7 * k))) := by
                simp only [bits]; rw [IntKind.wrap_u64]; omega
              rw [Int.toNat_of_nonneg hw]
            · rw [H2.out (by omega)]; rfl
          case measure => simp [intOf]; omega
        · by_cases hz : s[k].toNat = 0 ∧ 1 ≤ k
          · have H1 := Lib.hid (read_zero HUP.out hlt h10 (by omega) hz.1 hz.2)
            obtain ⟨hz1, hz2⟩ := hz
            clear hy
            go_wp2_with fail
            all_goals (go_ret3; exact read_post H1.out rfl rfl rfl)
          · by_cases ho : k = 9 ∧ 1 < s[k].toNat
            · have H1 := Lib.hid (read_over HUP.out hlt h10 (by omega) ho.1 ho.2)
              have ho1 : 9 ≤ k := by omega
              have ho2 : 1 < s[k].toNat := ho.2
              clear hy hz ho
              go_wp2_with fail
              all_goals (go_ret3; exact read_post H1.out rfl rfl rfl)
            · have H1 := Lib.hid (read_ok HUP.out hlt h10 (by omega) hz ho)
              have H2 := Lib.hid (read_bits (s := s) hlt h10 (by omega))
              by_cases h0 : s[k].toNat = 0
              · have H3 : Hid (bits .or .u64 (Num.val (s.data.toList.take k) : Nat) (IntKind.u64.wrap (IntKind.u64.wrap (bits .and .u8 0 127) * 2 ^ (7 * k))) = (Num.val (s.data.toList.take (k + 1)) : Nat)) := by
                  refine Lib.hid ?_
                  have h := H2.out
                  rw [h0] at h; exact h
                have hk0 : k < 1 := by omega
                clear hy hz ho
                go_wp2_with fail
                all_goals (go_ret3; exact read_post H1.out H3.out (by omega) rfl)
              · have hz' : k = 9 → s[k].toNat ≤ 1 := by omega
                clear hy hz ho
                go_wp2_with fail
                all_goals (go_ret3; exact read_post H1.out H2.out (by omega) rfl)
      · have H1 := Lib.hid (read_far HUP.out h10)
        clear hy
        go_wp2_with fail
        all_goals (go_ret3; exact read_post H1.out rfl rfl rfl)
    · by_cases h10 : k < 10
      · have H1 := Lib.hid (read_end HUP.out hk hlt h10)
        clear hy
        go_wp2_with fail
        all_goals (go_ret3; exact read_post H1.out rfl rfl rfl)
      · have H1 := Lib.hid (read_far HUP.out h10)
        clear hy
        go_wp2_with fail
        all_goals (go_ret3; exact read_post H1.out rfl rfl rfl)
end Go.Proofs.YtlahficmkfgooaaGreat


/- The walks of the document's readers of layer 1, of how many bytes a number has, and of the statements' own example. No condition but that a text is no longer than Go lets it be. -/
namespace Go.Proofs.YtlahficmkfgooaaGreat
open Go.RowKit
set_option linter.unusedVariables false

/-- The document's loop that looks for the last byte. -/
def RRel1 (s : ByteArray) (n : Value) : Prop := ∃ k : Nat, k ≤ s.size ∧ k ≤ 10 ∧ n = .int .i64 k ∧ Num.Up s.data.toList k
/-- The document's loop that adds up. -/
def vmod (s : ByteArray) (n j : Nat) : Int := ((Num.val ((s.data.toList.take (n + 1)).drop j) % 18446744073709551616 : Nat) : Int)
theorem vmod_range (s : ByteArray) (n j : Nat) : 0 ≤ vmod s n j ∧ vmod s n j ≤ 18446744073709551615 := by unfold vmod; omega
def RRel2 (s : ByteArray) (n : Nat) (x i : Value) : Prop :=
  ∃ j : Nat, j ≤ n + 1 ∧ i = .int .i64 ((j : Int) - 1) ∧ x = .int .u64 (vmod s n j)
theorem rr_step {s : ByteArray} {n j : Nat} (hn : n < s.size) (hj : j ≤ n) :
    IntKind.u64.wrap (IntKind.u64.wrap (128 * vmod s n (j + 1)) + (s[j].toNat : Int) % 128) = vmod s n j := by
  unfold vmod
  have hl : j < (s.data.toList.take (n + 1)).length := by rw [List.length_take, bl]; omega
  rw [Num.val_drop hl, IntKind.wrap_u64, IntKind.wrap_u64]
  have hb : (s.data.toList.take (n + 1))[j] = s[j] := by rw [List.getElem_take]; exact bat s j (by omega)
  rw [hb]
  omega
theorem take_mk (s : ByteArray) (n : Nat) (x : ByteArray) : x = s.extract 0 (n + 1) ↔ x.data.toList = s.data.toList.take (n + 1) := by
  constructor
  · intro h; subst h; simp [ByteArray.data_extract]
  · intro h; apply ByteArray.ext; apply Array.toList_inj.1; rw [h]; simp [ByteArray.data_extract]
def RReadPost (s : ByteArray) (w : World) (e : Ending) (w' : World) : Prop :=
  e = .returned (.tuple #[.int .u64 ((rdS s).1 : Nat), .int .i64 ((rdS s).2.1 : Nat), .int .i64 ((rdS s).2.2 : Nat)]) ∧ Below w.heap.size w w'
theorem rread_post {s : ByteArray} {w w' : World} {a b c : Nat} {a' b' c' : Int} (h : rdS s = (a, b, c)) (h1 : a' = a) (h2 : b' = b) (h3 : c' = c) (hb : Below w.heap.size w w') : RReadPost s w (.returned (.tuple #[.int .u64 a', .int .i64 b', .int .i64 c'])) w' := by
  unfold RReadPost; rw [h, h1, h2, h3]; exact ⟨rfl, hb⟩
theorem rread_yes {s : ByteArray} {k : Nat} (h : Num.Up s.data.toList k) (h1 : k < s.size) (h2 : k < 10) (h3 : s[k].toNat < 128)
    (he : Num.lebS (vmod s k 0) = s.extract 0 (k + 1)) : rdS s = (Num.val (s.data.toList.take (k + 1)) % 18446744073709551616, k + 1, 0) := by
  rw [take_mk] at he
  exact (Num.rd_ref h h1 h2 (by rw [bat s k h1]; exact h3)).1 (by simpa only [Num.lebS, vmod, Int.toNat_natCast, List.drop_zero] using he)
theorem rread_no {s : ByteArray} {k : Nat} (h : Num.Up s.data.toList k) (h1 : k < s.size) (h2 : k < 10) (h3 : s[k].toNat < 128)
    (he : ¬ Num.lebS (vmod s k 0) = s.extract 0 (k + 1)) : rdS s = (0, 0, 8) := by
  rw [take_mk] at he
  exact (Num.rd_ref h h1 h2 (by rw [bat s k h1]; exact h3)).2 (by simpa only [Num.lebS, vmod, Int.toNat_natCast, List.drop_zero] using he)
set_option maxRecDepth 100000 in
set_option maxHeartbeats 1000000 in
theorem rread_raw (s : ByteArray) (hs : s.size ≤ maxLen) (w : World) : Calls Tryz.prog 101 #[.string s] w (RReadPost s w) := by
  unfold maxLen at hs
  go_enter Tryz.func101, Tryz.ntmps101
  go_wp2_with fail
  go_loop [5] (fun n => RRel1 s n) (fun n => 10 - (intOf n).toNat)
  case atStart => exact ⟨0, Nat.zero_le _, Nat.zero_le _, rfl, Num.up_zero _⟩
  case round =>
    obtain ⟨k, hk, hk10, rfl, hup⟩ := hrel
    have HUP := Lib.hid hup
    clear hup
    by_cases hlt : k < s.size
    · by_cases h10 : k < 10
      · by_cases hb : 128 ≤ s[k].toNat
        · have H1 := Lib.hid (read_next HUP.out hlt hb)
          go_wp2_with fail
          go_round
          case rel => exact ⟨k + 1, by omega, by omega, by go_num, H1.out⟩
          case measure => simp [intOf]; omega
        · have hat : (0 : Int) = vmod s k (k + 1) := by
            unfold vmod
            rw [List.drop_eq_nil_of_le (by rw [List.length_take]; exact Nat.min_le_left _ _)]; rfl
          have HAT := Lib.hid hat
          clear hat
          have hne : ((k : Int) == (s.size : Int)) = false := by simp; omega
          have hne2 : ((k : Int) == 10) = false := by simp; omega
          go_wp2_with fail
          go_loop [6, 7] (fun x i => RRel2 s k x i) (fun _ i => (intOf i + 1).toNat)
          case atStart =>
            exact ⟨k + 1, by omega, congrArg (Value.int .i64) (by omega), by rw [← HAT.out]⟩
          case round =>
            obtain ⟨j, hj, rfl, rfl⟩ := hrel
            by_cases h0 : 1 ≤ j
            · obtain ⟨i, rfl⟩ : ∃ i, j = i + 1 := ⟨j - 1, by omega⟩
              have H1 := Lib.hid (rr_step (s := s) hlt (j := i) (by omega))
              go_wp2_with fail
              go_round
              case rel => exact ⟨i, by omega, rfl, by rw [H1.out]⟩
              case measure => simp only [intOf]; omega
            · have hv := vmod_range s k 0
              obtain rfl : j = 0 := by omega
              have hU : U64 (vmod s k 0) := hv
              have HY := Lib.hid (fun he => rread_yes HUP.out hlt h10 (by omega) he)
              have HN := Lib.hid (fun he => rread_no HUP.out hlt h10 (by omega) he)
              have ek : (k + 1 : Int) ≤ s.size := by omega
              have e3 : IntKind.i64.wrap ((k : Int) + 1) = (k : Int) + 1 := IntWalk.i64_in _ (by omega)
              have e4 : (0 : Int) ≤ (k : Int) + 1 := by omega
              have e5 : ((k : Int) + 1).toNat = k + 1 := by omega
              clear hv
              go_wp2_with fail
              go_region_with (go_at_call 97; ((with_reducible refine (ruint_any _ hU _).mono ?_); rintro e w' ⟨rfl, hb⟩))
              all_goals clear e3 e4 e5
              all_goals go_wp2_with fail
              · go_ret3
                exact rread_post (HN.out (str_nt ‹_›)) rfl rfl rfl ((Below.refl _ _).drew.trans hb)
              · go_ret3
                exact rread_post (HY.out (str_nf ‹_›)) (by unfold vmod; rw [List.drop_zero]) (by omega) rfl ((Below.refl _ _).drew.trans hb)
      · have H1 := Lib.hid (read_far HUP.out h10)
        have hk1 : 10 ≤ k := by omega
        have hne : ((k : Int) == (s.size : Int)) = false := by simp; omega
        have hne2 : ((k : Int) == 10) = true := by simp; omega
        go_wp2_with fail
        all_goals (go_ret3; exact rread_post H1.out rfl rfl rfl (Below.refl _ _))
    · by_cases h10 : k < 10
      · have H1 := Lib.hid (read_end HUP.out hk hlt h10)
        have hne : ((k : Int) == (s.size : Int)) = true := by simp; omega
        go_wp2_with fail
        all_goals (go_ret3; exact rread_post H1.out rfl rfl rfl (Below.refl _ _))
      · have H1 := Lib.hid (read_far HUP.out h10)
        have hk1 : 10 ≤ k := by omega
        have hne : ((k : Int) == (s.size : Int)) = true := by simp; omega
        have hne2 : ((k : Int) == 10) = true := by simp; omega
        go_wp2_with fail
        all_goals (go_ret3; exact rread_post H1.out rfl rfl rfl (Below.refl _ _))

/-! ### ReadInt -/
def readIntV (s : ByteArray) : Value := .tuple #[.int .i64 (Num.zag ((rdS s).1 : Nat)), .int .i64 ((rdS s).2.1 : Nat), .int .i64 ((rdS s).2.2 : Nat)]
theorem rdS_U64 (s : ByteArray) : U64 ((rdS s).1 : Nat) := by
  have h : (rdS s).1 < 18446744073709551616 := by
    rcases hr : rdS s with ⟨x, n, e⟩
    by_cases he : e = 0
    · subst he; exact (Num.rd_ok hr).2.2.1
    · have := Num.rd_err (l := s.data.toList)
      unfold rdS at hr
      rw [hr] at this
      simp at this
      rcases this with h | h
      · exact absurd h he
      · show x < _; omega
  unfold U64; omega
set_option maxHeartbeats 400000 in
theorem rread_int_any (s : ByteArray) (hs : s.size ≤ maxLen) (w : World) : Calls Tryz.prog 103 #[.string s] w fun e w' => e = .returned (readIntV s) ∧ Below w.heap.size w w' := by
  have hU := rdS_U64 s
  go_enter Tryz.func103, Tryz.ntmps103
  go_wp2_with (first | (go_at_call 101; ((with_reducible refine (rread_raw s hs _).mono ?_); rintro e w' ⟨rfl, hb⟩)) | (go_at_call 114; ((with_reducible refine (rzag_any _ hU _).mono ?_); rintro e w' ⟨rfl, rfl⟩)))
  go_ret3
  exact ⟨rfl, hb⟩
set_option maxHeartbeats 400000 in
theorem rint_any (x : Int) (hx : I64 x) (w : World) : Calls Tryz.prog 98 #[.int .i64 x] w fun e w' => e = .returned (.string (intS x)) ∧ Below w.heap.size w w' := by
  have hU := U64_zig hx
  go_enter Tryz.func98, Tryz.ntmps98
  go_wp2_with (first | (go_at_call 113; ((with_reducible refine (rzig_any x hx _).mono ?_); rintro e w' ⟨rfl, rfl⟩)) | (go_at_call 97; ((with_reducible refine (ruint_any _ hU _).mono ?_); rintro e w' ⟨rfl, hb⟩)))
  go_ret
  exact ⟨rfl, hb⟩

end Go.Proofs.YtlahficmkfgooaaGreat
