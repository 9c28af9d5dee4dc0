/- The document's example of bricks comes true. No condition. -/
import Derived.Test.YtppkfpphefonoaaWireZ
namespace Go.Proofs.Ytppkfpphefonoaa
open Go.RowKit Wire
set_option linter.unusedVariables false
namespace Wire
def z0 : ByteArray := ⟨#[5, 172, 2, 1, 1, 97, 0, 1]⟩
def z1 : ByteArray := ⟨#[172, 2, 1, 1, 97, 0, 1]⟩
def z2 : ByteArray := ⟨#[1, 1, 97, 0, 1]⟩
def z3 : ByteArray := ⟨#[1, 97, 0, 1]⟩
def z4 : ByteArray := ⟨#[0, 1]⟩
def z5 : ByteArray := ⟨#[1]⟩
def z6 : ByteArray := ⟨#[]⟩
def zy : ByteArray := ⟨#[5]⟩
def xs5 (i : Nat) : Int := if i = 0 then 5 else 300
def xs9 (i : Nat) : Int := if i = 0 then 299 else 300
def xm1 (i : Nat) : Int := -1
def xta (i : Nat) : ByteArray := if i = 0 then ⟨#[97]⟩ else ⟨#[]⟩
def xbt (i : Nat) : Bool := true
theorem k1 : numV z0 0 (uC z0 5) = 5 ∧ numS z0 0 (uC z0 5) = z1 ∧ numE z0 0 (uC z0 5) = 0 := ⟨by kernel_rfl, by kernel_rfl, by kernel_rfl⟩
theorem k2 : numV z1 0 (tC z1 xs9 2) = 300 ∧ numS z1 0 (tC z1 xs9 2) = z2 ∧ numE z1 0 (tC z1 xs9 2) = 0 := ⟨by kernel_rfl, by kernel_rfl, by kernel_rfl⟩
theorem k3 : Num.zag (numV z2 0 (iC z2 (-1) 0)) = -1 ∧ numS z2 0 (iC z2 (-1) 0) = z3 ∧ numE z2 0 (iC z2 (-1) 0) = 0 := ⟨by kernel_rfl, by kernel_rfl, by kernel_rfl⟩
theorem k4 : txV z3 0 1 = ⟨#[97]⟩ ∧ txS z3 0 1 = z4 ∧ txE z3 0 1 = 0 := ⟨by kernel_rfl, by kernel_rfl, by kernel_rfl⟩
theorem k5 : txV z4 0 0 = ⟨#[]⟩ ∧ txS z4 0 0 = z5 ∧ txE z4 0 0 = 0 := ⟨by kernel_rfl, by kernel_rfl, by kernel_rfl⟩
theorem k6 : (numV z5 0 (bC z5) == 1) = true ∧ numS z5 0 (bC z5) = z6 ∧ numE z5 0 (bC z5) = 0 := ⟨by kernel_rfl, by kernel_rfl, by kernel_rfl⟩
theorem k7 : endE z6 0 = 0 := by kernel_rfl
theorem k8 : numV zy 0 (uC zy 4) = 0 ∧ numS zy 0 (uC zy 4) = zy ∧ numE zy 0 (uC zy 4) = 9 := ⟨by kernel_rfl, by kernel_rfl, by kernel_rfl⟩
theorem k9 : endE zy 9 = 9 := by kernel_rfl
theorem c1 : cat (fun i => Num.lebS (xs5 i)) 2 = [5, 172, 2] := by kernel_rfl
theorem c2 : cat (fun i => intS (xm1 i)) 1 = [1] := by kernel_rfl
theorem c3 : cat (fun i => textS (xta i)) 2 = [1, 97, 0] := by kernel_rfl
theorem c4 : cat (fun i => boolS (xbt i)) 1 = [1] := by kernel_rfl
end Wire
section
variable {b : Nat} {w : World}
theorem ak1 (h : PR w b z0 0) : Calls Try.prog 36 #[.pointer (some ⟨b, 0, none⟩), .int .u64 5] w (NumPost b w 5 z1 0) := by
  have := puint_any h 5; rw [k1.1, k1.2.1, k1.2.2] at this; exact this
theorem slic2 (w : World) (T : TypeId) (a0 a1 : Value) (f : Nat → Value) (h0 : f 0 = a0) (h1 : f 1 = a1) : Slic (w.alloc (.cells #[a0, a1] T)) (.slice (some ⟨w.heap.size, 0, none⟩) 2 2) 2 f :=
  ⟨_, _, rfl, fun _ => ⟨_, 0, rfl, by simp, fun i hi => by
    rw [(Blk.new w _ _).cell]
    rcases i with _ | _ | i
    · rw [h0]; rfl
    · rw [h1]; rfl
    · omega⟩⟩
theorem slic1 (w : World) (T : TypeId) (a0 : Value) (f : Nat → Value) (h0 : f 0 = a0) : Slic (w.alloc (.cells #[a0] T)) (.slice (some ⟨w.heap.size, 0, none⟩) 1 1) 1 f :=
  ⟨_, _, rfl, fun _ => ⟨_, 0, rfl, by simp, fun i hi => by
    rw [(Blk.new w _ _).cell]
    rcases i with _ | i
    · rw [h0]; rfl
    · omega⟩⟩
theorem ak2 (h : PR w b z1 0) : Calls Try.prog 48 #[.pointer (some ⟨b, 0, none⟩), .slice (some ⟨w.heap.size, 0, none⟩) 2 2] (w.alloc (.cells #[.int .u64 299, .int .u64 300] 29)) (fun e w' => e = .returned (.int .u64 300) ∧ PR w' b z2 0 ∧ Only (· = b) w w') := by
  have := ptag_any (h.alloc (.cells #[.int .u64 299, .int .u64 300] 29)) (xs := xs9) (slic2 w 29 (.int .u64 299) (.int .u64 300) _ rfl rfl) (by omega)
  rw [k2.1, k2.2.1, k2.2.2] at this; exact this.mono fun e w' h => ⟨h.1, h.2.1, ((Only.refl _ _).alloc _).trans h.2.2⟩
theorem ak3 (h : PR w b z2 0) : Calls Try.prog 37 #[.pointer (some ⟨b, 0, none⟩), .int .i64 (-1), .int .i64 0] w (IntPost b w (-1) z3 0) := by
  have := pint_any h (-1) 0; rw [k3.1, k3.2.1, k3.2.2] at this; exact this
theorem ak4 (h : PR w b z3 0) : Calls Try.prog 38 #[.pointer (some ⟨b, 0, none⟩), .int .i64 1] w (TextPost b w ⟨#[97]⟩ z4 0) := by
  have := ptext_any h 1 (by unfold I64; omega); rw [k4.1, k4.2.1, k4.2.2] at this; exact this
theorem ak5 (h : PR w b z4 0) : Calls Try.prog 38 #[.pointer (some ⟨b, 0, none⟩), .int .i64 0] w (TextPost b w ⟨#[]⟩ z5 0) := by
  have := ptext_any h 0 (by unfold I64; omega); rw [k5.1, k5.2.1, k5.2.2] at this; exact this
theorem ak6 (h : PR w b z5 0) : Calls Try.prog 44 #[.pointer (some ⟨b, 0, none⟩)] w (BoolPost b w true z6 0) := by
  have := pbool_any h; rw [k6.1, k6.2.1, k6.2.2] at this; exact this
theorem ak7 (h : PR w b z6 0) : Calls Try.prog 39 #[.pointer (some ⟨b, 0, none⟩)] w (IntPost b w 0 z6 0) := by
  have := pend_any h; rw [k7] at this; exact this
theorem ak8 (h : PR w b zy 0) : Calls Try.prog 36 #[.pointer (some ⟨b, 0, none⟩), .int .u64 4] w (NumPost b w 0 zy 9) := by
  have := puint_any h 4; rw [k8.1, k8.2.1, k8.2.2] at this; exact this
theorem ak9 (h : PR w b zy 9) : Calls Try.prog 39 #[.pointer (some ⟨b, 0, none⟩)] w (IntPost b w 9 zy 9) := by
  have := pend_any h; rw [k9] at this; exact this
theorem aw1 (w : World) : Calls Try.prog 31 #[.slice (some ⟨w.heap.size, 0, none⟩) 2 2] (w.alloc (.cells #[.int .u64 5, .int .u64 300] 29)) (fun e w' => e = .returned (.string ⟨#[5, 172, 2]⟩) ∧ Below w.heap.size w w') := by
  have := uints_any (x := xs5) (slic2 w 29 (.int .u64 5) (.int .u64 300) _ rfl rfl) (by omega) (fun i _ => by unfold U64 xs5; split <;> omega)
  unfold AllPost at this; rw [c1] at this; exact this.mono fun e w' h => ⟨h.1, ((Below.refl _ _).alloc (Nat.le_refl _) _).trans (h.2.mono (by simp))⟩
theorem aw2 (w : World) : Calls Try.prog 32 #[.slice (some ⟨w.heap.size, 0, none⟩) 1 1] (w.alloc (.cells #[.int .i64 (-1)] 2)) (fun e w' => e = .returned (.string ⟨#[1]⟩) ∧ Below w.heap.size w w') := by
  have := ints_any (x := xm1) (slic1 w 2 (.int .i64 (-1)) _ rfl) (by omega) (fun i _ => by unfold I64 xm1; omega)
  unfold AllPost at this; rw [c2] at this; exact this.mono fun e w' h => ⟨h.1, ((Below.refl _ _).alloc (Nat.le_refl _) _).trans (h.2.mono (by simp))⟩
theorem aw3 (w : World) : Calls Try.prog 33 #[.slice (some ⟨w.heap.size, 0, none⟩) 2 2] (w.alloc (.cells #[.string ⟨#[97]⟩, .string ⟨#[]⟩] 9)) (fun e w' => e = .returned (.string ⟨#[1, 97, 0]⟩) ∧ Below w.heap.size w w') := by
  have := texts_any (x := xta) (slic2 w 9 (.string ⟨#[97]⟩) (.string ⟨#[]⟩) _ rfl rfl) (by omega) (fun i _ => by unfold xta; split <;> simp [ByteArray.size]) (by rw [c3]; decide)
  unfold AllPost at this; rw [c3] at this; exact this.mono fun e w' h => ⟨h.1, ((Below.refl _ _).alloc (Nat.le_refl _) _).trans (h.2.mono (by simp))⟩
theorem aw4 (w : World) : Calls Try.prog 34 #[.slice (some ⟨w.heap.size, 0, none⟩) 1 1] (w.alloc (.cells #[.bool true] 4)) (fun e w' => e = .returned (.string ⟨#[1]⟩) ∧ Below w.heap.size w w') := by
  have := bools_any (x := xbt) (slic1 w 4 (.bool true) _ rfl) (by omega)
  unfold AllPost at this; rw [c4] at this; exact this.mono fun e w' h => ⟨h.1, ((Below.refl _ _).alloc (Nat.le_refl _) _).trans (h.2.mono (by simp))⟩
theorem ak10 (h : PR w b zy 9) : Calls Try.prog 51 #[.pointer (some ⟨b, 0, none⟩)] w fun e w' => e = .returned (.int .i64 1) ∧ w = w' := pleft_any h
theorem bonly {b : Nat} {w w1 w2 : World} (h : Below w.heap.size w w1) (ho : Only (· = b) w1 w2) (hb : w.heap.size ≤ b) : Below w.heap.size w w2 :=
  ⟨ho.os.trans h.os, ho.tape.trans h.tape, ho.output.trans h.output, Nat.le_trans h.size ho.size, fun k hk => (ho.block k (Nat.lt_of_lt_of_le hk h.size) (by omega)).trans (h.block k hk)⟩
theorem wnew_z {s : ByteArray} (z : ByteArray) (hs : s = z) (hz : z.size ≤ maxLen) (w : World) : Calls Try.prog 35 #[.string s] w (WNewPost z w) := by
  subst hs; exact wnew_any s hz w
end
set_option maxRecDepth 100000 in
set_option maxHeartbeats 4000000 in
theorem alive_any (w : World) : Calls Try.prog 26 #[] w fun e w' => e = .returned (.bool true) ∧ Below w.heap.size w w' := by
  go_enter Try.func26, Try.ntmps26
  go_wp2_with (first | (go_at_call 31; ((with_reducible refine (aw1 _).mono ?_); rintro e w1 ⟨rfl, b1⟩)) | (go_at_call 32; ((with_reducible refine (aw2 _).mono ?_); rintro e w2 ⟨rfl, b2⟩)) | (go_at_call 33; ((with_reducible refine (aw3 _).mono ?_); rintro e w3 ⟨rfl, b3⟩)) | (go_at_call 34; ((with_reducible refine (aw4 _).mono ?_); rintro e w4 ⟨rfl, b4⟩)))
  have hz : ((⟨#[5, 172, 2]⟩ : ByteArray) ++ ⟨#[1]⟩ ++ ⟨#[1, 97, 0]⟩ ++ ⟨#[1]⟩) = ⟨#[5, 172, 2, 1, 1, 97, 0, 1]⟩ := by kernel_rfl
  rw [hz]
  have b5 := ((b1.trans (b2.mono b1.size)).trans (b3.mono (b1.trans (b2.mono b1.size)).size)).trans (b4.mono ((b1.trans (b2.mono b1.size)).trans (b3.mono (b1.trans (b2.mono b1.size)).size)).size)
  clear b1 b2 b3 b4 hz
  go_wp2_with (first | (go_at_call 35; first | ((refine (wnew_z z0 (by rfl) (by decide) _).mono ?_); rintro e w5 ⟨rfl, h0, b6⟩; have H0 := Lib.hid h0; clear h0)) | (go_at_call 36; ((with_reducible refine (ak1 H0.out).mono ?_); rintro e w6 ⟨rfl, h, o1⟩; have H1 := Lib.hid h; clear h)) | (go_at_call 48; ((with_reducible refine (ak2 H1.out).mono ?_); rintro e w7 ⟨rfl, h, o2⟩; have H2 := Lib.hid h; clear h)) | (go_at_call 37; ((with_reducible refine (ak3 H2.out).mono ?_); rintro e w8 ⟨rfl, h, o3⟩; have H3 := Lib.hid h; clear h)) | (go_at_call 38; ((with_reducible refine (ak4 H3.out).mono ?_); rintro e w9 ⟨rfl, h, o4⟩; have H4 := Lib.hid h; clear h)) | (go_at_call 38; ((with_reducible refine (ak5 H4.out).mono ?_); rintro e w10 ⟨rfl, h, o5⟩; have H5 := Lib.hid h; clear h)) | (go_at_call 44; ((with_reducible refine (ak6 H5.out).mono ?_); rintro e w11 ⟨rfl, h, o6⟩; have H6 := Lib.hid h; clear h)) | (go_at_call 39; ((with_reducible refine (ak7 H6.out).mono ?_); rintro e w12 ⟨rfl, h, o7⟩; have H7 := Lib.hid h; clear h)))
  have b7 := b5.trans (b6.mono b5.size)
  have c1 := bonly (bonly (bonly (bonly (bonly (bonly (bonly b7 o1 b5.size) o2 b5.size) o3 b5.size) o4 b5.size) o5 b5.size) o6 b5.size) o7 b5.size
  clear b5 b6 b7 o1 o2 o3 o4 o5 o6 o7 H0 H1 H2 H3 H4 H5 H6 H7
  go_wp2_with (first | (go_at_call 35; first | ((refine (wnew_z zy (by rfl) (by decide) _).mono ?_); rintro e w13 ⟨rfl, h0, b6⟩; have H0 := Lib.hid h0; clear h0)) | (go_at_call 36; ((with_reducible refine (ak8 H0.out).mono ?_); rintro e w14 ⟨rfl, h, o1⟩; have H1 := Lib.hid h; clear h)) | (go_at_call 40; ((with_reducible refine (perr_any H1.out).mono ?_); rintro e w' ⟨rfl, rfl⟩)) | (go_at_call 51; ((with_reducible refine (ak10 H1.out).mono ?_); rintro e w' ⟨rfl, rfl⟩)) | (go_at_call 39; ((with_reducible refine (ak9 H1.out).mono ?_); rintro e w15 ⟨rfl, h, o2⟩; have H2 := Lib.hid h; clear h)))
  go_ret
  refine ⟨rfl, ?_⟩
  have c2 := c1.trans (b6.mono c1.size)
  exact bonly (bonly c2 o1 c1.size) o2 c1.size
end Go.Proofs.Ytppkfpphefonoaa
