/- The statements of layer 1, walked: each returns true and leaves what was there. No condition but that a text is no longer than Go lets it be. -/
import Derived.Test.YtopffnibejlpjaaNumR2
namespace Go.Proofs.Ytopffnibejlpjaa
open Go.RowKit
set_option linter.unusedVariables false

def True1 (w : World) (e : Ending) (w' : World) : Prop := e = .returned (.bool true) ∧ Below w.heap.size w w'
theorem read_at (s : ByteArray) (a b c : Nat) (h : rdS s = (a, b, c)) (hs : s.size ≤ maxLen) (w : World) :
    Calls Try.prog 17 #[.string s] w fun e w' => e = .returned (.tuple #[.int .u64 a, .int .i64 b, .int .i64 c]) ∧ w = w' :=
  (read_raw s hs w).mono fun e w' hp => by unfold ReadPost at hp; rw [h] at hp; exact hp
theorem read_int_at (s : ByteArray) (a b c : Nat) (h : rdS s = (a, b, c)) (hs : s.size ≤ maxLen) (w : World) :
    Calls Try.prog 19 #[.string s] w fun e w' => e = .returned (.tuple #[.int .i64 (Num.zag (a : Nat)), .int .i64 b, .int .i64 c]) ∧ w = w' :=
  (read_int_any s hs w).mono fun e w' hp => by unfold readIntV at hp; rw [h] at hp; exact hp
theorem uint_at (x : Int) (s : ByteArray) (h : Num.lebS x = s) (hx : U64 x) (w : World) : Calls Try.prog 7 #[.int .u64 x] w fun e w' => e = .returned (.string s) ∧ Below w.heap.size w w' := by
  rw [← h]; exact uint_any x hx w
theorem int_at (x : Int) (s : ByteArray) (h : intS x = s) (hx : I64 x) (w : World) : Calls Try.prog 10 #[.int .i64 x] w fun e w' => e = .returned (.string s) ∧ Below w.heap.size w w' := by
  rw [← h]; exact int_any x hx w
theorem size_at (x n : Int) (h : ((Num.lebS x).size : Int) = n) (hx : U64 x) (w : World) : Calls Try.prog 9 #[.int .u64 x] w fun e w' => e = .returned (.int .i64 n) ∧ w = w' := by
  rw [← h]; exact size_any x hx w
theorem zig_at (x n : Int) (h : Num.zig x = n) (hx : I64 x) (w : World) : Calls Try.prog 12 #[.int .i64 x] w fun e w' => e = .returned (.int .u64 n) ∧ w = w' := by
  rw [← h]; exact zig_any x hx w
theorem zag_at (x n : Int) (h : Num.zag x = n) (hx : U64 x) (w : World) : Calls Try.prog 14 #[.int .u64 x] w fun e w' => e = .returned (.int .i64 n) ∧ w = w' := by
  rw [← h]; exact zag_any x hx w
set_option maxHeartbeats 1000000 in
theorem alive_any (w : World) : Calls Try.prog 16 #[] w (True1 w) := by
  go_enter Try.func16, Try.ntmps16
  go_wp2_with fail
  refine (read_at _ 300 2 0 (by decide +kernel) (by decide +kernel) _).mono ?_; rintro e w' ⟨rfl, rfl⟩
  go_wp2_with fail
  refine (read_at _ 0 0 10 (by decide +kernel) (by decide +kernel) _).mono ?_; rintro e w' ⟨rfl, rfl⟩
  go_wp2_with fail
  refine (read_at _ 0 0 8 (by decide +kernel) (by decide +kernel) _).mono ?_; rintro e w' ⟨rfl, rfl⟩
  go_wp2_with fail
  refine (read_int_at _ 1 1 0 (by decide +kernel) (by decide +kernel) _).mono ?_; rintro e w' ⟨rfl, rfl⟩
  go_wp2_with fail
  refine (uint_at _ ⟨#[172, 2]⟩ (by decide +kernel) (by unfold U64; decide) _).mono ?_; rintro e w1 ⟨rfl, hb1⟩
  go_wp2_with fail
  refine (int_at _ ⟨#[127]⟩ (by decide +kernel) (by unfold I64; decide) _).mono ?_; rintro e w2 ⟨rfl, hb2⟩
  go_wp2_with fail
  refine (size_at _ 2 (by decide +kernel) (by unfold U64; decide) _).mono ?_; rintro e w' ⟨rfl, rfl⟩
  go_wp2_with fail
  refine (zig_at _ 3 (by decide +kernel) (by unfold I64; decide) _).mono ?_; rintro e w' ⟨rfl, rfl⟩
  go_wp2_with fail
  refine (zag_at _ (-2) (by decide +kernel) (by unfold U64; decide) _).mono ?_; rintro e w' ⟨rfl, rfl⟩
  go_wp2_with fail
  go_ret
  exact ⟨rfl, hb1.trans (hb2.mono hb1.size)⟩
set_option maxHeartbeats 1000000 in
theorem writes_any (x y : Int) (hx : U64 x) (hy : I64 y) (w : World) : Calls Try.prog 3 #[.int .u64 x, .int .i64 y] w (True1 w) := by
  go_enter Try.func3, Try.ntmps3
  go_wp2_with fail
  refine (uint_any _ hx _).mono ?_; rintro e w1 ⟨rfl, hb1⟩
  go_wp2_with fail
  refine (ruint_any _ hx _).mono ?_; rintro e w2 ⟨rfl, hb2⟩
  go_wp2_with fail
  refine (size_any _ hx _).mono ?_; rintro e w' ⟨rfl, rfl⟩
  go_wp2_with fail
  refine (ruint_any _ hx _).mono ?_; rintro e w3 ⟨rfl, hb3⟩
  go_wp2_with fail
  refine (int_any _ hy _).mono ?_; rintro e w4 ⟨rfl, hb4⟩
  go_wp2_with fail
  refine (rint_any _ hy _).mono ?_; rintro e w5 ⟨rfl, hb5⟩
  go_wp2_with fail
  refine (zig_any _ hy _).mono ?_; rintro e w' ⟨rfl, rfl⟩
  go_wp2_with fail
  refine (rzig_any _ hy _).mono ?_; rintro e w' ⟨rfl, rfl⟩
  go_wp2_with fail
  refine (zag_any _ hx _).mono ?_; rintro e w' ⟨rfl, rfl⟩
  go_wp2_with fail
  refine (rzag_any _ hx _).mono ?_; rintro e w' ⟨rfl, rfl⟩
  go_wp2_with fail
  refine (alive_any _).mono ?_; rintro e w6 ⟨rfl, hb6⟩
  go_wp2_with fail
  go_ret
  exact ⟨rfl, (((((hb1.trans (hb2.mono hb1.size)).step hb3).step hb4).step hb5).step hb6)⟩
set_option maxHeartbeats 1000000 in
theorem reads_any (s : ByteArray) (_ : s.size ≤ maxLen) (w : World) : Calls Try.prog 4 #[.string s] w (True1 w) := by
  by_cases hs : s.size ≤ 4096
  · have hm : s.size ≤ maxLen := by unfold maxLen; omega
    have HM := Lib.hid hm
    clear hm
    go_enter Try.func4, Try.ntmps4
    go_wp2_with fail
    refine (read_raw _ HM.out _).mono ?_; rintro e w' ⟨rfl, rfl⟩
    go_wp2_with fail
    refine (rread_raw _ HM.out _).mono ?_; rintro e w1 ⟨rfl, hb1⟩
    go_wp2_with fail
    refine (read_int_any _ HM.out _).mono ?_; rintro e w' ⟨rfl, rfl⟩
    unfold readIntV
    go_wp2_with fail
    refine (rread_int_any _ HM.out _).mono ?_; rintro e w2 ⟨rfl, hb2⟩
    unfold readIntV
    go_wp2_with fail
    refine (alive_any _).mono ?_; rintro e w3 ⟨rfl, hb3⟩
    go_wp2_with fail
    go_ret
    exact ⟨rfl, (hb1.step hb2).step hb3⟩
  · go_enter Try.func4, Try.ntmps4
    go_wp2_with fail
    refine (alive_any _).mono ?_; rintro e w3 ⟨rfl, hb3⟩
    go_wp2_with fail
    go_ret
    exact ⟨rfl, hb3⟩
/-- 'e == (x == y)' for what is told by bytes. -/
theorem sizes_u {x y : Int} (hx : U64 x) (hy : U64 y) : ((Num.lebS x).toList == (Num.lebS y).toList) = (x == y) := by
  by_cases h : x = y
  · subst h; simp
  · rw [beq_eq_false_iff_ne.2 h]
    refine str_ne fun e => h ?_
    have : Num.leb x.toNat = Num.leb y.toNat := by simpa [Num.lebS] using e
    have := Num.leb_inj this
    have := hx.1; have := hy.1; omega
theorem I64_wrap {x : Int} : I64 (wrap64 x) := by unfold I64 wrap64; omega
theorem sizes_i {x y : Int} (hx : U64 x) (hy : U64 y) : ((intS (wrap64 x)).toList == (intS (wrap64 y)).toList) = (x == y) := by
  unfold intS
  rw [sizes_u (U64_zig I64_wrap) (U64_zig I64_wrap)]
  by_cases h : x = y
  · subst h; simp
  · rw [beq_eq_false_iff_ne.2 h, beq_eq_false_iff_ne.2]
    intro e
    have : Num.zag (Num.zig (wrap64 x)) = Num.zag (Num.zig (wrap64 y)) := by rw [e]
    rw [Num.zag_zig, Num.zag_zig] at this
    unfold wrap64 at this
    have := hx.1; have := hy.1; have := hx.2; have := hy.2; omega
theorem lebS_pos (x : Int) : 1 ≤ (Num.lebS x).size := Num.leb_pos _
theorem lebS_mono {x y : Int} (h0 : 0 ≤ x) (h : x ≤ y) : (Num.lebS x).size ≤ (Num.lebS y).size := Num.leb_mono _ _ _ (Nat.le_refl _) (by omega)
set_option maxHeartbeats 1000000 in
theorem sizes_any (x y : Int) (hx : U64 x) (hy : U64 y) (w : World) : Calls Try.prog 6 #[.int .u64 x, .int .u64 y] w (True1 w) := by
  have h1 := lebS_pos x
  have h2 := lebS_pos y
  have h3 := lebS_size hx.2
  have h4 := lebS_size hy.2
  have h5 := sizes_u hx hy
  have h6 := sizes_i hx hy
  by_cases hlt : y < x
  · have h7 := lebS_mono hy.1 (Int.le_of_lt hlt)
    have hne : (x == y) = false := beq_eq_false_iff_ne.2 (by omega)
    rw [hne] at h5 h6
    go_enter Try.func6, Try.ntmps6
    go_wp2_with fail
    refine (uint_any _ hx _).mono ?_; rintro e w1 ⟨rfl, hb1⟩
    go_wp2_with fail
    refine (uint_any _ hy _).mono ?_; rintro e w2 ⟨rfl, hb2⟩
    go_wp2_with fail
    refine (size_any _ hx _).mono ?_; rintro e w' ⟨rfl, rfl⟩
    go_wp2_with fail
    refine (uint_any _ hx _).mono ?_; rintro e w3 ⟨rfl, hb3⟩
    go_wp2_with fail
    refine (uint_any _ hx _).mono ?_; rintro e w4 ⟨rfl, hb4⟩
    go_wp2_with fail
    refine (uint_any _ hy _).mono ?_; rintro e w5 ⟨rfl, hb5⟩
    go_wp2_with fail
    refine (int_any _ I64_wrap _).mono ?_; rintro e w6 ⟨rfl, hb6⟩
    go_wp2_with fail
    refine (int_any _ I64_wrap _).mono ?_; rintro e w7 ⟨rfl, hb7⟩
    go_wp2_with fail
    refine (alive_any _).mono ?_; rintro e w8 ⟨rfl, hb8⟩
    go_wp2_with fail
    go_ret
    exact ⟨rfl, ((((((hb1.step hb2).step hb3).step hb4).step hb5).step hb6).step hb7).step hb8⟩
  · have h7 := lebS_mono hx.1 (Int.not_lt.1 hlt)
    by_cases he : x = y
    · subst he
      clear h5 h6
      go_enter Try.func6, Try.ntmps6
      go_wp2_with fail
      refine (uint_any _ hx _).mono ?_; rintro e w1 ⟨rfl, hb1⟩
      go_wp2_with fail
      refine (uint_any _ hy _).mono ?_; rintro e w2 ⟨rfl, hb2⟩
      go_wp2_with fail
      refine (size_any _ hx _).mono ?_; rintro e w' ⟨rfl, rfl⟩
      go_wp2_with fail
      refine (uint_any _ hx _).mono ?_; rintro e w3 ⟨rfl, hb3⟩
      go_wp2_with fail
      refine (uint_any _ hx _).mono ?_; rintro e w4 ⟨rfl, hb4⟩
      go_wp2_with fail
      refine (uint_any _ hy _).mono ?_; rintro e w5 ⟨rfl, hb5⟩
      go_wp2_with fail
      refine (int_any _ I64_wrap _).mono ?_; rintro e w6 ⟨rfl, hb6⟩
      go_wp2_with fail
      refine (int_any _ I64_wrap _).mono ?_; rintro e w7 ⟨rfl, hb7⟩
      go_wp2_with fail
      refine (alive_any _).mono ?_; rintro e w8 ⟨rfl, hb8⟩
      go_wp2_with fail
      go_ret
      exact ⟨rfl, ((((((hb1.step hb2).step hb3).step hb4).step hb5).step hb6).step hb7).step hb8⟩
    · have hne : (x == y) = false := beq_eq_false_iff_ne.2 he
      rw [hne] at h5 h6
      go_enter Try.func6, Try.ntmps6
      go_wp2_with fail
      refine (uint_any _ hx _).mono ?_; rintro e w1 ⟨rfl, hb1⟩
      go_wp2_with fail
      refine (uint_any _ hy _).mono ?_; rintro e w2 ⟨rfl, hb2⟩
      go_wp2_with fail
      refine (size_any _ hx _).mono ?_; rintro e w' ⟨rfl, rfl⟩
      go_wp2_with fail
      refine (uint_any _ hx _).mono ?_; rintro e w3 ⟨rfl, hb3⟩
      go_wp2_with fail
      refine (uint_any _ hx _).mono ?_; rintro e w4 ⟨rfl, hb4⟩
      go_wp2_with fail
      refine (uint_any _ hy _).mono ?_; rintro e w5 ⟨rfl, hb5⟩
      go_wp2_with fail
      refine (int_any _ I64_wrap _).mono ?_; rintro e w6 ⟨rfl, hb6⟩
      go_wp2_with fail
      refine (int_any _ I64_wrap _).mono ?_; rintro e w7 ⟨rfl, hb7⟩
      go_wp2_with fail
      refine (alive_any _).mono ?_; rintro e w8 ⟨rfl, hb8⟩
      go_wp2_with fail
      go_ret
      exact ⟨rfl, ((((((hb1.step hb2).step hb3).step hb4).step hb5).step hb6).step hb7).step hb8⟩

/-! ### NumBack -/
theorem back_rd {x : Int} (hx : U64 x) (s : ByteArray) : rdS (Num.lebS x ++ s) = (x.toNat, (Num.lebS x).size, 0) := by
  have := Num.rd_leb x.toNat (by have := hx.2; omega) s.data.toList
  unfold rdS
  rw [ByteArray.data_append, Array.toList_append]
  exact this
theorem back_short {x : Int} (hx : U64 x) (i : Nat) (hi : i < (Num.lebS x).size) : rdS ((Num.lebS x).extract 0 i) = (0, 0, 10) := by
  have := Num.rd_short x.toNat (by have := hx.2; omega) i hi
  unfold rdS
  rw [show ((Num.lebS x).extract 0 i).data.toList = (Num.leb x.toNat).take i from by simp [Num.lebS, ByteArray.data_extract]]
  exact this
theorem back_own {s : ByteArray} {x n : Nat} (h : rdS s = (x, n, 0)) : n ≤ s.size ∧ Num.lebS x = s.extract 0 n ∧ x < 18446744073709551616 := by
  obtain ⟨h1, h2, h3, _⟩ := Num.rd_ok h
  refine ⟨h1, ?_, h3⟩
  apply ByteArray.ext; apply Array.toList_inj.1
  simp [Num.lebS, ByteArray.data_extract, h2]
theorem read_any3 (s : ByteArray) (hs : s.size ≤ maxLen) (w : World) :
    Calls Try.prog 17 #[.string s] w fun e w' => ∃ a b c : Nat, rdS s = (a, b, c) ∧ e = .returned (.tuple #[.int .u64 a, .int .i64 b, .int .i64 c]) ∧ w = w' :=
  (read_raw s hs w).mono fun e w' hp => ⟨_, _, _, rfl, hp⟩
theorem zig_zag' {x : Int} (hx : U64 x) : Num.zig (Num.zag x) = x := Num.zig_zag x hx.1
set_option maxRecDepth 100000 in
set_option maxHeartbeats 2000000 in
theorem back_any (x y : Int) (s : ByteArray) (hx : U64 x) (hy : I64 y) (_ : s.size ≤ maxLen) (w : World) : Calls Try.prog 5 #[.int .u64 x, .int .i64 y, .string s] w (True1 w) := by
  by_cases hs : s.size ≤ 4096
  · have h3 := lebS_size hx.2
    have h4 := lebS_size (U64_zig hy).2
    have h5 : (intS y).size ≤ 10 := h4
    have hm : s.size ≤ maxLen := by unfold maxLen; omega
    have hm1 : (Num.lebS x ++ s).size ≤ maxLen := by rw [ByteArray.size_append]; unfold maxLen; omega
    have hm2 : (intS y ++ s).size ≤ maxLen := by rw [ByteArray.size_append]; unfold maxLen; omega
    have hm3 : ∀ i, ((Num.lebS x).extract 0 i).size ≤ maxLen := by intro i; rw [ByteArray.size_extract]; unfold maxLen; omega
    have HM := Lib.hid hm; have HM1 := Lib.hid hm1; have HM2 := Lib.hid hm2; have HM3 := Lib.hid hm3
    clear hm hm1 hm2 hm3 h4
    have R1 := Lib.hid (back_rd hx s)
    have R2 := Lib.hid (back_rd (U64_zig hy) s)
    have ex : ((x.toNat : Nat) : Int) = x := Int.toNat_of_nonneg hx.1
    have EX := Lib.hid ex
    have ey : Num.zag (((Num.zig y).toNat : Nat) : Int) = y := by rw [Int.toNat_of_nonneg (U64_zig hy).1, Num.zag_zig]
    have EY := Lib.hid ey
    clear ex ey
    go_enter Try.func5, Try.ntmps5
    go_wp2_with fail
    refine (uint_any _ hx _).mono ?_; rintro e w1 ⟨rfl, hb1⟩
    go_wp2_with fail
    refine (read_at _ _ _ _ R1.out HM1.out _).mono ?_; rintro e w' ⟨rfl, rfl⟩
    rw [EX.out]
    go_wp2_with fail
    refine (int_any _ hy _).mono ?_; rintro e w2 ⟨rfl, hb2⟩
    go_wp2_with fail
    refine (read_int_at _ _ _ _ R2.out HM2.out _).mono ?_; rintro e w' ⟨rfl, rfl⟩
    rw [EY.out]
    go_wp2_with fail
    refine (int_any _ hy _).mono ?_; rintro e w3 ⟨rfl, hb3⟩
    have hsz : ((intS y).size : Int) = ((Num.lebS (Num.zig y)).size : Int) := rfl
    have HSZ := Lib.hid hsz
    clear hsz
    rw [← HSZ.out]
    go_wp2_with fail
    refine (zig_any _ hy _).mono ?_; rintro e w' ⟨rfl, rfl⟩
    go_wp2_with fail
    refine (zag_at _ y (Num.zag_zig y) (U64_zig hy) _).mono ?_; rintro e w' ⟨rfl, rfl⟩
    go_wp2_with fail
    refine (zag_any _ hx _).mono ?_; rintro e w' ⟨rfl, rfl⟩
    go_wp2_with fail
    refine (zig_at _ x (zig_zag' hx) (I64_zag hx) _).mono ?_; rintro e w' ⟨rfl, rfl⟩
    go_wp2_with fail
    have HB : Hid (Below w.heap.size w w3) := Lib.hid ((hb1.step hb2).step hb3)
    clear hb1 hb2 hb3 HM1 HM2 R1 R2 EX EY HSZ
    go_loop [14] (fun i => ∃ k : Nat, k ≤ (Num.lebS x).size ∧ i = .int .i64 k) (fun i => (Num.lebS x).size - (intOf i).toNat)
    case atStart => exact ⟨0, Nat.zero_le _, rfl⟩
    case round =>
      obtain ⟨k, hk, rfl⟩ := hrel
      by_cases hlt : k < (Num.lebS x).size
      · have R1 := Lib.hid (back_short hx k hlt)
        go_wp2_with fail
        refine (read_at _ _ _ _ R1.out (HM3.out _) _).mono ?_; rintro e w' ⟨rfl, rfl⟩
        go_wp2_with fail
        go_round
        case rel => exact ⟨k + 1, by omega, by go_num⟩
        case measure => simp [intOf]; omega
      · go_wp2_with fail
        refine (read_any3 _ HM.out _).mono ?_
        rintro e w' ⟨a, b, c, hr, rfl, rfl⟩
        by_cases hc : c = 0
        · subst hc
          obtain ⟨g1, g2, g3⟩ := back_own hr
          have hU : U64 (a : Nat) := by unfold U64; omega
          have G2 := str_of g2
          have hb0 : (0 : Int) ≤ (b : Int) := by omega
          have hb1 : (b : Int) ≤ (s.size : Int) := by omega
          clear hr g2 g3
          go_wp2_with fail
          refine Reg.wp_text (by kernel_rfl) (by kernel_rfl) ?_
          go_wp2_with fail
          refine (uint_any _ hU _).mono ?_; rintro e w4 ⟨rfl, hb4⟩
          go_wp2_with fail
          refine Reg.fin (by kernel_rfl) ?_
          go_wp2_with fail
          refine (alive_any _).mono ?_; rintro e w5 ⟨rfl, hb5⟩
          go_wp2_with fail
          go_ret
          exact ⟨rfl, (HB.out.drew.step hb4).step hb5⟩
        · have hc0 : ((c : Int) == 0) = false := by simp; omega
          go_wp2_with fail
          refine Reg.wp_text (by kernel_rfl) (by kernel_rfl) ?_
          go_wp2_with fail
          refine Reg.fin (by kernel_rfl) ?_
          go_wp2_with fail
          refine (alive_any _).mono ?_; rintro e w5 ⟨rfl, hb5⟩
          go_wp2_with fail
          go_ret
          exact ⟨rfl, HB.out.drew.step hb5⟩
  · go_enter Try.func5, Try.ntmps5
    go_wp2_with fail
    refine (alive_any _).mono ?_; rintro e w3 ⟨rfl, hb3⟩
    go_wp2_with fail
    go_ret
    exact ⟨rfl, hb3⟩
end Go.Proofs.Ytopffnibejlpjaa
