
/- The walks of layer 1's readers and of how many bytes a number has. No condition but that a text is no longer than Go lets it be. -/
import Derived.Test.YtbpakckiglgjfaaNumW
namespace Go.Proofs.Ytbpakckiglgjfaa
open Go.RowKit
set_option linter.unusedVariables false

theorem bl (s : ByteArray) : s.data.toList.length = s.size := rfl
theorem bat (s : ByteArray) (k : Nat) (h : k < s.size) : s.data.toList[k]'(by rw [bl]; exact h) = s[k] := rfl
/-- What is read of a text: the number, how many bytes, the fault. -/
def rdS (s : ByteArray) : Nat × Nat × Nat := Num.rd s.data.toList
theorem read_end {s : ByteArray} {k : Nat} (h : Num.Up s.data.toList k) (hk : k ≤ s.size) (h1 : ¬ k < s.size) (h2 : k < 10) : rdS s = (0, 0, 10) := Num.rd_end h (by rw [bl]; omega) h2
theorem read_far {s : ByteArray} {k : Nat} (h : Num.Up s.data.toList k) (h2 : ¬ k < 10) : rdS s = (0, 0, 8) := Num.rd_far h (by omega)
theorem read_zero {s : ByteArray} {k : Nat} (h : Num.Up s.data.toList k) (h1 : k < s.size) (h2 : k < 10) (h3 : s[k].toNat < 128) (h4 : s[k].toNat = 0) (h5 : 1 ≤ k) : rdS s = (0, 0, 8) := by
  unfold rdS; rw [Num.rd_at h h1 h2 (by rw [bat s k h1]; exact h3), if_pos ⟨by rw [bat s k h1]; exact h4, h5⟩]
theorem read_over {s : ByteArray} {k : Nat} (h : Num.Up s.data.toList k) (h1 : k < s.size) (h2 : k < 10) (h3 : s[k].toNat < 128) (h4 : k = 9) (h5 : 1 < s[k].toNat) : rdS s = (0, 0, 8) := by
  unfold rdS; rw [Num.rd_at h h1 h2 (by rw [bat s k h1]; exact h3), if_neg (by rw [bat s k h1]; omega), if_pos ⟨h4, by rw [bat s k h1]; exact h5⟩]
theorem read_ok {s : ByteArray} {k : Nat} (h : Num.Up s.data.toList k) (h1 : k < s.size) (h2 : k < 10) (h3 : s[k].toNat < 128) (h4 : ¬ (s[k].toNat = 0 ∧ 1 ≤ k)) (h5 : ¬ (k = 9 ∧ 1 < s[k].toNat)) : rdS s = (Num.val (s.data.toList.take (k + 1)), k + 1, 0) := by
  unfold rdS; rw [Num.rd_at h h1 h2 (by rw [bat s k h1]; exact h3), if_neg (by rw [bat s k h1]; exact h4), if_neg (by rw [bat s k h1]; exact h5)]
theorem read_next {s : ByteArray} {k : Nat} (h : Num.Up s.data.toList k) (h1 : k < s.size) (h3 : 128 ≤ s[k].toNat) : Num.Up s.data.toList (k + 1) := Num.up_succ h h1 (by rw [bat s k h1]; exact h3)
/-- What the program's reader adds. -/
theorem read_bits {s : ByteArray} {k : Nat} (h1 : k < s.size) (h2 : k < 10) (h5 : k = 9 → s[k].toNat % 128 ≤ 1) :
    bits .or .u64 (Num.val (s.data.toList.take k) : Nat) (IntKind.u64.wrap (IntKind.u64.wrap (bits .and .u8 (s[k].toNat : Int) 127) * 2 ^ (7 * k))) = (Num.val (s.data.toList.take (k + 1)) : Nat) := by
  have hv := Num.val_take_lt s.data.toList k
  have hb := s[k].toNat_lt
  have ha : bits .and .u8 (s[k].toNat : Int) 127 = ((s[k].toNat % 128 : Nat) : Int) := by
    have h127 : (127 : Int) = ((127 : Nat) : Int) := rfl
    rw [h127, u8_and_nat s[k].toNat 127 hb (by omega)]
    have : s[k].toNat &&& 127 = s[k].toNat % 128 := Nat.and_two_pow_sub_one_eq_mod s[k].toNat 7
    rw [this]
  rw [ha, IntKind.wrap_u64, IntKind.wrap_u64]
  have hp : (128 : Nat) ^ k = 2 ^ (7 * k) := by rw [Nat.pow_mul]
  have e9 : (128 : Nat) ^ 9 = 9223372036854775808 := by decide
  have hm : (s[k].toNat % 128) * 128 ^ k < 18446744073709551616 := by
    by_cases h9 : k = 9
    · subst h9; rw [e9]; have := h5 rfl; omega
    · have h6 : (128 : Nat) ^ k * 128 ≤ 128 ^ 9 := by rw [← Nat.pow_succ]; exact Nat.pow_le_pow_right (by omega) (by omega)
      have h7 : (s[k].toNat % 128) * 128 ^ k ≤ 127 * 128 ^ k := Nat.mul_le_mul_right _ (by omega)
      omega
  have hv2 : 128 ^ k ≤ 9223372036854775808 := by rw [← e9]; exact Nat.pow_le_pow_right (by omega) (by omega)
  have ew : (((s[k].toNat % 128 : Nat) : Int) % 18446744073709551616 * 2 ^ (7 * k)) % 18446744073709551616 = (((s[k].toNat % 128) * 128 ^ k : Nat) : Int) := by
    have e1 : ((s[k].toNat % 128 : Nat) : Int) % 18446744073709551616 = ((s[k].toNat % 128 : Nat) : Int) := by omega
    have e2 : ((2 : Int) ^ (7 * k)) = ((128 ^ k : Nat) : Int) := by rw [hp]; simp
    rw [e1, e2, ← Int.natCast_mul]
    omega
  rw [ew, u64_or_nat _ _ (by omega) hm, Nat.or_comm]
  rw [nat_join (7 * k) ((s[k].toNat % 128) * 128 ^ k) _ (by rw [hp]; exact Nat.mul_mod_left _ _) (by rw [← hp]; exact hv)]
  rw [Num.val_step (l := s.data.toList) (k := k) h1, bat s k h1, Nat.mul_comm]
  congr 1; omega
/-- What the program's reader finds at its loop's head. -/
def ReadRel (s : ByteArray) (x n last : Value) : Prop :=
  ∃ k : Nat, k ≤ s.size ∧ k ≤ 10 ∧ n = .int .i64 k ∧ Num.Up s.data.toList k ∧ (∃ y : Nat, x = .int .u64 y ∧ (k < 10 → y = Num.val (s.data.toList.take k))) ∧ ∃ c : Int, 128 ≤ c ∧ last = .int .u8 c
theorem ret3 {a b c : Nat} {a' b' c' : Int} (h1 : a' = a) (h2 : b' = b) (h3 : c' = c) : Ending.returned (.tuple #[.int .u64 a', .int .i64 b', .int .i64 c']) = .returned (.tuple #[.int .u64 a, .int .i64 b, .int .i64 c]) := by rw [h1, h2, h3]
def ReadPost (s : ByteArray) (w : World) (e : Ending) (w' : World) : Prop :=
  e = .returned (.tuple #[.int .u64 ((rdS s).1 : Nat), .int .i64 ((rdS s).2.1 : Nat), .int .i64 ((rdS s).2.2 : Nat)]) ∧ w = w'
theorem read_post {s : ByteArray} {w : World} {a b c : Nat} {a' b' c' : Int} (h : rdS s = (a, b, c)) (h1 : a' = a) (h2 : b' = b) (h3 : c' = c) : ReadPost s w (.returned (.tuple #[.int .u64 a', .int .i64 b', .int .i64 c'])) w := by
  unfold ReadPost; rw [h, h1, h2, h3]; exact ⟨rfl, rfl⟩
set_option maxRecDepth 100000 in
set_option maxHeartbeats 1000000 in
theorem read_raw (s : ByteArray) (hs : s.size ≤ maxLen) (w : World) : Calls Try.prog 74 #[.string s] w (ReadPost s w) := by
  unfold maxLen at hs
  go_enter Try.func74, Try.ntmps74
  go_wp2_with fail
  go_step3
  go_wp2_with fail
  go_step3
  go_wp2_with fail
  go_loop [2, 3, 5] (fun x n last => ReadRel s x n last) (fun _ n _ => 10 - (intOf n).toNat)
  case atStart => exact ⟨0, Nat.zero_le _, Nat.zero_le _, rfl, Num.up_zero _, ⟨0, rfl, fun _ => rfl⟩, 128, by omega, rfl⟩
  case round =>
    obtain ⟨k, hk, hk10, rfl, hup, ⟨y, rfl, hy⟩, c, hc, rfl⟩ := hrel
    have HUP := Lib.hid hup
    clear hup
    by_cases hlt : k < s.size
    · by_cases h10 : k < 10
      · obtain rfl := hy h10
        by_cases hb : 128 ≤ s[k].toNat
        · have H1 := Lib.hid (read_next HUP.out hlt hb)
          have H2 := Lib.hid (read_bits (s := s) hlt h10)
          clear hy
          go_wp2_with fail
          go_round
          case rel =>
            refine ⟨k + 1, by omega, by omega, by go_num, H1.out, ⟨(bits .or .u64 (Num.val (s.data.toList.take k) : Nat) (IntKind.u64.wrap (IntKind.u64.wrap (bits .and .u8 (s[k].toNat : Int) 127) * 2 ^ (7 * k)))).toNat, ?_, fun h => ?_⟩, _, by omega, rfl⟩
            · have hw : 0 ≤ bits .or .u64 (Num.val (s.data.toList.take k) : Nat) (IntKind.u64.wrap (IntKind.u64.wrap (bits .and .u8 (s[k].toNat : Int) 127) * 2 ^ (7 * k))) := by
                simp only [bits]; rw [IntKind.wrap_u64]; omega
              rw [Int.toNat_of_nonneg hw]
            · rw [H2.out (by omega)]; rfl
          case measure => simp [intOf]; omega
        · by_cases hz : s[k].toNat = 0 ∧ 1 ≤ k
          · have H1 := Lib.hid (read_zero HUP.out hlt h10 (by omega) hz.1 hz.2)
            obtain ⟨hz1, hz2⟩ := hz
            clear hy
            go_wp2_with fail
            all_goals (go_ret3; exact read_post H1.out rfl rfl rfl)
          · by_cases ho : k = 9 ∧ 1 < s[k].toNat
            · have H1 := Lib.hid (read_over HUP.out hlt h10 (by omega) ho.1 ho.2)
              have ho1 : 9 ≤ k := by omega
              have ho2 : 1 < s[k].toNat := ho.2
              clear hy hz ho
              go_wp2_with fail
              all_goals (go_ret3; exact read_post H1.out rfl rfl rfl)
            · have H1 := Lib.hid (read_ok HUP.out hlt h10 (by omega) hz ho)
              have H2 := Lib.hid (read_bits (s := s) hlt h10 (by omega))
              by_cases h0 : s[k].toNat = 0
              · have H3 : Hid (bits .or .u64 (Num.val (s.data.toList.take k) : Nat) (IntKind.u64.wrap (IntKind.u64.wrap (bits .and .u8 0 127) * 2 ^ (7 * k))) = (Num.val (s.data.toList.take (k + 1)) : Nat)) := by
                  refine Lib.hid ?_
                  have h := H2.out
                  rw [h0] at h; exact h
                have hk0 : k < 1 := by omega
                clear hy hz ho
                go_wp2_with fail
                all_goals (go_ret3; exact read_post H1.out H3.out (by omega) rfl)
              · have hz' : k = 9 → s[k].toNat ≤ 1 := by omega
                clear hy hz ho
                go_wp2_with fail
                all_goals (go_ret3; exact read_post H1.out H2.out (by omega) rfl)
      · have H1 := Lib.hid (read_far HUP.out h10)
        clear hy
        go_wp2_with fail
        all_goals (go_ret3; exact read_post H1.out rfl rfl rfl)
    · by_cases h10 : k < 10
      · have H1 := Lib.hid (read_end HUP.out hk hlt h10)
        clear hy
        go_wp2_with fail
        all_goals (go_ret3; exact read_post H1.out rfl rfl rfl)
      · have H1 := Lib.hid (read_far HUP.out h10)
        clear hy
        go_wp2_with fail
        all_goals (go_ret3; exact read_post H1.out rfl rfl rfl)
end Go.Proofs.Ytbpakckiglgjfaa
