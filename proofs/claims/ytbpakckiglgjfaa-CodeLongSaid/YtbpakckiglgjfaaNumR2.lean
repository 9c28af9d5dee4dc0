
/- The walks of the document's readers of layer 1, of how many bytes a number has, and of the statements' own example. No condition but that a text is no longer than Go lets it be. -/
import Derived.Test.YtbpakckiglgjfaaNumR
namespace Go.Proofs.Ytbpakckiglgjfaa
open Go.RowKit
set_option linter.unusedVariables false

/-- The document's loop that looks for the last byte. -/
def RRel1 (s : ByteArray) (n : Value) : Prop := ∃ k : Nat, k ≤ s.size ∧ k ≤ 10 ∧ n = .int .i64 k ∧ Num.Up s.data.toList k
/-- The document's loop that adds up. -/
def vmod (s : ByteArray) (n j : Nat) : Int := ((Num.val ((s.data.toList.take (n + 1)).drop j) % 18446744073709551616 : Nat) : Int)
theorem vmod_range (s : ByteArray) (n j : Nat) : 0 ≤ vmod s n j ∧ vmod s n j ≤ 18446744073709551615 := by unfold vmod; omega
def RRel2 (s : ByteArray) (n : Nat) (x i : Value) : Prop :=
  ∃ j : Nat, j ≤ n + 1 ∧ i = .int .i64 ((j : Int) - 1) ∧ x = .int .u64 (vmod s n j)
theorem rr_step {s : ByteArray} {n j : Nat} (hn : n < s.size) (hj : j ≤ n) :
    IntKind.u64.wrap (IntKind.u64.wrap (128 * vmod s n (j + 1)) + (s[j].toNat : Int) % 128) = vmod s n j := by
  unfold vmod
  have hl : j < (s.data.toList.take (n + 1)).length := by rw [List.length_take, bl]; omega
  rw [Num.val_drop hl, IntKind.wrap_u64, IntKind.wrap_u64]
  have hb : (s.data.toList.take (n + 1))[j] = s[j] := by rw [List.getElem_take]; exact bat s j (by omega)
  rw [hb]
  omega
theorem take_mk (s : ByteArray) (n : Nat) (x : ByteArray) : x = s.extract 0 (n + 1) ↔ x.data.toList = s.data.toList.take (n + 1) := by
  constructor
  · intro h; subst h; simp [ByteArray.data_extract]
  · intro h; apply ByteArray.ext; apply Array.toList_inj.1; rw [h]; simp [ByteArray.data_extract]
def RReadPost (s : ByteArray) (w : World) (e : Ending) (w' : World) : Prop :=
  e = .returned (.tuple #[.int .u64 ((rdS s).1 : Nat), .int .i64 ((rdS s).2.1 : Nat), .int .i64 ((rdS s).2.2 : Nat)]) ∧ Below w.heap.size w w'
theorem rread_post {s : ByteArray} {w w' : World} {a b c : Nat} {a' b' c' : Int} (h : rdS s = (a, b, c)) (h1 : a' = a) (h2 : b' = b) (h3 : c' = c) (hb : Below w.heap.size w w') : RReadPost s w (.returned (.tuple #[.int .u64 a', .int .i64 b', .int .i64 c'])) w' := by
  unfold RReadPost; rw [h, h1, h2, h3]; exact ⟨rfl, hb⟩
theorem rread_yes {s : ByteArray} {k : Nat} (h : Num.Up s.data.toList k) (h1 : k < s.size) (h2 : k < 10) (h3 : s[k].toNat < 128)
    (he : Num.lebS (vmod s k 0) = s.extract 0 (k + 1)) : rdS s = (Num.val (s.data.toList.take (k + 1)) % 18446744073709551616, k + 1, 0) := by
  rw [take_mk] at he
  exact (Num.rd_ref h h1 h2 (by rw [bat s k h1]; exact h3)).1 (by simpa only [Num.lebS, vmod, Int.toNat_natCast, List.drop_zero] using he)
theorem rread_no {s : ByteArray} {k : Nat} (h : Num.Up s.data.toList k) (h1 : k < s.size) (h2 : k < 10) (h3 : s[k].toNat < 128)
    (he : ¬ Num.lebS (vmod s k 0) = s.extract 0 (k + 1)) : rdS s = (0, 0, 8) := by
  rw [take_mk] at he
  exact (Num.rd_ref h h1 h2 (by rw [bat s k h1]; exact h3)).2 (by simpa only [Num.lebS, vmod, Int.toNat_natCast, List.drop_zero] using he)
set_option maxRecDepth 100000 in
set_option maxHeartbeats 1000000 in
theorem rread_raw (s : ByteArray) (hs : s.size ≤ maxLen) (w : World) : Calls Try.prog 63 #[.string s] w (RReadPost s w) := by
  unfold maxLen at hs
  go_enter Try.func63, Try.ntmps63
  go_wp2_with fail
  go_loop [5] (fun n => RRel1 s n) (fun n => 10 - (intOf n).toNat)
  case atStart => exact ⟨0, Nat.zero_le _, Nat.zero_le _, rfl, Num.up_zero _⟩
  case round =>
    obtain ⟨k, hk, hk10, rfl, hup⟩ := hrel
    have HUP := Lib.hid hup
    clear hup
    by_cases hlt : k < s.size
    · by_cases h10 : k < 10
      · by_cases hb : 128 ≤ s[k].toNat
        · have H1 := Lib.hid (read_next HUP.out hlt hb)
          go_wp2_with fail
          go_round
          case rel => exact ⟨k + 1, by omega, by omega, by go_num, H1.out⟩
          case measure => simp [intOf]; omega
        · have hat : (0 : Int) = vmod s k (k + 1) := by
            unfold vmod
            rw [List.drop_eq_nil_of_le (by rw [List.length_take]; exact Nat.min_le_left _ _)]; rfl
          have HAT := Lib.hid hat
          clear hat
          have hne : ((k : Int) == (s.size : Int)) = false := by simp; omega
          have hne2 : ((k : Int) == 10) = false := by simp; omega
          go_wp2_with fail
          go_loop [6, 7] (fun x i => RRel2 s k x i) (fun _ i => (intOf i + 1).toNat)
          case atStart =>
            exact ⟨k + 1, by omega, congrArg (Value.int .i64) (by omega), by rw [← HAT.out]⟩
          case round =>
            obtain ⟨j, hj, rfl, rfl⟩ := hrel
            by_cases h0 : 1 ≤ j
            · obtain ⟨i, rfl⟩ : ∃ i, j = i + 1 := ⟨j - 1, by omega⟩
              have H1 := Lib.hid (rr_step (s := s) hlt (j := i) (by omega))
              go_wp2_with fail
              go_round
              case rel => exact ⟨i, by omega, rfl, by rw [H1.out]⟩
              case measure => simp only [intOf]; omega
            · have hv := vmod_range s k 0
              obtain rfl : j = 0 := by omega
              have hU : U64 (vmod s k 0) := hv
              have HY := Lib.hid (fun he => rread_yes HUP.out hlt h10 (by omega) he)
              have HN := Lib.hid (fun he => rread_no HUP.out hlt h10 (by omega) he)
              have ek : (k + 1 : Int) ≤ s.size := by omega
              have e3 : IntKind.i64.wrap ((k : Int) + 1) = (k : Int) + 1 := IntWalk.i64_in _ (by omega)
              have e4 : (0 : Int) ≤ (k : Int) + 1 := by omega
              have e5 : ((k : Int) + 1).toNat = k + 1 := by omega
              clear hv
              go_wp2_with fail
              go_region_with (go_at_call 79; ((with_reducible refine (ruint_any _ hU _).mono ?_); rintro e w' ⟨rfl, hb⟩))
              all_goals clear e3 e4 e5
              all_goals go_wp2_with fail
              · go_ret3
                exact rread_post (HN.out (str_nt ‹_›)) rfl rfl rfl ((Below.refl _ _).drew.trans hb)
              · go_ret3
                exact rread_post (HY.out (str_nf ‹_›)) (by unfold vmod; rw [List.drop_zero]) (by omega) rfl ((Below.refl _ _).drew.trans hb)
      · have H1 := Lib.hid (read_far HUP.out h10)
        have hk1 : 10 ≤ k := by omega
        have hne : ((k : Int) == (s.size : Int)) = false := by simp; omega
        have hne2 : ((k : Int) == 10) = true := by simp; omega
        go_wp2_with fail
        all_goals (go_ret3; exact rread_post H1.out rfl rfl rfl (Below.refl _ _))
    · by_cases h10 : k < 10
      · have H1 := Lib.hid (read_end HUP.out hk hlt h10)
        have hne : ((k : Int) == (s.size : Int)) = true := by simp; omega
        go_wp2_with fail
        all_goals (go_ret3; exact rread_post H1.out rfl rfl rfl (Below.refl _ _))
      · have H1 := Lib.hid (read_far HUP.out h10)
        have hk1 : 10 ≤ k := by omega
        have hne : ((k : Int) == (s.size : Int)) = true := by simp; omega
        have hne2 : ((k : Int) == 10) = true := by simp; omega
        go_wp2_with fail
        all_goals (go_ret3; exact rread_post H1.out rfl rfl rfl (Below.refl _ _))

/-! ### ReadInt -/
def readIntV (s : ByteArray) : Value := .tuple #[.int .i64 (Num.zag ((rdS s).1 : Nat)), .int .i64 ((rdS s).2.1 : Nat), .int .i64 ((rdS s).2.2 : Nat)]
theorem rdS_U64 (s : ByteArray) : U64 ((rdS s).1 : Nat) := by
  have h : (rdS s).1 < 18446744073709551616 := by
    rcases hr : rdS s with ⟨x, n, e⟩
    by_cases he : e = 0
    · subst he; exact (Num.rd_ok hr).2.2.1
    · have := Num.rd_err (l := s.data.toList)
      unfold rdS at hr
      rw [hr] at this
      simp at this
      rcases this with h | h
      · exact absurd h he
      · show x < _; omega
  unfold U64; omega
set_option maxHeartbeats 400000 in
theorem rread_int_any (s : ByteArray) (hs : s.size ≤ maxLen) (w : World) : Calls Try.prog 80 #[.string s] w fun e w' => e = .returned (readIntV s) ∧ Below w.heap.size w w' := by
  have hU := rdS_U64 s
  go_enter Try.func80, Try.ntmps80
  go_wp2_with (first | (go_at_call 63; ((with_reducible refine (rread_raw s hs _).mono ?_); rintro e w' ⟨rfl, hb⟩)) | (go_at_call 84; ((with_reducible refine (rzag_any _ hU _).mono ?_); rintro e w' ⟨rfl, rfl⟩)))
  go_ret3
  exact ⟨rfl, hb⟩
set_option maxHeartbeats 400000 in
theorem rint_any (x : Int) (hx : I64 x) (w : World) : Calls Try.prog 83 #[.int .i64 x] w fun e w' => e = .returned (.string (intS x)) ∧ Below w.heap.size w w' := by
  have hU := U64_zig hx
  go_enter Try.func83, Try.ntmps83
  go_wp2_with (first | (go_at_call 86; ((with_reducible refine (rzig_any x hx _).mono ?_); rintro e w' ⟨rfl, rfl⟩)) | (go_at_call 79; ((with_reducible refine (ruint_any _ hU _).mono ?_); rintro e w' ⟨rfl, hb⟩)))
  go_ret
  exact ⟨rfl, hb⟩

end Go.Proofs.Ytbpakckiglgjfaa
