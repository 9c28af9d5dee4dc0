/- The walks of the document's readers of layer 1, of how many bytes a number has, and of the statements' own example. No condition but that a text is no longer than Go lets it be. -/
import Derived.Test.YtopffnibejlpjaaNumR
namespace Go.Proofs.Ytopffnibejlpjaa
open Go.RowKit
set_option linter.unusedVariables false

/-- The document's loop that looks for the last byte. -/
def RRel1 (s : ByteArray) (n : Value) : Prop := ∃ k : Nat, k ≤ s.size ∧ k ≤ 10 ∧ n = .int .i64 k ∧ Num.Up s.data.toList k
/-- The document's loop that adds up. -/
def vmod (s : ByteArray) (n j : Nat) : Int := ((Num.val ((s.data.toList.take (n + 1)).drop j) % 18446744073709551616 : Nat) : Int)
theorem vmod_range (s : ByteArray) (n j : Nat) : 0 ≤ vmod s n j ∧ vmod s n j ≤ 18446744073709551615 := by unfold vmod; omega
def RRel2 (s : ByteArray) (n : Nat) (x i : Value) : Prop :=
  ∃ j : Nat, j ≤ n + 1 ∧ i = .int .i64 ((j : Int) - 1) ∧ x = .int .u64 (vmod s n j)
theorem rr_step {s : ByteArray} {n j : Nat} (hn : n < s.size) (hj : j ≤ n) :
    IntKind.u64.wrap (IntKind.u64.wrap (128 * vmod s n (j + 1)) + (s[j].toNat : Int) % 128) = vmod s n j := by
  unfold vmod
  have hl : j < (s.data.toList.take (n + 1)).length := by rw [List.length_take, bl]; omega
  rw [Num.val_drop hl, IntKind.wrap_u64, IntKind.wrap_u64]
  have hb : (s.data.toList.take (n + 1))[j] = s[j] := by rw [List.getElem_take]; exact bat s j (by omega)
  rw [hb]
  omega
theorem take_mk (s : ByteArray) (n : Nat) (x : ByteArray) : x = s.extract 0 (n + 1) ↔ x.data.toList = s.data.toList.take (n + 1) := by
  constructor
  · intro h; subst h; simp [ByteArray.data_extract]
  · intro h; apply ByteArray.ext; apply Array.toList_inj.1; rw [h]; simp [ByteArray.data_extract]
def RReadPost (s : ByteArray) (w : World) (e : Ending) (w' : World) : Prop :=
  e = .returned (.tuple #[.int .u64 ((rdS s).1 : Nat), .int .i64 ((rdS s).2.1 : Nat), .int .i64 ((rdS s).2.2 : Nat)]) ∧ Below w.heap.size w w'
theorem rread_post {s : ByteArray} {w w' : World} {a b c : Nat} {a' b' c' : Int} (h : rdS s = (a, b, c)) (h1 : a' = a) (h2 : b' = b) (h3 : c' = c) (hb : Below w.heap.size w w') : RReadPost s w (.returned (.tuple #[.int .u64 a', .int .i64 b', .int .i64 c'])) w' := by
  unfold RReadPost; rw [h, h1, h2, h3]; exact ⟨rfl, hb⟩
theorem rread_yes {s : ByteArray} {k : Nat} (h : Num.Up s.data.toList k) (h1 : k < s.size) (h2 : k < 10) (h3 : s[k].toNat < 128)
    (he : Num.lebS (vmod s k 0) = s.extract 0 (k + 1)) : rdS s = (Num.val (s.data.toList.take (k + 1)) % 18446744073709551616, k + 1, 0) := by
  rw [take_mk] at he
  exact (Num.rd_ref h h1 h2 (by rw [bat s k h1]; exact h3)).1 (by simpa only [Num.lebS, vmod, Int.toNat_natCast, List.drop_zero] using he)
theorem rread_no {s : ByteArray} {k : Nat} (h : Num.Up s.data.toList k) (h1 : k < s.size) (h2 : k < 10) (h3 : s[k].toNat < 128)
    (he : ¬ Num.lebS (vmod s k 0) = s.extract 0 (k + 1)) : rdS s = (0, 0, 8) := by
  rw [take_mk] at he
  exact (Num.rd_ref h h1 h2 (by rw [bat s k h1]; exact h3)).2 (by simpa only [Num.lebS, vmod, Int.toNat_natCast, List.drop_zero] using he)
set_option maxRecDepth 100000 in
set_option maxHeartbeats 1000000 in
theorem rread_raw (s : ByteArray) (hs : s.size ≤ maxLen) (w : World) : Calls Try.prog 18 #[.string s] w (RReadPost s w) := by
  unfold maxLen at hs
  go_enter Try.func18, Try.ntmps18
  go_wp2_with fail
  go_loop [5] (fun n => RRel1 s n) (fun n => 10 - (intOf n).toNat)
  case atStart => exact ⟨0, Nat.zero_le _, Nat.zero_le _, rfl, Num.up_zero _⟩
  case round =>
    obtain ⟨k, hk, hk10, rfl, hup⟩ := hrel
    have HUP := Lib.hid hup
    clear hup
    by_cases hlt : k < s.size
    · by_cases h10 : k < 10
      · by_cases hb : 128 ≤ s[k].toNat
        · have H1 := Lib.hid (read_next HUP.out hlt hb)
          go_wp2_with fail
          go_round
          case rel => exact ⟨k + 1, by omega, by omega, by go_num, H1.out⟩
          case measure => simp [intOf]; omega
        · have hat : (0 : Int) = vmod s k (k + 1) := by
            unfold vmod
            rw [List.drop_eq_nil_of_le (by rw [List.length_take]; exact Nat.min_le_left _ _)]; rfl
          have HAT := Lib.hid hat
          clear hat
          have hne : ((k : Int) == (s.size : Int)) = false := by simp; omega
          have hne2 : ((k : Int) == 10) = false := by simp; omega
          go_wp2_with fail
          go_loop [6, 7] (fun x i => RRel2 s k x i) (fun _ i => (intOf i + 1).toNat)
          case atStart =>
            exact ⟨k + 1, by omega, congrArg (Value.int .i64) (by omega), by rw [← HAT.out]⟩
          case round =>
            obtain ⟨j, hj, rfl, rfl⟩ := hrel
            by_cases h0 : 1 ≤ j
            · obtain ⟨i, rfl⟩ : ∃ i, j = i + 1 := ⟨j - 1, by omega⟩
              have H1 := Lib.hid (rr_step (s := s) hlt (j := i) (by omega))
              go_wp2_with fail
              go_round
              case rel => exact ⟨i, by omega, rfl, by rw [H1.out]⟩
              case measure => simp only [intOf]; omega
            · have hv := vmod_range s k 0
              obtain rfl : j = 0 := by omega
              have hU : U64 (vmod s k 0) := hv
              have HY := Lib.hid (fun he => rread_yes HUP.out hlt h10 (by omega) he)
              have HN := Lib.hid (fun he => rread_no HUP.out hlt h10 (by omega) he)
              have ek : (k + 1 : Int) ≤ s.size := by omega
              have e3 : IntKind.i64.wrap ((k : Int) + 1) = (k : Int) + 1 := IntWalk.i64_in _ (by omega)
              have e4 : (0 : Int) ≤ (k : Int) + 1 := by omega
              have e5 : ((k : Int) + 1).toNat = k + 1 := by omega
              clear hv
              go_wp2_with fail
              go_region_with (go_at_call 8; ((with_reducible refine (ruint_any _ hU _).mono ?_); rintro e w' ⟨rfl, hb⟩))
              all_goals clear e3 e4 e5
              all_goals go_wp2_with fail
              · go_ret3
                exact rread_post (HN.out (str_nt ‹_›)) rfl rfl rfl ((Below.refl _ _).drew.trans hb)
              · go_ret3
                exact rread_post (HY.out (str_nf ‹_›)) (by unfold vmod; rw [List.drop_zero]) (by omega) rfl ((Below.refl _ _).drew.trans hb)
      · have H1 := Lib.hid (read_far HUP.out h10)
        have hk1 : 10 ≤ k := by omega
        have hne : ((k : Int) == (s.size : Int)) = false := by simp; omega
        have hne2 : ((k : Int) == 10) = true := by simp; omega
        go_wp2_with fail
        all_goals (go_ret3; exact rread_post H1.out rfl rfl rfl (Below.refl _ _))
    · by_cases h10 : k < 10
      · have H1 := Lib.hid (read_end HUP.out hk hlt h10)
        have hne : ((k : Int) == (s.size : Int)) = true := by simp; omega
        go_wp2_with fail
        all_goals (go_ret3; exact rread_post H1.out rfl rfl rfl (Below.refl _ _))
      · have H1 := Lib.hid (read_far HUP.out h10)
        have hk1 : 10 ≤ k := by omega
        have hne : ((k : Int) == (s.size : Int)) = true := by simp; omega
        have hne2 : ((k : Int) == 10) = true := by simp; omega
        go_wp2_with fail
        all_goals (go_ret3; exact rread_post H1.out rfl rfl rfl (Below.refl _ _))

/-! ### ReadInt -/
def readIntV (s : ByteArray) : Value := .tuple #[.int .i64 (Num.zag ((rdS s).1 : Nat)), .int .i64 ((rdS s).2.1 : Nat), .int .i64 ((rdS s).2.2 : Nat)]
theorem rdS_U64 (s : ByteArray) : U64 ((rdS s).1 : Nat) := by
  have h : (rdS s).1 < 18446744073709551616 := by
    rcases hr : rdS s with ⟨x, n, e⟩
    by_cases he : e = 0
    · subst he; exact (Num.rd_ok hr).2.2.1
    · have := Num.rd_err (l := s.data.toList)
      unfold rdS at hr
      rw [hr] at this
      simp at this
      rcases this with h | h
      · exact absurd h he
      · show x < _; omega
  unfold U64; omega
set_option maxHeartbeats 400000 in
theorem read_int_any (s : ByteArray) (hs : s.size ≤ maxLen) (w : World) : Calls Try.prog 19 #[.string s] w fun e w' => e = .returned (readIntV s) ∧ w = w' := by
  have hU := rdS_U64 s
  go_enter Try.func19, Try.ntmps19
  go_wp2_with (first | (go_at_call 17; ((with_reducible refine (read_raw s hs _).mono ?_); rintro e w' ⟨rfl, rfl⟩)) | (go_at_call 14; ((with_reducible refine (zag_any _ hU _).mono ?_); rintro e w' ⟨rfl, rfl⟩)))
  go_ret3
  exact ⟨rfl, rfl⟩
set_option maxHeartbeats 400000 in
theorem rread_int_any (s : ByteArray) (hs : s.size ≤ maxLen) (w : World) : Calls Try.prog 20 #[.string s] w fun e w' => e = .returned (readIntV s) ∧ Below w.heap.size w w' := by
  have hU := rdS_U64 s
  go_enter Try.func20, Try.ntmps20
  go_wp2_with (first | (go_at_call 18; ((with_reducible refine (rread_raw s hs _).mono ?_); rintro e w' ⟨rfl, hb⟩)) | (go_at_call 15; ((with_reducible refine (rzag_any _ hU _).mono ?_); rintro e w' ⟨rfl, rfl⟩)))
  go_ret3
  exact ⟨rfl, hb⟩
set_option maxHeartbeats 400000 in
theorem rint_any (x : Int) (hx : I64 x) (w : World) : Calls Try.prog 11 #[.int .i64 x] w fun e w' => e = .returned (.string (intS x)) ∧ Below w.heap.size w w' := by
  have hU := U64_zig hx
  go_enter Try.func11, Try.ntmps11
  go_wp2_with (first | (go_at_call 13; ((with_reducible refine (rzig_any x hx _).mono ?_); rintro e w' ⟨rfl, rfl⟩)) | (go_at_call 8; ((with_reducible refine (ruint_any _ hU _).mono ?_); rintro e w' ⟨rfl, hb⟩)))
  go_ret
  exact ⟨rfl, hb⟩

/-! ### Size: of the number of bits -/
/-- A number's bits. -/
def Bits (x : Int) (L : Int) : Prop := (x = 0 ∧ L = 0) ∨ ∃ n : Nat, L = (n : Int) + 1 ∧ n < 64 ∧ (2 : Nat) ^ n ≤ x.toNat ∧ x.toNat < 2 ^ (n + 1)
/-- The table of the library: how many bits a byte has. -/
def tabL : List UInt8 := [0, 1] ++ List.replicate 2 2 ++ List.replicate 4 3 ++ List.replicate 8 4 ++ List.replicate 16 5 ++ List.replicate 32 6 ++ List.replicate 64 7 ++ List.replicate 128 8
theorem tab_all : ∀ n : Fin 256, (n.val = 0 ∧ (tabL.getD n.val 0).toNat = 0) ∨ (1 ≤ (tabL.getD n.val 0).toNat ∧ (tabL.getD n.val 0).toNat ≤ 8 ∧ 2 ^ ((tabL.getD n.val 0).toNat - 1) ≤ n.val ∧ n.val < 2 ^ ((tabL.getD n.val 0).toNat)) := by decide +kernel
theorem tab_bits (T : ByteArray) (hT : T.data.toList = tabL) (y : Int) (h : y.toNat < T.size) (h0 : 0 ≤ y) (h1 : y < 256) : Bits y (T[y.toNat].toNat : Int) ∧ (T[y.toNat].toNat : Int) ≤ 8 := by
  have e : T[y.toNat] = tabL.getD y.toNat 0 := by
    have h2 : T.data.toList.getD y.toNat 0 = T[y.toNat] := by
      rw [List.getD_eq_getElem?_getD, List.getElem?_eq_getElem (by rw [bl]; exact h)]; rfl
    rw [← h2, hT]
  have := tab_all ⟨y.toNat, by omega⟩
  simp only [← e] at this
  refine ⟨?_, by omega⟩
  rcases this with ⟨h2, h3⟩ | ⟨h2, h3, h4, h5⟩
  · exact .inl ⟨by omega, by omega⟩
  · refine .inr ⟨T[y.toNat].toNat - 1, by omega, by omega, h4, ?_⟩
    rw [Nat.sub_add_cancel h2]; exact h5
theorem bits_shift {x y L : Int} (k : Nat) (hk : k ≤ 56) (hy : y = x / 2 ^ k) (h1 : 1 ≤ y) (hx : x ≤ 18446744073709551615) (h : Bits y L) : Bits x (L + k) := by
  rcases h with ⟨rfl, _⟩ | ⟨n, rfl, hn, h2, h3⟩
  · omega
  · have hp : (0 : Nat) < 2 ^ k := Nat.pow_pos (by decide)
    have hx0 : 0 ≤ x := by
      rcases Int.lt_or_le x 0 with h | h
      · have : x / 2 ^ k < 0 := Int.ediv_neg_of_neg_of_pos h (by exact_mod_cast hp)
        omega
      · exact h
    have e : y.toNat = x.toNat / 2 ^ k := by
      obtain ⟨m, rfl⟩ := Int.eq_ofNat_of_zero_le hx0
      have : ((2 : Int) ^ k) = ((2 ^ k : Nat) : Int) := by simp
      rw [hy, this, ← Int.natCast_ediv]; rfl
    rw [e] at h2 h3
    have a1 : 2 ^ (n + k) ≤ x.toNat := by rw [Nat.pow_add]; exact (Nat.le_div_iff_mul_le hp).1 h2
    have a2 : x.toNat < 2 ^ (n + k + 1) := by
      rw [show n + k + 1 = (n + 1) + k from by omega, Nat.pow_add]; exact (Nat.div_lt_iff_lt_mul hp).1 h3
    refine .inr ⟨n + k, by omega, ?_, a1, a2⟩
    rcases Nat.lt_or_ge (n + k) 64 with h | h
    · exact h
    · have : (2 : Nat) ^ 64 ≤ 2 ^ (n + k) := Nat.pow_le_pow_right (by decide) h
      have e64 : (2 : Nat) ^ 64 = 18446744073709551616 := by decide
      omega
theorem bits_size {x L : Int} (h0 : 0 ≤ x) (h : Bits x L) : (((Num.leb x.toNat).length : Nat) : Int) = max 1 ((L + 6) / 7) ∧ 0 ≤ L ∧ L ≤ 64 := by
  rcases h with ⟨rfl, rfl⟩ | ⟨n, rfl, hn, h2, h3⟩
  · refine ⟨?_, by omega, by omega⟩
    rw [show (0 : Int).toNat = 0 from rfl, Num.leb_lt 0 (by decide)]; decide
  · refine ⟨?_, by omega, by omega⟩
    have hp : ∀ k : Nat, (128 : Nat) ^ k = 2 ^ (7 * k) := fun k => by rw [Nat.pow_mul]
    have a1 : n / 7 + 1 ≤ (Num.leb x.toNat).length := Num.leb_bits (n / 7) _ (by rw [hp]; exact Nat.le_trans (Nat.pow_le_pow_right (by decide) (by omega)) h2)
    have a2 : (Num.leb x.toNat).length ≤ n / 7 + 1 := Num.leb_len (n / 7) _ (by rw [hp]; exact Nat.lt_of_lt_of_le h3 (Nat.pow_le_pow_right (by decide) (by omega)))
    rw [Nat.le_antisymm a2 a1]
    have : ((n : Int) + 1 + 6) / 7 = ((n / 7 + 1 : Nat) : Int) := by omega
    rw [this]; omega
def LenPost (x : Int) (w : World) (e : Ending) (w' : World) : Prop := ∃ L, e = .returned (.int .i64 L) ∧ Bits x L ∧ w = w'
theorem wrap_tab {k n : Int} (h0 : 0 ≤ k) (h1 : k ≤ 56) (h2 : n ≤ 8) (h3 : 0 ≤ n) : wrap64 (k + wrap64 n) = n + k := by unfold wrap64; omega
theorem tab_lt {T : ByteArray} {y : Int} (hT : T.data.toList = tabL) (h0 : 0 ≤ y) (h1 : y < 256) : y.toNat < T.size := by
  have : T.size = 256 := by rw [← bl, hT]; decide +kernel
  omega
theorem len_fin0 {x L : Int} {w : World} (h0 : 0 ≤ x) (T : ByteArray) (hT : T.data.toList = tabL) (h : x.toNat < T.size) (hb : x < 256) (hL : L = wrap64 (wrap64 (T[x.toNat].toNat : Int))) : LenPost x w (.returned (.int .i64 L)) w := by
  obtain ⟨a, b⟩ := tab_bits T hT x h h0 hb
  refine ⟨L, rfl, ?_, rfl⟩
  rw [hL, show wrap64 (wrap64 (T[x.toNat].toNat : Int)) = (T[x.toNat].toNat : Int) from by unfold wrap64; omega]
  exact a
theorem len_fin {x y L : Int} {k : Nat} {w : World} (hy : y = x / 2 ^ k) (hk : k ≤ 56) (h1 : 1 ≤ y) (hx : x ≤ 18446744073709551615)
    (T : ByteArray) (hT : T.data.toList = tabL) (h : y.toNat < T.size) (hb : y < 256) (hL : L = wrap64 ((k : Int) + wrap64 (T[y.toNat].toNat : Int))) : LenPost x w (.returned (.int .i64 L)) w := by
  obtain ⟨a, b⟩ := tab_bits T hT y h (by omega) hb
  refine ⟨L, rfl, ?_, rfl⟩
  rw [hL, wrap_tab (by omega) (by omega) b (by omega)]
  exact bits_shift k hk hy h1 hx a
set_option maxRecDepth 100000 in
set_option maxHeartbeats 1000000 in
theorem len64_any (x : Int) (hx : U64 x) (w : World) : Calls Try.prog 21 #[.int .u64 x] w (LenPost x w) := by
  have h0 : 0 ≤ x := hx.1
  have h1 : x ≤ 18446744073709551615 := hx.2
  clear hx
  by_cases g32 : 4294967296 ≤ x
  · by_cases g16 : 65536 ≤ x / 4294967296
    · by_cases g8 : 256 ≤ x / 4294967296 / 65536
      · have h5 : x / 4294967296 / 65536 / 256 < 256 := by omega
        have h6 : 0 ≤ x / 4294967296 / 65536 / 256 := by omega
        have h7 : 1 ≤ x / 4294967296 / 65536 / 256 := by omega
        have h8 : x / 4294967296 / 65536 / 256 = x / 2 ^ 56 := by omega
        have H8 := Lib.hid h8
        clear h8
        go_enter Try.func21, Try.ntmps21
        go_wp2_with fail
        go_ret
        exact len_fin (k := 56) H8.out (by omega) h7 h1 _ (by decide +kernel) (tab_lt (by decide +kernel) h6 h5) h5 rfl
      · have h5 : x / 4294967296 / 65536 < 256 := by omega
        have h6 : 0 ≤ x / 4294967296 / 65536 := by omega
        have h7 : 1 ≤ x / 4294967296 / 65536 := by omega
        have h8 : x / 4294967296 / 65536 = x / 2 ^ 48 := by omega
        have H8 := Lib.hid h8
        clear h8
        go_enter Try.func21, Try.ntmps21
        go_wp2_with fail
        go_ret
        exact len_fin (k := 48) H8.out (by omega) h7 h1 _ (by decide +kernel) (tab_lt (by decide +kernel) h6 h5) h5 rfl
    · by_cases g8 : 256 ≤ x / 4294967296
      · have h5 : x / 4294967296 / 256 < 256 := by omega
        have h6 : 0 ≤ x / 4294967296 / 256 := by omega
        have h7 : 1 ≤ x / 4294967296 / 256 := by omega
        have h8 : x / 4294967296 / 256 = x / 2 ^ 40 := by omega
        have H8 := Lib.hid h8
        clear h8
        go_enter Try.func21, Try.ntmps21
        go_wp2_with fail
        go_ret
        exact len_fin (k := 40) H8.out (by omega) h7 h1 _ (by decide +kernel) (tab_lt (by decide +kernel) h6 h5) h5 rfl
      · have h5 : x / 4294967296 < 256 := by omega
        have h6 : 0 ≤ x / 4294967296 := by omega
        have h7 : 1 ≤ x / 4294967296 := by omega
        have h8 : x / 4294967296 = x / 2 ^ 32 := by omega
        have H8 := Lib.hid h8
        clear h8
        go_enter Try.func21, Try.ntmps21
        go_wp2_with fail
        go_ret
        exact len_fin (k := 32) H8.out (by omega) h7 h1 _ (by decide +kernel) (tab_lt (by decide +kernel) h6 h5) h5 rfl
  · by_cases g16 : 65536 ≤ x
    · by_cases g8 : 256 ≤ x / 65536
      · have h5 : x / 65536 / 256 < 256 := by omega
        have h6 : 0 ≤ x / 65536 / 256 := by omega
        have h7 : 1 ≤ x / 65536 / 256 := by omega
        have h8 : x / 65536 / 256 = x / 2 ^ 24 := by omega
        have H8 := Lib.hid h8
        clear h8
        go_enter Try.func21, Try.ntmps21
        go_wp2_with fail
        go_ret
        exact len_fin (k := 24) H8.out (by omega) h7 h1 _ (by decide +kernel) (tab_lt (by decide +kernel) h6 h5) h5 rfl
      · have h5 : x / 65536 < 256 := by omega
        have h6 : 0 ≤ x / 65536 := by omega
        have h7 : 1 ≤ x / 65536 := by omega
        have h8 : x / 65536 = x / 2 ^ 16 := by omega
        have H8 := Lib.hid h8
        clear h8
        go_enter Try.func21, Try.ntmps21
        go_wp2_with fail
        go_ret
        exact len_fin (k := 16) H8.out (by omega) h7 h1 _ (by decide +kernel) (tab_lt (by decide +kernel) h6 h5) h5 rfl
    · by_cases g8 : 256 ≤ x
      · have h5 : x / 256 < 256 := by omega
        have h6 : 0 ≤ x / 256 := by omega
        have h7 : 1 ≤ x / 256 := by omega
        have h8 : x / 256 = x / 2 ^ 8 := by omega
        have H8 := Lib.hid h8
        clear h8
        go_enter Try.func21, Try.ntmps21
        go_wp2_with fail
        go_ret
        exact len_fin (k := 8) H8.out (by omega) h7 h1 _ (by decide +kernel) (tab_lt (by decide +kernel) h6 h5) h5 rfl
      · have h5 : x < 256 := by omega
        go_enter Try.func21, Try.ntmps21
        go_wp2_with fail
        go_ret
        exact len_fin0 h0 _ (by decide +kernel) (tab_lt (by decide +kernel) h0 h5) h5 rfl
set_option maxHeartbeats 400000 in
theorem size_any (x : Int) (hx : U64 x) (w : World) : Calls Try.prog 9 #[.int .u64 x] w fun e w' => e = .returned (.int .i64 (Num.lebS x).size) ∧ w = w' := by
  go_enter Try.func9, Try.ntmps9
  go_wp2_with fail
  refine (len64_any x hx _).mono ?_
  rintro e w' ⟨L, rfl, hL, rfl⟩
  obtain ⟨h1, h2, h3⟩ := bits_size hx.1 hL
  have H1 := Lib.hid h1
  clear h1 hL hx
  go_wp2_with fail
  all_goals go_ret
  all_goals refine ⟨ret1 ?_, rfl⟩
  all_goals have H2 := H1.out
  all_goals rw [show (Num.lebS x).size = (Num.leb x.toNat).length from rfl, H2]
  all_goals omega
end Go.Proofs.Ytopffnibejlpjaa
