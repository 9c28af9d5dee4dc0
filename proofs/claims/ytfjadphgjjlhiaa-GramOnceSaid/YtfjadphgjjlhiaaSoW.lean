
/- The walk of choosePivotOrdered at uint64: what is chosen lies in the row. No condition but that the row is not too long. -/
import Derived.Test.YtfjadphgjjlhiaaSoV
namespace Go.Proofs.Ytfjadphgjjlhiaa
open Go.RowKit Sou
set_option linter.unusedVariables false
set_option linter.unusedSimpArgs false
set_option maxRecDepth 100000 in
set_option maxHeartbeats 4000000 in
theorem choose_u {w : World} {g n cap a b : Nat} {d : Array Int} {tl : List Value} (h : UR w g d tl) (hn : d.size = n) (hab : 12 < b - a) (hb : b ≤ n) (hs : n ≤ 1000000) :
    Calls Try.prog 48 #[.slice (some ⟨g, 0, none⟩) n cap, .int .i64 (a : Int), .int .i64 (b : Int)] w (CpPost w g a b d tl) := by
  obtain ⟨l, hl⟩ : ∃ l, l = b - a := ⟨_, rfl⟩
  obtain ⟨q, hq⟩ : ∃ q, q = l / 4 := ⟨_, rfl⟩
  have K : q ≤ 1000000000 ∧ 2 * q ≤ 1000000000 ∧ 3 * q ≤ 1000000000 ∧ a + q ≤ 1000000000 ∧ a + 2 * q ≤ 1000000000 ∧ a + 3 * q ≤ 1000000000 := by omega
  obtain ⟨w1, hw1⟩ : ∃ w1, w1 = w.alloc (.cells #[.int .i64 0] 3) := ⟨_, rfl⟩
  have hg : g < w.heap.size := h.lt
  obtain ⟨s, hsz⟩ : ∃ s, s = w.heap.size := ⟨_, rfl⟩
  have hC : CW w1 s w1 := ⟨⟨0, by rw [hw1, hsz]; exact Blk.new w _ _⟩, Only.refl _ _⟩
  have HBK : Hid (∀ wc, CW w1 s wc → UW w g d tl wc) := Lib.hid (by rw [hw1, hsz]; exact fun wc hc => CW.back h hc)
  have HUR : Hid (∀ wc, CW w1 s wc → UR wc g d tl) := Lib.hid fun wc hc => (HBK.out wc hc).r
  have HADJ : Hid (∀ wc x, CW w1 s wc → 1 ≤ x → x + 1 < n → Calls Try.prog 59 #[.slice (some ⟨g, 0, none⟩) n cap, .int .i64 ((x : Nat) : Int), .pointer (some ⟨s, 0, none⟩)] wc (MdPost wc s (x - 1) x (x + 1))) :=
    Lib.hid fun wc x hc h1 h2 => medianAdj_u (HUR.out wc hc) hn h1 h2 hc.c (by omega) hs
  have HMED : Hid (∀ wc x y z, CW w1 s wc → x < n → y < n → z < n → Calls Try.prog 60 #[.slice (some ⟨g, 0, none⟩) n cap, .int .i64 ((x : Nat) : Int), .int .i64 ((y : Nat) : Int), .int .i64 ((z : Nat) : Int), .pointer (some ⟨s, 0, none⟩)] wc (MdPost wc s x y z)) :=
    Lib.hid fun wc x y z hc h1 h2 h3 => median_u (HUR.out wc hc) hn h1 h2 h3 hc.c (by omega)
  have HC := Lib.hid hC
  have HW1 := Lib.hid hw1
  have HSZ := Lib.hid hsz
  have HBD : Hid (4 * q ≤ l ∧ l < 4 * q + 4 ∧ 12 < l ∧ l = b - a ∧ b ≤ n ∧ n ≤ 1000000) := Lib.hid (by omega)
  have e1 : IntKind.i64.wrap ((b : Int) - (a : Int)) = (l : Int) := by rw [IntKind.wrap_i64]; omega
  have e2 : (l : Int).tdiv 4 = (q : Int) := by rw [Int.tdiv_eq_ediv_of_nonneg (by omega)]; omega
  have e0 : wrap64 (q : Int) = ((q : Nat) : Int) := Sou.w64n rfl K.1
  have e4 : wrap64 ((q : Int) * 2) = ((2 * q : Nat) : Int) := Sou.w64n (by rw [Int.mul_comm]; rfl) K.2.1
  have e5 : wrap64 ((q : Int) * 3) = ((3 * q : Nat) : Int) := Sou.w64n (by rw [Int.mul_comm]; rfl) K.2.2.1
  have e6 : wrap64 ((a : Int) + ((q : Nat) : Int)) = ((a + q : Nat) : Int) := Sou.w64n rfl K.2.2.2.1
  have e7 : wrap64 ((a : Int) + ((2 * q : Nat) : Int)) = ((a + 2 * q : Nat) : Int) := Sou.w64n rfl K.2.2.2.2.1
  have e8 : wrap64 ((a : Int) + ((3 * q : Nat) : Int)) = ((a + 3 * q : Nat) : Int) := Sou.w64n rfl K.2.2.2.2.2
  have hl8 : (8 : Int) ≤ (l : Int) := by omega
  clear h hn hab hb hs hl hq hg hC K
  have HIJK := Lib.hid (And.intro (Eq.refl (a + q)) (And.intro (Eq.refl (a + 2 * q)) (Eq.refl (a + 3 * q))))
  obtain ⟨i, hi⟩ : ∃ i, i = a + q := ⟨_, rfl⟩
  obtain ⟨j, hj⟩ : ∃ j, j = a + 2 * q := ⟨_, rfl⟩
  obtain ⟨k, hk⟩ : ∃ k, k = a + 3 * q := ⟨_, rfl⟩
  have hbq := HBD.out
  have HI : Hid (a ≤ i ∧ i < b ∧ a ≤ j ∧ j < b ∧ a ≤ k ∧ k < b ∧ (50 ≤ l → a + 1 ≤ i ∧ i + 1 < b ∧ a + 1 ≤ j ∧ j + 1 < b ∧ a + 1 ≤ k ∧ k + 1 < b) ∧ b ≤ n) :=
    Lib.hid (by clear e0 e1 e2 e4 e5 e6 e7 e8 hl8 HBD; obtain ⟨h1, h2, h3, h4, h5, h6⟩ := hbq; exact ⟨by omega, by omega, by omega, by omega, by omega, by omega, fun _ => ⟨by omega, by omega, by omega, by omega, by omega, by omega⟩, by omega⟩)
  clear hbq
  rw [← hi] at e6
  rw [← hj] at e7
  rw [← hk] at e8
  clear hi hj hk HIJK HBD
  generalize 2 * q = q2 at *
  generalize 3 * q = q3 at *
  go_enter Try.func48, Try.ntmps48
  go_upto_if 32 with fail
  rw [← HW1.out, ← HSZ.out]
  simp only [e0, e4, e5, e6, e7, e8]
  clear e0 e1 e2 e4 e5 e6 e7 e8 HW1 HSZ hw1 hsz
  go_cut [11] (fun u wc => ∃ p : Nat, u = .int .i64 p ∧ a ≤ p ∧ p < b ∧ CW w1 s wc)
  case first =>
    clear HBK HUR
    by_cases h50 : 50 ≤ l
    · have h50' : (50 : Int) ≤ (l : Int) := by omega
      have HI2 := Lib.hid (HI.out.2.2.2.2.2.2.1 h50)
      have HN := Lib.hid HI.out.2.2.2.2.2.2.2
      clear HI
      go_upto_region 8 with fail
      go_cut [10] (fun u wc => ∃ p : Nat, u = .int .i64 p ∧ a ≤ p ∧ p < b ∧ CW w1 s wc)
      case first =>
        have HCALL := Lib.hid (HADJ.out w1 i HC.out (by have := HI2.out; omega) (by have := HI2.out; have := HN.out; omega))
        clear HADJ HMED
        go_wp2_with (go_at_call 59; ((with_reducible refine HCALL.out.mono ?_); rintro e w' ⟨⟨x, hx, rfl⟩, hw⟩))
        go_meet
        exact ⟨x, rfl, by have := HI2.out; omega, by have := HI2.out; omega, hw⟩
      case rest =>
        obtain ⟨i2, rfl, hi1, hi2, hw⟩ := hcut
        have HC := Lib.hid hw
        have HI3 := Lib.hid (And.intro hi1 hi2)
        clear hw hi1 hi2
        go_upto_region 9 with fail
        go_cut [11] (fun u wc => ∃ p : Nat, u = .int .i64 p ∧ a ≤ p ∧ p < b ∧ CW w1 s wc)
        case first =>
          have HCALL := Lib.hid (HADJ.out _ j HC.out (by have := HI2.out; omega) (by have := HI2.out; have := HN.out; omega))
          clear HADJ HMED
          go_wp2_with (go_at_call 59; ((with_reducible refine HCALL.out.mono ?_); rintro e w' ⟨⟨x, hx, rfl⟩, hw⟩))
          go_meet
          exact ⟨x, rfl, by have := HI2.out; omega, by have := HI2.out; omega, HC.out.then hw⟩
        case rest =>
          clear HC
          obtain ⟨j2, rfl, hj1, hj2, hw⟩ := hcut
          have HC := Lib.hid hw
          have HJ3 := Lib.hid (And.intro hj1 hj2)
          clear hw hj1 hj2
          go_upto_region 10 with fail
          go_cut [12] (fun u wc => ∃ p : Nat, u = .int .i64 p ∧ a ≤ p ∧ p < b ∧ CW w1 s wc)
          case first =>
            have HCALL := Lib.hid (HADJ.out _ k HC.out (by have := HI2.out; omega) (by have := HI2.out; have := HN.out; omega))
            clear HADJ HMED
            go_wp2_with (go_at_call 59; ((with_reducible refine HCALL.out.mono ?_); rintro e w' ⟨⟨x, hx, rfl⟩, hw⟩))
            go_meet
            exact ⟨x, rfl, by have := HI2.out; omega, by have := HI2.out; omega, HC.out.then hw⟩
          case rest =>
            clear HC
            obtain ⟨k2, rfl, hk1, hk2, hw⟩ := hcut
            have HC := Lib.hid hw
            have HCALL := Lib.hid (HMED.out _ i2 j2 k2 HC.out (by have := HI3.out; have := HN.out; omega) (by have := HJ3.out; have := HN.out; omega) (by have := HN.out; omega))
            clear HADJ HMED hw
            have HK3 := Lib.hid (And.intro hk1 hk2)
            clear hk1 hk2
            go_wp2_with (go_at_call 60; ((with_reducible refine HCALL.out.mono ?_); rintro e w' ⟨⟨x, hx, rfl⟩, hw⟩))
            go_meet
            exact ⟨x, rfl, by have := HI3.out; have := HJ3.out; have := HK3.out; omega, by have := HI3.out; have := HJ3.out; have := HK3.out; omega, HC.out.then hw⟩
    · have h50' : decide ((50 : Int) ≤ (l : Int)) = false := decide_eq_false (by omega)
      have HCALL := Lib.hid (HMED.out w1 i j k HC.out (by have := HI.out; omega) (by have := HI.out; omega) (by have := HI.out; omega))
      clear HADJ HMED
      go_wp2_with (go_at_call 60; ((with_reducible refine HCALL.out.mono ?_); rintro e w' ⟨⟨x, hx, rfl⟩, hw⟩))
      go_meet
      exact ⟨x, rfl, by have := HI.out; omega, by have := HI.out; omega, hw⟩
  case rest =>
    obtain ⟨p, rfl, hp1, hp2, hw⟩ := hcut
    have HU := Lib.hid (HBK.out _ hw)
    obtain ⟨⟨x, hx⟩, _⟩ := hw
    have xs : wc.cell? ⟨s, 0, none⟩ = some (.int .i64 x) := by rw [hx.cell 0]; rfl
    have HP := Lib.hid (And.intro hp1 hp2)
    clear hx hp1 hp2 HBK HUR HADJ HMED HC HI hl8
    by_cases hx0 : x = 0
    · subst hx0
      go_wp2_with fail
      go_ret2
      exact ⟨⟨p, _, HP.out.1, HP.out.2, rfl⟩, HU.out⟩
    · have hx0' : (x == 0) = false := by simpa using hx0
      by_cases hx12 : x = 12
      · subst hx12
        go_wp2_with fail
        go_ret2
        exact ⟨⟨p, _, HP.out.1, HP.out.2, rfl⟩, HU.out⟩
      · have hx12' : (x == 12) = false := by simpa using hx12
        clear hx0 hx12
        go_wp2_with fail
        go_ret2
        exact ⟨⟨p, _, HP.out.1, HP.out.2, rfl⟩, HU.out⟩
end Go.Proofs.Ytfjadphgjjlhiaa
