
/- The walks of siftDownOrdered and heapSortOrdered at uint64. No condition but that the row is not too long. -/
import Derived.Test.YtfjadphgjjlhiaaSoI
import Derived.Sort.LotB
namespace Go.Proofs.Ytfjadphgjjlhiaa
open Go.RowKit Sou
set_option linter.unusedVariables false
set_option linter.unusedSimpArgs false
namespace Sou
open Go.Sort
/-- The greater child. -/
def kidS (hi first r : Nat) (d : Array Int) : Bool := decide (2 * r + 2 < hi) && decide (d[first + (2 * r + 1)]! < d[first + (2 * r + 2)]!)
def kidC (hi first r : Nat) (d : Array Int) : Nat := if kidS hi first r d = true then 2 * r + 2 else 2 * r + 1
theorem sift_stop {hi first r : Nat} {d : Array Int} (h : hi ≤ 2 * r + 1) : siftDown ltInt hi first r d = d := by
  rw [siftDown, dif_pos h]
theorem sift_no {hi first r : Nat} {d : Array Int} (h : ¬ hi ≤ 2 * r + 1) (hl : decide (d[first + r]! < d[first + kidC hi first r d]!) = false) : siftDown ltInt hi first r d = d := by
  rw [siftDown, dif_neg h]
  unfold kidC kidS at hl
  by_cases h2 : 2 * r + 1 + 1 < hi
  · by_cases hk : d[first + (2 * r + 1)]! < d[first + (2 * r + 2)]!
    · rw [if_pos (by simp [ltInt, h2, hk, show 2 * r + 2 < hi from h2])] at hl
      rw [if_pos (by simp only [Bool.and_eq_true, decide_eq_true_eq]; exact ⟨h2, by simpa [ltInt, Nat.add_assoc] using hk⟩), if_pos (by simpa [ltInt] using hl)]
    · rw [if_neg (by simp [hk])] at hl
      rw [if_neg (by simp only [Bool.and_eq_true, decide_eq_true_eq]; intro h3; exact hk (by simpa [ltInt, Nat.add_assoc] using h3.2)), if_pos (by simpa [ltInt] using hl)]
  · rw [if_neg (by simp; intro h3; omega)] at hl
    rw [if_neg (by simp only [Bool.and_eq_true, decide_eq_true_eq]; intro h3; exact h2 h3.1), if_pos (by simpa [ltInt] using hl)]
theorem sift_yes {hi first r : Nat} {d : Array Int} (h : ¬ hi ≤ 2 * r + 1) (hl : decide (d[first + r]! < d[first + kidC hi first r d]!) = true) : siftDown ltInt hi first r d = siftDown ltInt hi first (kidC hi first r d) (swp d (first + r) (first + kidC hi first r d)) := by
  rw [siftDown, dif_neg h]
  unfold kidC kidS at hl ⊢
  by_cases h2 : 2 * r + 1 + 1 < hi
  · by_cases hk : d[first + (2 * r + 1)]! < d[first + (2 * r + 2)]!
    · have e : (decide (2 * r + 2 < hi) && decide (d[first + (2 * r + 1)]! < d[first + (2 * r + 2)]!)) = true := by simp [hk, show 2 * r + 2 < hi from h2]
      rw [if_pos e] at hl ⊢
      rw [if_pos (by simp only [Bool.and_eq_true, decide_eq_true_eq]; exact ⟨h2, by simpa [ltInt, Nat.add_assoc] using hk⟩), if_neg (by simpa [ltInt] using hl), dif_pos h2]
    · have e : ¬ (decide (2 * r + 2 < hi) && decide (d[first + (2 * r + 1)]! < d[first + (2 * r + 2)]!)) = true := by simp [hk]
      rw [if_neg e] at hl ⊢
      rw [if_neg (by simp only [Bool.and_eq_true, decide_eq_true_eq]; intro h3; exact hk (by simpa [ltInt, Nat.add_assoc] using h3.2)), if_neg (by simpa [ltInt] using hl)]
  · have e : ¬ (decide (2 * r + 2 < hi) && decide (d[first + (2 * r + 1)]! < d[first + (2 * r + 2)]!)) = true := by simp; intro h3; omega
    rw [if_neg e] at hl ⊢
    rw [if_neg (by simp only [Bool.and_eq_true, decide_eq_true_eq]; intro h3; exact h2 h3.1), if_neg (by simpa [ltInt] using hl)]
theorem kidC_bounds {hi first r : Nat} {d : Array Int} (h : ¬ hi ≤ 2 * r + 1) : 2 * r + 1 ≤ kidC hi first r d ∧ kidC hi first r d < hi ∧ r < kidC hi first r d := by
  unfold kidC kidS
  split
  · rename_i e
    simp only [Bool.and_eq_true, decide_eq_true_eq] at e
    omega
  · omega
theorem build_step {hi a k : Nat} {d : Array Int} : heapBuild ltInt hi a (k + 1) d = heapBuild ltInt hi a k (siftDown ltInt hi a k d) := rfl
theorem pop_step {a k : Nat} {d : Array Int} : heapPop ltInt a (k + 1) d = heapPop ltInt a k (siftDown ltInt k a 0 (swp d a (a + k))) := rfl
theorem sift_size (hi first : Nat) : ∀ (f r : Nat), hi - r ≤ f → ∀ d : Array Int, (siftDown ltInt hi first r d).size = d.size := by
  intro f
  induction f with
  | zero => intro r hf d; rw [sift_stop (by omega)]
  | succ f ih =>
    intro r hf d
    by_cases h : hi ≤ 2 * r + 1
    · rw [sift_stop h]
    · obtain ⟨h1, h2, h3⟩ := kidC_bounds (first := first) (d := d) h
      cases hl : decide (d[first + r]! < d[first + kidC hi first r d]!) with
      | false => rw [sift_no h hl]
      | true => rw [sift_yes h hl, ih _ (by omega), swp_size]
def HbR (w0 : World) (g hi a n : Nat) (R : Array Int) (tl : List Value) (u : Value) (wr : World) : Prop := ∃ (k : Nat) (d : Array Int) (i : Int), k ≤ hi + 1 ∧ u = .int .i64 i ∧ i = (k : Int) - 1 ∧ d.size = n ∧ heapBuild ltInt hi a k d = R ∧ UW w0 g d tl wr
def HpR (w0 : World) (g hi a n : Nat) (R : Array Int) (tl : List Value) (u : Value) (wr : World) : Prop := ∃ (k : Nat) (d : Array Int) (i : Int), k ≤ hi ∧ u = .int .i64 i ∧ i = (k : Int) - 1 ∧ d.size = n ∧ heapPop ltInt a k d = R ∧ UW w0 g d tl wr
def SiR (w0 : World) (g hi first n : Nat) (R : Array Int) (tl : List Value) (u : Value) (wr : World) : Prop := ∃ (r : Nat) (d : Array Int), r ≤ 1000000 ∧ u = .int .i64 r ∧ d.size = n ∧ siftDown ltInt hi first r d = R ∧ UW w0 g d tl wr
end Sou
set_option maxRecDepth 100000 in
set_option maxHeartbeats 4000000 in
theorem sift_u {w : World} {g n cap hi first r : Nat} {d : Array Int} {tl : List Value} (h : UR w g d tl) (hn : d.size = n) (hb : first + hi ≤ n) (hr : r ≤ 1000000) (hs : n ≤ 1000000) :
    Calls Try.prog 56 #[.slice (some ⟨g, 0, none⟩) n cap, .int .i64 (r : Int), .int .i64 (hi : Int), .int .i64 (first : Int)] w (UPost w g (Go.Sort.siftDown Go.Sort.ltInt hi first r d) tl) := by
  have hz : SiR w g hi first n (Go.Sort.siftDown Go.Sort.ltInt hi first r d) tl (.int .i64 r) w := ⟨r, d, hr, rfl, hn, rfl, h, Only.refl _ _⟩
  generalize Go.Sort.siftDown Go.Sort.ltInt hi first r d = R at *
  clear h hn
  have HZ := Lib.hid hz
  clear hz
  go_enter Try.func56, Try.ntmps56
  go_wp2_with fail
  go_loopw [8] (fun u wr => SiR w g hi first n R tl u wr) (fun u _ => ((1000000 : Int) + hi - intOf u).toNat)
  case atStart => exact HZ.out
  case round =>
    clear HZ hr
    obtain ⟨r, dc, hr, rfl, hdn, hR, hU⟩ := hrel
    have HR := Lib.hid hR
    have HU := Lib.hid hU
    have HDN := Lib.hid hdn
    clear hR hU hdn
    have ew1 : IntKind.i64.wrap (2 * (r : Int)) = 2 * (r : Int) := by rw [IntKind.wrap_i64]; omega
    have ew2 : IntKind.i64.wrap (2 * (r : Int) + 1) = 2 * (r : Int) + 1 := by rw [IntKind.wrap_i64]; omega
    by_cases hst : hi ≤ 2 * r + 1
    · have hR2 := sift_stop (first := first) (d := dc) hst
      rw [HR.out] at hR2
      have HR2 := Lib.hid hR2
      have hst' : (hi : Int) ≤ 2 * (r : Int) + 1 := by omega
      clear hR2
      go_wp2_with fail
      go_end0
      exact ⟨rfl, by rw [HR2.out]; exact HU.out⟩
    · have hst' : decide ((hi : Int) ≤ 2 * (r : Int) + 1) = false := decide_eq_false (by omega)
      obtain ⟨hc1, hc2, hc3⟩ := kidC_bounds (first := first) (d := dc) hst
      have HNO := Lib.hid (sift_no (first := first) (d := dc) hst)
      have HY := Lib.hid (sift_yes (first := first) (d := dc) hst)
      have hkc : kidC hi first r dc = if kidS hi first r dc = true then 2 * r + 2 else 2 * r + 1 := rfl
      have hks : kidS hi first r dc = (decide (2 * r + 2 < hi) && decide (dc[first + (2 * r + 1)]! < dc[first + (2 * r + 2)]!)) := rfl
      have HKC := Lib.hid hkc
      have HKS := Lib.hid hks
      clear hkc hks
      generalize kidC hi first r dc = c at *
      generalize kidS hi first r dc = s at *
      have ew3 : IntKind.i64.wrap (2 * (r : Int) + 1 + 1) = 2 * (r : Int) + 1 + 1 := by rw [IntKind.wrap_i64]; omega
      go_upto_region 3 with fail
      go_cut [36] (fun v wc => v = .bool s ∧ UW w g dc tl wc)
      case first =>
        by_cases h2 : 2 * r + 2 < hi
        · have h2' : 2 * (r : Int) + 1 + 1 < (hi : Int) := by omega
          have x0 := HU.out.r.cell (i := first + (2 * r + 1)) (by have := HDN.out; omega)
          have x1 := HU.out.r.cell (i := first + (2 * r + 2)) (by have := HDN.out; omega)
          have HLT : Hid (decide (dc[first + (2 * r + 1)]! < dc[first + (2 * r + 2)]!) = s) := Lib.hid (by rw [HKS.out]; simp [h2])
          generalize dc[first + (2 * r + 1)]! = y0 at *
          generalize dc[first + (2 * r + 2)]! = y1 at *
          have ea : IntKind.i64.wrap ((first : Int) + (2 * (r : Int) + 1)) = ((first + (2 * r + 1) : Nat) : Int) := by rw [IntKind.wrap_i64]; omega
          have eb : IntKind.i64.wrap (((first + (2 * r + 1) : Nat) : Int) + 1) = ((first + (2 * r + 2) : Nat) : Int) := by rw [IntKind.wrap_i64]; omega
          have i0 : ((first + (2 * r + 1) : Nat) : Int) < (n : Int) := by omega
          have i1 : ((first + (2 * r + 2) : Nat) : Int) < (n : Int) := by omega
          have j0 : (0 : Int) ≤ ((first + (2 * r + 1) : Nat) : Int) := by omega
          have j1 : (0 : Int) ≤ ((first + (2 * r + 2) : Nat) : Int) := by omega
          generalize first + (2 * r + 1) = A at *
          generalize first + (2 * r + 2) = B at *
          go_quiet ((go_at_call 51; exact Calls.quiet_of_same (less_t HLT.out _)))
          go_wp2_with fail
          go_meet
          exact ⟨rfl, HU.out.drewN _⟩
        · have h2' : decide (2 * (r : Int) + 1 + 1 < (hi : Int)) = false := decide_eq_false (by omega)
          have hs : s = false := by rw [HKS.out]; simp [h2]
          subst hs
          go_quiet (fail)
          go_wp2_with fail
          go_meet
          exact ⟨rfl, HU.out.drewN _⟩
      case rest =>
        obtain ⟨rfl, hU⟩ := hcut
        have HU2 := Lib.hid hU
        clear hU HU
        go_upto_if 36 with fail
        go_cut [9] (fun v wc2 => v = .int .i64 (c : Int) ∧ wc2 = wc)
        case first =>
          have hc := HKC.out
          cases s with
          | true =>
            have hc' : (c : Int) = 2 * (r : Int) + 1 + 1 := by rw [if_pos rfl] at hc; omega
            clear hc
            go_wp2_with fail
            all_goals go_meet
            all_goals exact ⟨by rw [hc'], rfl⟩
          | false =>
            have hc' : (c : Int) = 2 * (r : Int) + 1 := by rw [if_neg (by decide)] at hc; omega
            clear hc
            go_wp2_with fail
            all_goals go_meet
            all_goals exact ⟨by rw [hc'], rfl⟩
        case rest =>
          obtain ⟨rfl, rfl⟩ := hcut
          have ea : IntKind.i64.wrap ((first : Int) + (r : Int)) = ((first + r : Nat) : Int) := by rw [IntKind.wrap_i64]; omega
          have eb : IntKind.i64.wrap ((first : Int) + (c : Int)) = ((first + c : Nat) : Int) := by rw [IntKind.wrap_i64]; omega
          have i0 : ((first + r : Nat) : Int) < (n : Int) := by omega
          have i1 : ((first + c : Nat) : Int) < (n : Int) := by omega
          have j0 : (0 : Int) ≤ ((first + r : Nat) : Int) := by omega
          have j1 : (0 : Int) ≤ ((first + c : Nat) : Int) := by omega
          have hAn : first + r < n := by omega
          have hBn : first + c < n := by omega
          have hAB : ¬ first + r = first + c := by omega
          have hBA : ¬ first + c = first + r := by omega
          have hck : c ≤ 1000000 := by omega
          have hszs : (Go.Sort.swp dc (first + r) (first + c)).size = n := by rw [Go.Sort.swp_size]; exact HDN.out
          have HSZ := Lib.hid hszs
          have HCK := Lib.hid (And.intro hc1 (And.intro hc2 hc3))
          clear HKC HKS hszs ew1 ew2 ew3 hst hst' hc1 hc2 hc3
          generalize first + r = A at *
          generalize first + c = B at *
          have x0 := HU2.out.r.cell (i := A) (by have := HDN.out; omega)
          have x1 := HU2.out.r.cell (i := B) (by have := HDN.out; omega)
          have hsw := fun nq => ((HU2.out.drewN nq).swp (i := A) (j := B) (by have := HDN.out; omega) (by have := HDN.out; omega)).drew
          have HSW := Lib.hid hsw
          have hf := HU2.out.r.frozen
          have HF := Lib.hid hf
          clear hsw hf
          generalize dc[A]! = y0 at *
          generalize dc[B]! = y1 at *
          cases hl : decide (y0 < y1) with
          | false =>
            have HLT := Lib.hid hl
            have HN := Lib.hid (HNO.out hl)
            clear hl HY HNO HSW
            go_upto_region 5 with fail
            go_quiet ((go_at_call 51; exact Calls.quiet_of_same (less_t HLT.out _)))
            go_wp2_with fail
            go_end0
            exact ⟨rfl, by rw [← HR.out, HN.out]; exact HU2.out.drewN _⟩
          | true =>
            have HLT := Lib.hid hl
            have HN := Lib.hid (HY.out hl)
            clear hl HY HNO
            go_upto_region 5 with fail
            go_quiet ((go_at_call 51; exact Calls.quiet_of_same (less_t HLT.out _)))
            have HS2 := Lib.hid (HSW.out nq)
            have z0 : (wc.drewN nq).cell? ⟨g, A, none⟩ = some (.int .u64 y0) := x0
            have z1 : (wc.drewN nq).cell? ⟨g, B, none⟩ = some (.int .u64 y1) := x1
            have hf : ∀ o, (wc.drewN nq).frozen? ⟨g, o, none⟩ = false := HF.out
            clear x0 x1 HSW HF HU2
            generalize wc.drewN nq = wx at *
            go_upto_region 6 with fail
            go_region
            go_wp2_with fail
            go_roundw
            case rel => exact ⟨c, _, hck, rfl, HSZ.out, by rw [← HN.out]; exact HR.out, HS2.out⟩
            case measure => have := HCK.out; simp [intOf]; omega
theorem sift_u0 {w : World} {g n cap hi first : Nat} {d : Array Int} {tl : List Value} (h : UR w g d tl) (hn : d.size = n) (hb : first + hi ≤ n) (hs : n ≤ 1000000) :
    Calls Try.prog 56 #[.slice (some ⟨g, 0, none⟩) n cap, .int .i64 0, .int .i64 (hi : Int), .int .i64 (first : Int)] w (UPost w g (Go.Sort.siftDown Go.Sort.ltInt hi first 0 d) tl) := sift_u (r := 0) h hn hb (by omega) hs
set_option maxRecDepth 100000 in
set_option maxHeartbeats 4000000 in
theorem heap_u {w : World} {g n cap a b : Nat} {d : Array Int} {tl : List Value} (h : UR w g d tl) (hn : d.size = n) (hab : a < b) (hb : b ≤ n) (hs : n ≤ 1000000) :
    Calls Try.prog 46 #[.slice (some ⟨g, 0, none⟩) n cap, .int .i64 (a : Int), .int .i64 (b : Int)] w (UPost w g (Go.Sort.heapSort Go.Sort.ltInt d a b) tl) := by
  obtain ⟨hi, hhi⟩ : ∃ hi, hi = b - a := ⟨_, rfl⟩
  have hdef : Go.Sort.heapSort Go.Sort.ltInt d a b = Go.Sort.heapPop Go.Sort.ltInt a hi (Go.Sort.heapBuild Go.Sort.ltInt hi a ((hi - 1) / 2 + 1) d) := by rw [hhi]; rfl
  have hz : HbR w g hi a n (Go.Sort.heapBuild Go.Sort.ltInt hi a ((hi - 1) / 2 + 1) d) tl (.int .i64 ((((hi - 1) / 2 + 1 : Nat) : Int) - 1)) w := ⟨(hi - 1) / 2 + 1, d, _, by omega, rfl, rfl, hn, rfl, h, Only.refl _ _⟩
  generalize Go.Sort.heapSort Go.Sort.ltInt d a b = R at *
  generalize Go.Sort.heapBuild Go.Sort.ltInt hi a ((hi - 1) / 2 + 1) d = M at *
  have HDEF := Lib.hid hdef
  clear h hn hdef
  have e1 : IntKind.i64.wrap ((b : Int) - (a : Int)) = (hi : Int) := by rw [IntKind.wrap_i64]; omega
  have e2 : IntKind.i64.wrap ((hi : Int) - 1) = (hi : Int) - 1 := by rw [IntKind.wrap_i64]; omega
  have e3 : ((hi : Int) - 1).tdiv 2 = (((hi - 1) / 2 + 1 : Nat) : Int) - 1 := by
    rw [Int.tdiv_eq_ediv_of_nonneg (by omega)]; omega
  have hihi : a + hi = b := by omega
  have HIB := Lib.hid hihi
  have hi1 : 1 ≤ hi := by omega
  have hin : hi ≤ n := by omega
  clear hhi
  generalize (((hi - 1) / 2 + 1 : Nat) : Int) = z at *
  have ez : IntKind.i64.wrap (z - 1) = z - 1 := by
    rw [IntKind.wrap_i64]
    obtain ⟨k, _, i, _, hk, hi, _⟩ := hz
    injection hk with _ hk
    omega
  have HZ := Lib.hid hz
  clear hz
  go_enter Try.func46, Try.ntmps46
  go_wp2_with fail
  clear e2 e3 ez
  go_loopw [9] (fun u wr => HbR w g hi a n M tl u wr) (fun u _ => (intOf u + 1).toNat)
  case atStart => exact HZ.out
  case round =>
    clear HZ
    obtain ⟨k, dc, i, hk, rfl, hik, hdn, hR, hU⟩ := hrel
    obtain ⟨wz, rfl⟩ : ∃ wz, wz = wr := ⟨_, rfl⟩
    have HR := Lib.hid hR
    have HU := Lib.hid hU
    have HDN := Lib.hid hdn
    clear hR hU hdn
    rcases Nat.eq_zero_or_pos k with rfl | hk0
    · have hneg : i < 0 := by omega
      have hM : dc = M := HR.out
      have hz2 : HpR w g hi a n R tl (.int .i64 ((hi : Int) - 1)) wz := ⟨hi, dc, _, Nat.le_refl _, rfl, rfl, HDN.out, by rw [hM]; exact HDEF.out.symm, HU.out⟩
      have HZ2 := Lib.hid hz2
      clear hM hz2 HR HU HDN hik hk
      go_wp2_with fail
      go_loopw [10] (fun u wr => HpR w g hi a n R tl u wr) (fun u _ => (intOf u + 1).toNat)
      case atStart => exact HZ2.out
      case round =>
        clear HZ2
        obtain ⟨k, dc, i, hk, rfl, hik, hdn, hR, hU⟩ := hrel
        have HR := Lib.hid hR
        have HU := Lib.hid hU
        have HDN := Lib.hid hdn
        clear hR hU hdn
        rcases Nat.eq_zero_or_pos k with rfl | hk0
        · have hneg : i < 0 := by omega
          clear hik hk
          have hM : dc = R := HR.out
          have HM := Lib.hid hM
          clear hM
          go_wp2_with fail
          go_end0
          exact ⟨rfl, by rw [← HM.out]; exact HU.out⟩
        · obtain ⟨k, rfl⟩ : ∃ k', k = k' + 1 := ⟨k - 1, by omega⟩
          obtain rfl : i = (k : Int) := by omega
          have hst := pop_step (a := a) (k := k) (d := dc)
          rw [HR.out] at hst
          have HST := Lib.hid hst
          have hkk : (0 : Int) ≤ (k : Int) := by omega
          have hsz1 : (Go.Sort.swp dc a (a + k)).size = n := by rw [Go.Sort.swp_size]; exact HDN.out
          have hsw := (HU.out.swp (i := a) (j := a + k) (by have := HDN.out; omega) (by have := HDN.out; omega)).drew
          have HSW := Lib.hid hsw
          have HSZ := Lib.hid hsz1
          have hf := HU.out.r.frozen
          have x0 := HU.out.r.cell (i := a) (by have := HDN.out; omega)
          have x1 := HU.out.r.cell (i := a + k) (by have := HDN.out; omega)
          have ea : IntKind.i64.wrap ((a : Int) + (k : Int)) = ((a + k : Nat) : Int) := by rw [IntKind.wrap_i64]; omega
          have i0 : (a : Int) < (n : Int) := by omega
          have i1 : ((a + k : Nat) : Int) < (n : Int) := by omega
          have j0 : (0 : Int) ≤ (a : Int) := by omega
          have j1 : (0 : Int) ≤ ((a + k : Nat) : Int) := by omega
          clear hst hsw hsz1 HR hik
          have HSF := Lib.hid (fun wc (hU : UW w g (Go.Sort.swp dc a (a + k)) tl wc) => sift_u0 (cap := cap) (hi := k) (first := a) hU.r HSZ.out (by have := HIB.out; omega) hs)
          have HQ := Lib.hid (fun wc (hU : UW w g (Go.Sort.swp dc a (a + k)) tl wc) wd (hV : UW wc g (Go.Sort.siftDown Go.Sort.ltInt k a 0 (Go.Sort.swp dc a (a + k))) tl wd) => hU.then hV)
          have HSZ2 : Hid ((Go.Sort.siftDown Go.Sort.ltInt k a 0 (Go.Sort.swp dc a (a + k))).size = n) := Lib.hid (by rw [sift_size k a k 0 (by omega)]; exact HSZ.out)
          generalize Go.Sort.siftDown Go.Sort.ltInt k a 0 (Go.Sort.swp dc a (a + k)) = D2 at *
          go_upto_region 10 with fail
          go_cut [] (fun wc => UW w g (Go.Sort.swp dc a (a + k)) tl wc)
          case first =>
            rcases Nat.eq_zero_or_pos k with rfl | hk1
            · rw [Nat.add_zero] at x1 HSW ea i1 j1
              clear HSF HQ HSZ2 HSZ HU
              generalize dc[a]! = y0 at *
              go_region
              all_goals (go_wp2_with fail; go_meet)
              all_goals exact HSW.out
            · have hne : ¬ a = a + k := by omega
              have hne2 : ¬ a + k = a := by omega
              have hne3 : ¬ k = 0 := by omega
              clear HSF HQ HSZ2 HSZ HU
              generalize dc[a]! = y0 at *
              generalize dc[a + k]! = y1 at *
              generalize a + k = B at *
              go_region
              all_goals (go_wp2_with fail; go_meet)
              all_goals exact HSW.out
          case rest =>
            have HUC := Lib.hid hcut
            clear hcut x0 x1 hf HSW HU
            go_wp2_with (go_at_call 56; ((with_reducible refine (HSF.out _ HUC.out).mono ?_); rintro e w' ⟨rfl, hV⟩; have HV := Lib.hid (HQ.out _ HUC.out _ hV); clear hV))
            go_roundw
            case rel => exact ⟨k, D2, _, by omega, rfl, rfl, HSZ2.out, HST.out.symm, HV.out⟩
            case measure => simp [intOf]
    · obtain ⟨k, rfl⟩ : ∃ k', k = k' + 1 := ⟨k - 1, by omega⟩
      obtain rfl : i = (k : Int) := by omega
      have hst := build_step (hi := hi) (a := a) (k := k) (d := dc)
      rw [HR.out] at hst
      have HST := Lib.hid hst
      have hkk : (0 : Int) ≤ (k : Int) := by omega
      have HSF := Lib.hid (sift_u (cap := cap) (hi := hi) (first := a) (r := k) HU.out.r HDN.out (by have := HIB.out; omega) (by omega) hs)
      have HQ := Lib.hid (fun wd (hV : UW wz g (Go.Sort.siftDown Go.Sort.ltInt hi a k dc) tl wd) => HU.out.then hV)
      have HSZ2 : Hid ((Go.Sort.siftDown Go.Sort.ltInt hi a k dc).size = n) := Lib.hid (by rw [sift_size hi a hi k (by omega)]; exact HDN.out)
      clear hst HR hik
      generalize Go.Sort.siftDown Go.Sort.ltInt hi a k dc = D2 at *
      go_wp2_with (go_at_call 56; ((with_reducible refine HSF.out.mono ?_); rintro e w' ⟨rfl, hV⟩; have HV := Lib.hid (HQ.out _ hV); clear hV))
      go_roundw
      case rel => exact ⟨k, D2, _, by omega, rfl, rfl, HSZ2.out, HST.out.symm, HV.out⟩
      case measure => simp [intOf]
end Go.Proofs.Ytfjadphgjjlhiaa
