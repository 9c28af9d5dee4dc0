
/- The walk of insertionSortOrdered at uint64. No condition but that the row is not too long. -/
import Derived.Test.YtfjadphgjjlhiaaSoU
import Derived.Deep.QuietTactic
import Derived.BigQuiet
namespace Go.Proofs.Ytfjadphgjjlhiaa
open Go.RowKit Sou
set_option linter.unusedVariables false
set_option linter.unusedSimpArgs false
namespace Sou
open Go.Sort in
theorem insOuter_lt {a b i : Nat} {d : Array Int} (h : i < b) : insOuter ltInt a b i d = insOuter ltInt a b (i + 1) (insInner ltInt a i d) := by rw [insOuter, if_pos h]
open Go.Sort in
theorem insOuter_ge {a b i : Nat} {d : Array Int} (h : ¬ i < b) : insOuter ltInt a b i d = d := by rw [insOuter, if_neg h]
open Go.Sort in
theorem insInner_yes {a j : Nat} {d : Array Int} (h : a < j + 1) (hl : decide (d[j + 1]! < d[j]!) = true) : insInner ltInt a (j + 1) d = insInner ltInt a j (swp d (j + 1) j) := by
  rw [insInner, if_pos (by simp only [Bool.and_eq_true, decide_eq_true_eq]; exact ⟨h, hl⟩)]
open Go.Sort in
theorem insInner_no {a j : Nat} {d : Array Int} (hl : decide (d[j + 1]! < d[j]!) = false) : insInner ltInt a (j + 1) d = d := by
  rw [insInner, if_neg (by simp only [Bool.and_eq_true, decide_eq_true_eq]; intro h; have := h.2; unfold ltInt at this; rw [hl] at this; cases this)]
open Go.Sort in
theorem insInner_stop {a j : Nat} {d : Array Int} (h : j ≤ a) : insInner ltInt a j d = d := by
  cases j with
  | zero => rfl
  | succ j => rw [insInner, if_neg (by simp only [Bool.and_eq_true, decide_eq_true_eq]; omega)]
def InsO (w0 : World) (g a b n : Nat) (R : Array Int) (tl : List Value) (u : Value) (wr : World) : Prop := ∃ (i : Nat) (d : Array Int), a + 1 ≤ i ∧ (i ≤ b ∨ i = a + 1) ∧ u = .int .i64 i ∧ d.size = n ∧ Go.Sort.insOuter Go.Sort.ltInt a b i d = R ∧ UW w0 g d tl wr
def InsI (w0 : World) (g a i n : Nat) (R : Array Int) (tl : List Value) (u : Value) (wr : World) : Prop := ∃ (j : Nat) (d : Array Int), a ≤ j ∧ j ≤ i ∧ u = .int .i64 j ∧ d.size = n ∧ Go.Sort.insInner Go.Sort.ltInt a j d = R ∧ UW w0 g d tl wr
end Sou
set_option maxRecDepth 100000 in
set_option maxHeartbeats 4000000 in
theorem ins_u {w : World} {g n cap a b : Nat} {d : Array Int} {tl : List Value} (h : UR w g d tl) (hn : d.size = n) (hab : a ≤ b) (hb : b ≤ n) (hs : n ≤ 1000000) :
    Calls Try.prog 45 #[.slice (some ⟨g, 0, none⟩) n cap, .int .i64 (a : Int), .int .i64 (b : Int)] w (UPost w g (Go.Sort.insertionSort Go.Sort.ltInt d a b) tl) := by
  have hz : InsO w g a b n (Go.Sort.insertionSort Go.Sort.ltInt d a b) tl (.int .i64 ((a + 1 : Nat) : Int)) w := ⟨a + 1, d, Nat.le_refl _, .inr rfl, rfl, hn, rfl, h, Only.refl _ _⟩
  generalize Go.Sort.insertionSort Go.Sort.ltInt d a b = R at *
  clear h hn
  have HZ := Lib.hid hz
  clear hz
  have e1 : wrap64 ((a : Int) + 1) = ((a + 1 : Nat) : Int) := by unfold wrap64; omega
  go_enter Try.func45, Try.ntmps45
  go_wp2_with fail
  go_loopw [6] (fun u wr => InsO w g a b n R tl u wr) (fun u _ => ((b : Int) - intOf u).toNat)
  case atStart => exact HZ.out
  case round =>
    clear HZ e1
    obtain ⟨i, dc, hi0, hi1, rfl, hdn, hR, hU⟩ := hrel
    obtain ⟨wz, rfl⟩ : ∃ wz, wz = wr := ⟨_, rfl⟩
    have HR := Lib.hid hR
    have HU := Lib.hid hU
    have HDN := Lib.hid hdn
    clear hR hU hdn
    by_cases hi : i < b
    · have hib : (i : Int) < (b : Int) := by omega
      have hz2 : InsI w g a i n (Go.Sort.insInner Go.Sort.ltInt a i dc) tl (.int .i64 i) wz := ⟨i, dc, by omega, Nat.le_refl _, rfl, HDN.out, rfl, HU.out⟩
      have hR2 := insOuter_lt (a := a) (d := dc) hi
      rw [HR.out] at hR2
      have HR2 := Lib.hid hR2
      have HZ2 := Lib.hid hz2
      clear hz2 hR2 HR HU HDN
      generalize Go.Sort.insInner Go.Sort.ltInt a i dc = R2 at *
      go_wp2_with fail
      go_loopw [7] (fun u wr => InsI w g a i n R2 tl u wr) (fun u _ => (intOf u).toNat)
      case atStart => exact HZ2.out
      case round =>
        clear HZ2
        obtain ⟨j, dj, hj0, hj1, rfl, hdn, hS, hU⟩ := hrel
        have HS := Lib.hid hS
        have HU := Lib.hid hU
        have HDN := Lib.hid hdn
        by_cases hja : a < j
        · obtain ⟨j, rfl⟩ : ∃ k, j = k + 1 := ⟨j - 1, by omega⟩
          have c1 := hU.r.cell (i := j + 1) (by omega)
          have c0 := hU.r.cell (i := j) (by omega)
          have hf := hU.r.frozen
          have hyes := insInner_yes (d := dj) hja
          have hno := insInner_no (a := a) (j := j) (d := dj)
          have hsz : (Go.Sort.swp dj (j + 1) j).size = n := by rw [Go.Sort.swp_size]; exact hdn
          have HY := Lib.hid hyes
          have HNO := Lib.hid hno
          have HSZ := Lib.hid hsz
          clear hyes hno hsz hS hU hdn
          generalize dj[j + 1]! = x1 at *
          generalize dj[j]! = x0 at *
          have hja' : (a : Int) < (j : Int) + 1 := by omega
          have hjn : (j : Int) + 1 < (n : Int) := by omega
          have hjn0 : (j : Int) < (n : Int) := by omega
          have hj00 : (0 : Int) ≤ (j : Int) := by omega
          have hj1 : (0 : Int) ≤ (j : Int) + 1 := by omega
          have ej : IntKind.i64.wrap ((j : Int) + 1 - 1) = (j : Int) := by rw [IntKind.wrap_i64]; omega
          have HC := Lib.hid (And.intro c0 (And.intro c1 hf))
          clear c0 c1 hf
          cases hlt : decide (x1 < x0) with
          | true =>
            have HN := Lib.hid (HY.out hlt)
            have HLT := Lib.hid hlt
            clear HNO HY hlt
            have c0 := HC.out.1
            have c1 := HC.out.2.1
            go_upto_region 4 with fail
            go_quiet ((go_at_call 51; exact Calls.quiet_of_same (less_t HLT.out _)))
            go_wp2_with fail
            have hU2 := HU.out.drewN nq
            clear c0 c1 HC
            generalize wr.drewN nq = wx at *
            have c1 := hU2.r.cell (i := j + 1) (by have := HDN.out; omega)
            have c0 := hU2.r.cell (i := j) (by have := HDN.out; omega)
            have hf := hU2.r.frozen
            have hsw := (hU2.swp (i := j + 1) (j := j) (by have := HDN.out; omega) (by have := HDN.out; omega)).drew
            have HSW := Lib.hid hsw
            clear hsw hU2 HU HLT
            generalize dj[j + 1]! = y1 at *
            generalize dj[j]! = y0 at *
            go_region
            go_wp2_with fail
            go_roundw
            case rel => exact ⟨j, _, by omega, by omega, rfl, HSZ.out, by rw [← HN.out]; exact HS.out, HSW.out⟩
            case measure => simp [intOf]
          | false =>
            have HN := Lib.hid (HNO.out hlt)
            have HLT := Lib.hid hlt
            clear HNO HY hlt
            have c0 := HC.out.1
            have c1 := HC.out.2.1
            go_upto_region 4 with fail
            go_quiet ((go_at_call 51; exact Calls.quiet_of_same (less_t HLT.out _)))
            go_wp2_with fail
            go_roundw
            case rel => exact ⟨i + 1, dj, by omega, by omega, rfl, HDN.out, by rw [HR2.out, ← HS.out, HN.out], HU.out.drewN _⟩
            case measure => simp [intOf]; omega
        · have : j = a := by omega
          subst this
          have hja' : ¬ ((j : Int) < (j : Int)) := by omega
          have hS2 := insInner_stop (d := dj) (Nat.le_refl j)
          rw [HS.out] at hS2
          have HS2 := Lib.hid hS2
          clear hS hS2 hU hdn
          go_upto_region 4 with fail
          go_quiet (fail)
          go_wp2_with fail
          go_roundw
          case rel => exact ⟨i + 1, dj, by omega, by omega, rfl, HDN.out, by rw [HR2.out, HS2.out], HU.out.drewN _⟩
          case measure => simp [intOf]; omega
    · have hR2 := insOuter_ge (a := a) (d := dc) hi
      rw [HR.out] at hR2
      have HR2 := Lib.hid hR2
      have hi' : ¬ (i : Int) < (b : Int) := by omega
      clear hR2
      go_wp2_with fail
      go_end0
      exact ⟨rfl, by rw [HR2.out]; exact HU.out⟩
end Go.Proofs.Ytfjadphgjjlhiaa
