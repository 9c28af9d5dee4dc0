
/- The walk of breakPatternsOrdered at uint64: what comes of it is a permutation. No condition but that the row is not too long. -/
import Derived.Test.YtfjadphgjjlhiaaSoW
import Derived.Test.YtfjadphgjjlhiaaSoL
import Derived.Laws.Bits64b
import Derived.Sort.LotD1
namespace Go.Proofs.Ytfjadphgjjlhiaa
open Go.RowKit Sou
set_option linter.unusedVariables false
set_option linter.unusedSimpArgs false
namespace Sou
theorem UW.new {w : World} {g : Nat} {d : Array Int} {tl : List Value} (h : UR w g d tl) (o : Obj) : UW w g d tl (w.alloc o) := ⟨h.alloc o, (Only.refl _ _).alloc o⟩
def BpP (w0 : World) (g a b : Nat) (d : Array Int) (tl : List Value) (e : Ending) (w' : World) : Prop := e = .returned (.tuple #[]) ∧ ∃ d' : Array Int, Go.Sort.PermIn a b d d' ∧ UW w0 g d' tl w'
def BpR (w0 : World) (g a b n s i0 : Nat) (d : Array Int) (tl : List Value) (u : Value) (wr : World) : Prop := ∃ (t X : Nat) (d' : Array Int), t ≤ 3 ∧ u = .int .i64 ((i0 + t : Nat) : Int) ∧ X < 18446744073709551616 ∧ d'.size = n ∧ Go.Sort.PermIn a b d d' ∧ UW w0 g d' tl wr ∧ Blk wr s 95 #[.int .u64 X]
end Sou
set_option maxRecDepth 100000 in
set_option maxHeartbeats 4000000 in
theorem break_u {w : World} {g n cap a b : Nat} {d : Array Int} {tl : List Value} (h : UR w g d tl) (hn : d.size = n) (hab : 12 < b - a) (hb : b ≤ n) (hs : n ≤ 1000000) :
    Calls Try.prog 47 #[.slice (some ⟨g, 0, none⟩) n cap, .int .i64 (a : Int), .int .i64 (b : Int)] w (BpP w g a b d tl) := by
  obtain ⟨l, hl⟩ : ∃ l, l = b - a := ⟨_, rfl⟩
  obtain ⟨q, hq⟩ : ∃ q, q = l / 4 := ⟨_, rfl⟩
  have hg : g < w.heap.size := h.lt
  have K : q ≤ 1000000000 ∧ 2 * q ≤ 1000000000 ∧ a + 2 * q ≤ 1000000000 ∧ a + 2 * q - 1 ≤ 1000000000 ∧ 1 ≤ a + 2 * q ∧ a + 2 * q + 1 ≤ 1000000000 := ⟨by omega, by omega, by omega, by omega, by omega, by omega⟩
  have HQ : 4 * q ≤ l ∧ l < 4 * q + 4 ∧ 12 < l ∧ l = b - a ∧ b ≤ n ∧ n ≤ 1000000 ∧ l ≤ 1000000 := by omega
  clear hq hl
  obtain ⟨M, hM⟩ : ∃ M : Nat, M = 1 <<< Go.Sort.bitsLen l := ⟨_, rfl⟩
  have hM1 : 1 ≤ M := by rw [hM, Nat.one_shiftLeft]; exact Nat.two_pow_pos _
  have hM2 : M ≤ 2 * l := by rw [hM, Nat.one_shiftLeft]; exact Go.Sort.two_pow_bitsLen_le (by omega)
  have HNP : Hid (∀ W : World, Calls Try.prog 57 #[.int .i64 (l : Int)] W fun e w' => e = .returned (.int .u64 (M : Int)) ∧ w' = W) := Lib.hid (fun W => by rw [hM]; exact nextPow_u (by omega))
  clear hM
  have e1 : IntKind.i64.wrap ((b : Int) - (a : Int)) = (l : Int) := by rw [IntKind.wrap_i64]; omega
  have E1 := Lib.hid e1
  clear e1
  have e10 : IntKind.u64.wrap ((M : Int) - 1) = ((M - 1 : Nat) : Int) := by rw [IntKind.wrap_u64]; omega
  have E10 := Lib.hid e10
  clear e10
  have e11 : IntKind.u64.wrap (l : Int) = (l : Int) := by rw [IntKind.wrap_u64]; omega
  have E11 := Lib.hid e11
  clear e11
  have e2 : (l : Int).tdiv 4 = (q : Int) := by rw [Int.tdiv_eq_ediv_of_nonneg (by omega)]; clear hM1 hM2; omega
  have E2 := Lib.hid e2
  clear e2
  have k8 : ((a + 2 * q : Nat) : Int) - 1 = ((a + 2 * q - 1 : Nat) : Int) := by omega
  have hl8 : (8 : Int) ≤ (l : Int) := by omega
  obtain ⟨i0, hi0⟩ : ∃ i0, i0 = a + 2 * q - 1 := ⟨_, rfl⟩
  obtain ⟨m, hm⟩ : ∃ m, m = a + 2 * q := ⟨_, rfl⟩
  obtain ⟨m1, hm1⟩ : ∃ m1, m1 = m + 1 := ⟨_, rfl⟩
  have HB : Hid (a ≤ i0 ∧ m1 = i0 + 2 ∧ i0 + 2 < b ∧ b ≤ n ∧ l = b - a ∧ n ≤ 1000000 ∧ M ≤ 2 * l ∧ 1 ≤ M ∧ 12 < l) := Lib.hid (by clear hl8 K k8; exact ⟨by omega, by omega, by omega, by omega, by omega, by omega, by omega, by omega, by omega⟩)
  have hl3 : 0 ≤ 3 ∧ l < 18446744073709551616 := by omega
  have hgs : ¬ g = w.heap.size := by omega
  have hz : BpR w g a b n w.heap.size i0 d tl (.int .i64 (i0 : Int)) (w.alloc (.cells #[.int .u64 (l : Int)] 95)) := ⟨0, l, d, hl3.1, rfl, hl3.2, hn, Go.Sort.permIn_refl _ _ _, UW.new h _, Blk.new w _ _⟩
  obtain ⟨s, hss⟩ : ∃ s, s = w.heap.size := ⟨_, rfl⟩
  rw [← hss] at hz
  have HZ := Lib.hid hz
  have HSS := Lib.hid hss
  have HGS : Hid (g ≠ s) := Lib.hid (by rw [hss]; exact hgs)
  have e0 : wrap64 (q : Int) = ((q : Nat) : Int) := Sou.w64n rfl K.1
  have e4 : wrap64 ((q : Int) * 2) = ((2 * q : Nat) : Int) := Sou.w64n (by rw [Int.mul_comm]; rfl) K.2.1
  have e7 : wrap64 ((a : Int) + ((2 * q : Nat) : Int)) = ((a + 2 * q : Nat) : Int) := Sou.w64n rfl K.2.2.1
  have e8 : wrap64 (((a + 2 * q : Nat) : Int) - 1) = ((a + 2 * q - 1 : Nat) : Int) := Sou.w64n k8 K.2.2.2.1
  have e9 : wrap64 (((a + 2 * q : Nat) : Int) + 1) = ((a + 2 * q + 1 : Nat) : Int) := Sou.w64n rfl K.2.2.2.2.2
  rw [← hi0] at e8
  rw [← hm] at e7 e8 e9
  rw [← hm1] at e9
  clear h hn hab hb hs hg hM1 hM2 K HQ hi0 hm hm1 hz hss hl3 hgs k8
  generalize 2 * q = q2 at *
  have e1 := E1.out
  have e2 := E2.out
  have e10 := E10.out
  have e11 := E11.out
  clear E1 E2 E10 E11
  go_enter Try.func47, Try.ntmps47
  go_wp2_with (go_at_call 57; ((with_reducible refine (HNP.out _).mono ?_); rintro e w' ⟨rfl, rfl⟩))
  simp only [e0, e4, e7, e8]
  rw [← HSS.out]
  go_loopw [9] (fun u wr => BpR w g a b n s i0 d tl u wr) (fun u _ => ((i0 : Int) + 3 - intOf u).toNat)
  case atStart => exact HZ.out
  case round =>
    have EE := Lib.hid (And.intro e0 (And.intro e2 (And.intro e4 (And.intro e7 (And.intro e9 e10)))))
    clear HZ HNP e0 e1 e2 e4 e7 e8 e9 e10 e11 hl8
    obtain ⟨t, X, dk, ht, rfl, hX, hdn, hp, hU, hx⟩ := hrel
    have HU : Hid (UW wr g dk tl wr) := Lib.hid ⟨hU.r, Only.refl _ _⟩
    have HU0 := Lib.hid hU
    have HDN := Lib.hid hdn
    have HP := Lib.hid hp
    clear hU hdn hp
    rcases Nat.lt_or_ge t 3 with ht3 | ht3
    · obtain ⟨idx, hidx⟩ : ∃ idx, idx = i0 + t := ⟨_, rfl⟩
      rw [← hidx]
      obtain ⟨X', hX'⟩ : ∃ X', X' = Go.Sort.xorNextN X := ⟨_, rfl⟩
      have lX' : X' < 18446744073709551616 := by rw [hX']; exact Go.Sort.xorNextN_lt X hX
      obtain ⟨o, ho⟩ : ∃ o, o = X' &&& (M - 1) := ⟨_, rfl⟩
      have lo : o ≤ M - 1 := by rw [ho]; exact Nat.and_le_right
      have e12 : bits .and .u64 (X' : Int) ((M - 1 : Nat) : Int) = (o : Int) := by rw [bits_and_u64_nat _ _ lX' (by have := HB.out; omega), ho]
      have e13 : IntKind.i64.wrap (o : Int) = (o : Int) := by have := HB.out; rw [IntKind.wrap_i64]; omega
      have hle : (idx : Int) ≤ (m1 : Int) := by have := HB.out; omega
      have hcall : Calls Try.prog 58 #[.pointer (some ⟨s, 0, none⟩)] wr fun e w' => e = .returned (.int .u64 X') ∧ w' = (wr.setCell ⟨s, 0, none⟩ (.int .u64 X')).drewN 3 := by
        rw [hX']; exact xorshift_u hX (by rw [hx.cell 0]; rfl) (hx.frozen 0)
      have HCALL := Lib.hid hcall
      have hx1 : Blk (wr.setCell ⟨s, 0, none⟩ (.int .u64 X')) s 95 #[.int .u64 X'] := by simpa using hx.set 0 (.int .u64 X')
      have hx2 : Blk ((wr.setCell ⟨s, 0, none⟩ (.int .u64 X')).drewN 3) s 95 #[.int .u64 X'] := hx1
      clear hx1
      have hu2 : UW w g dk tl ((wr.setCell ⟨s, 0, none⟩ (.int .u64 X')).drewN 3) := by
        refine ⟨(show Blk wr g _ _ from HU.out.r).set_ne _ HGS.out, ?_⟩
        have := HU0.out.o.setCell (p := ⟨s, 0, none⟩) (Or.inr (by rw [HSS.out]; exact Nat.le_refl _)) (.int .u64 (X' : Int))
        exact ⟨this.os, this.tape, this.output, this.size, this.block⟩
      have HX2 := Lib.hid hx2
      have HU2 := Lib.hid hu2
      have HIDX := Lib.hid hidx
      have HO : Hid (o < M ∧ X' < 18446744073709551616 ∧ t < 3) := Lib.hid ⟨by have := HB.out; omega, lX', ht3⟩
      have HW : Hid (∃ W, W = (wr.setCell ⟨s, 0, none⟩ (.int .u64 (X' : Int))).drewN 3) := Lib.hid ⟨_, rfl⟩
      clear hcall hx hx2 hu2 HU HU0 hX hX' ho lo lX' hidx ht ht3
      obtain ⟨W, hW⟩ := HW.out
      rw [← hW] at HX2 HU2 HCALL
      clear hW HW
      obtain ⟨e0, e2, e4, e7, e9, e10⟩ := EE.out
      clear EE
      generalize M - 1 = M1 at *
      go_upto_region 8 with (go_at_call 58; ((with_reducible refine HCALL.out.mono ?_); rintro e w' ⟨rfl, rfl⟩))
      go_upto_if 43 with fail
      have EE := Lib.hid (And.intro e0 (And.intro e2 (And.intro e4 (And.intro e7 e9))))
      clear e0 e2 e4 e7 e9 e10 e12 e13 hle
      go_cut [10] (fun u wc => ∃ o2 : Nat, u = .int .i64 o2 ∧ o2 < l ∧ wc = w')
      case first =>
        have HB2 := Lib.hid (And.intro HB.out HO.out)
        clear HX2 HU2 HO HB HCALL
        by_cases hol : l ≤ o
        · have hol' : (l : Int) ≤ (o : Int) := by omega
          have e14 : IntKind.i64.wrap ((o : Int) - (l : Int)) = ((o - l : Nat) : Int) := by have := HB2.out; rw [IntKind.wrap_i64]; omega
          go_wp2_with fail
          go_meet
          exact ⟨o - l, rfl, by have := HB2.out; omega, rfl⟩
        · have hol' : decide ((l : Int) ≤ (o : Int)) = false := decide_eq_false (by omega)
          go_wp2_with fail
          go_meet
          exact ⟨o, rfl, by omega, rfl⟩
      case rest =>
        obtain ⟨o2, rfl, ho2, rfl⟩ := hcut
        obtain ⟨B, hBB⟩ : ∃ B, B = a + o2 := ⟨_, rfl⟩
        have ea : IntKind.i64.wrap ((a : Int) + (o2 : Int)) = (B : Int) := by have := HB.out; rw [IntKind.wrap_i64]; omega
        have eb : wrap64 ((idx : Int) + 1) = ((idx + 1 : Nat) : Int) := Sou.w64n rfl (by have := HB.out; have := HO.out; have := HIDX.out; omega)
        have HEB := Lib.hid eb
        clear eb
        have HBD : Hid (idx < n ∧ B < n ∧ a ≤ idx ∧ idx < b ∧ a ≤ B ∧ B < b ∧ b ≤ n) := Lib.hid (by have := HB.out; have := HO.out; have := HIDX.out; omega)
        have HU : Hid (UW wc g dk tl wc) := Lib.hid ⟨HU2.out.r, Only.refl _ _⟩
        obtain ⟨wz, hwz⟩ : ∃ wz, wz = wc := ⟨_, rfl⟩
        have HU3 : Hid (UW wz g dk tl wc) := Lib.hid (by rw [hwz]; exact HU.out)
        clear HU
        have HU := Lib.hid HU3.out
        have HX3 : Hid (Blk wz s 95 #[.int .u64 X']) := Lib.hid (by rw [hwz]; exact HX2.out)
        have HU4 : Hid (UW w g dk tl wz) := Lib.hid (by rw [hwz]; exact HU2.out)
        clear HU2 HX2 HU3 HCALL hwz hBB ho2
        have HZ : Hid (∀ wc, UW wz g (Go.Sort.swp dk idx B) tl wc → BpR w g a b n s i0 d tl (.int .i64 ((idx + 1 : Nat) : Int)) wc) := Lib.hid fun wc hcut =>
          ⟨t + 1, X', _, by have := HO.out; omega, by rw [HIDX.out, Nat.add_assoc], HO.out.2.1, by rw [Go.Sort.swp_size]; exact HDN.out, Go.Sort.permIn_trans _ _ _ a b HP.out (Go.Sort.swp_permIn _ a b idx B HBD.out.2.2.1 HBD.out.2.2.2.1 HBD.out.2.2.2.2.1 HBD.out.2.2.2.2.2.1 (by rw [HDN.out]; exact HBD.out.2.2.2.2.2.2)), HU4.out.then hcut, HX3.out.only hcut.o (fun e => HGS.out e.symm)⟩
        have HME := Lib.hid (And.intro HO.out HIDX.out)
        have HMS : Hid ((((i0 : Nat) : Int) + 3 - intOf (.int .i64 ((idx + 1 : Nat) : Int))).toNat < (((i0 : Nat) : Int) + 3 - intOf (.int .i64 ((idx : Nat) : Int))).toNat) := Lib.hid (by have := HME.out; clear ea; simp [intOf]; omega)
        have HSW := Lib.hid (HZ.out _ (HU.out.swp (i := idx) (j := B) (by have := HDN.out; have := HBD.out; omega) (by have := HDN.out; have := HBD.out; omega)).drew)
        have hf := HU.out.r.frozen
        have x0 := HU.out.r.cell (i := idx) (by have := HDN.out; have := HBD.out; omega)
        have x1 := HU.out.r.cell (i := B) (by have := HDN.out; have := HBD.out; omega)
        have k0 : ((idx : Nat) : Int) < (n : Int) := by have := HBD.out; omega
        have k1 : ((B : Nat) : Int) < (n : Int) := by have := HBD.out; omega
        have j0 : (0 : Int) ≤ ((idx : Nat) : Int) := by omega
        have j1 : (0 : Int) ≤ ((B : Nat) : Int) := by omega
        clear HU HX3 HU4 HP HDN HO HIDX HBD EE HZ
        by_cases hAB : idx = B
        · subst hAB
          generalize dk[idx]! = y1 at *
          go_upto_region 10 with fail
          go_region
          go_wp2_with fail
          go_roundw
          case rel => rw [HEB.out]; exact HSW.out
          case measure => rw [HEB.out]; exact HMS.out
        · have hBA : ¬ B = idx := fun e => hAB e.symm
          generalize dk[idx]! = y0 at *
          generalize dk[B]! = y1 at *
          go_upto_region 10 with fail
          go_region
          go_wp2_with fail
          go_roundw
          case rel => rw [HEB.out]; exact HSW.out
          case measure => rw [HEB.out]; exact HMS.out
    · obtain rfl : t = 3 := by omega
      have hle : decide (((i0 + 3 : Nat) : Int) ≤ (m1 : Int)) = false := decide_eq_false (by have := HB.out; omega)
      have hle2 : ¬ (((i0 + 3 : Nat) : Int) ≤ (m1 : Int)) := of_decide_eq_false hle
      have HP2 := Lib.hid (And.intro HP.out HU0.out)
      obtain ⟨e0, e2, e4, e7, e9, e10⟩ := EE.out
      clear HP HU0 HU hx ht ht3 hX HDN EE
      generalize ((i0 + 3 : Nat) : Int) = z at *
      go_wp2_with fail
      go_end0
      exact ⟨rfl, dk, HP2.out.1, HP2.out.2⟩
end Go.Proofs.Ytfjadphgjjlhiaa
