import Derived.Test.YtlahficmkfgooaaGreatMgl
import Derived.Deep.CutBlock
import Derived.Sort.LotB
import Derived.Test.YtlahficmkfgooaaGreatRows
import Derived.Shelf.Sort.Plain
import Derived.Sort.LotD5
import Derived.Laws.Bits64b
import Derived.Sort.LotD1

/- The walk of partitionEqualOrdered at uint64. No condition but that the row is not too long. -/
namespace Go.Proofs.YtlahficmkfgooaaGreat
open Go.RowKit Sou
set_option linter.unusedVariables false
set_option linter.unusedSimpArgs false
set_option maxRecDepth 100000 in
set_option maxHeartbeats 4000000 in
theorem parteq_u {w : World} {g n cap a b pivot : Nat} {d : Array Int} {tl : List Value} (h : UR w g d tl) (hn : d.size = n) (hap : a ≤ pivot) (hpb : pivot < b) (hb : b ≤ n) (hs : n ≤ 1000000) :
    Calls Tryz.prog 141 #[.slice (some ⟨g, 0, none⟩) n cap, .int .i64 (a : Int), .int .i64 (b : Int), .int .i64 (pivot : Int)] w fun e w' =>
      e = .returned (.int .i64 ((Go.Sort.partitionEqual Go.Sort.ltInt d a b pivot).1 : Nat)) ∧ UW w g (Go.Sort.partitionEqual Go.Sort.ltInt d a b pivot).2 tl w' := by
  have hdef : Go.Sort.partEqLoop Go.Sort.ltInt a (a + 1) (b - 1) (Go.Sort.swp d a pivot) = Go.Sort.partitionEqual Go.Sort.ltInt d a b pivot := rfl
  generalize Go.Sort.partitionEqual Go.Sort.ltInt d a b pivot = R at *
  have HDEF := Lib.hid hdef
  have HU : Hid (UW w g d tl w) := Lib.hid ⟨h, Only.refl _ _⟩
  have HDN := Lib.hid hn
  have HBD := Lib.hid (And.intro hap (And.intro hpb (And.intro hb (show a < n by omega))))
  have e1 : IntKind.i64.wrap ((a : Int) + 1) = ((a + 1 : Nat) : Int) := by rw [IntKind.wrap_i64]; omega
  have e2 : IntKind.i64.wrap ((b : Int) - 1) = ((b - 1 : Nat) : Int) := by rw [IntKind.wrap_i64]; omega
  clear h hn hdef hap hpb hb
  go_enter Tryz.func141, Tryz.ntmps141
  go_wp2_with fail
  go_upto_region 1 with fail
  go_cut [] (fun wc => UW w g (Go.Sort.swp d a pivot) tl wc)
  case first =>
    have hsw := fun W (h : UW w g d tl W) => (h.swp (i := a) (j := pivot) (by have := HDN.out; have := HBD.out; omega) (by have := HDN.out; have := HBD.out; omega)).drew
    have HSW := Lib.hid (hsw _ HU.out)
    have hf := HU.out.r.frozen
    have x0 := HU.out.r.cell (i := a) (by have := HDN.out; have := HBD.out; omega)
    have x1 := HU.out.r.cell (i := pivot) (by have := HDN.out; have := HBD.out; omega)
    have i0 : ((a : Nat) : Int) < (n : Int) := by have := HBD.out; omega
    have i1 : ((pivot : Nat) : Int) < (n : Int) := by have := HBD.out; omega
    have j0 : (0 : Int) ≤ ((a : Nat) : Int) := by omega
    have j1 : (0 : Int) ≤ ((pivot : Nat) : Int) := by omega
    clear hsw HU
    by_cases hAB : a = pivot
    · subst hAB
      generalize (d)[a]! = y1 at *
      go_region
      all_goals (go_wp2_with fail; go_meet)
      all_goals exact HSW.out
    · have hBA : ¬ pivot = a := fun e => hAB e.symm
      generalize (d)[a]! = y0 at *
      generalize (d)[pivot]! = y1 at *
      go_region
      all_goals (go_wp2_with fail; go_meet)
      all_goals exact HSW.out
  case rest =>
    have hdks : (Go.Sort.swp d a pivot).size = n := by rw [Go.Sort.swp_size]; exact HDN.out
    have hz : EqR w g a b n R tl (.int .i64 ((a + 1 : Nat) : Int)) (.int .i64 ((b - 1 : Nat) : Int)) wc := ⟨a + 1, b - 1, _, rfl, rfl, by omega, by have := HBD.out; omega, by have := HBD.out; omega, hdks, HDEF.out, hcut⟩
    have HZ := Lib.hid hz
    have HB2 := Lib.hid HBD.out
    clear HBD
    have HBD : Hid (b ≤ n ∧ a < n) := Lib.hid (by have := HB2.out; omega)
    clear hz hdks hcut HB2 HDN HU HDEF
    generalize a + 1 = i3 at *
    generalize b - 1 = j3 at *
    go_wp2_with fail
    clear e1 e2
    go_loopw [9, 10] (fun u v wr => EqR w g a b n R tl u v wr) (fun u v _ => (intOf v + 1 - intOf u).toNat)
    case atStart => exact HZ.out
    case round =>
      clear HZ
      obtain ⟨i0, j0, dk, rfl, rfl, ha0, hij0, hjb, hdn, hR, hU⟩ := hrel
      have HU := Lib.hid hU
      have HDN := Lib.hid hdn
      have HB2 := Lib.hid HBD.out
      clear HBD
      have HBD : Hid (a < i0 ∧ i0 ≤ j0 + 1 ∧ j0 < b ∧ b ≤ n ∧ a < n) := Lib.hid (by have := HB2.out; omega)
      obtain ⟨p, hp⟩ : ∃ p : Int → Bool, p = fun x => !Go.Sort.ltInt dk[a]! x := ⟨_, rfl⟩
      obtain ⟨q, hq⟩ : ∃ q : Int → Bool, q = fun x => Go.Sort.ltInt dk[a]! x := ⟨_, rfl⟩
      obtain ⟨i2, hi2⟩ : ∃ i2, i2 = Go.Sort.scanUp p dk j0 i0 := ⟨_, rfl⟩
      obtain ⟨j2, hj2⟩ : ∃ j2, j2 = Go.Sort.scanDown q dk i2 j0 := ⟨_, rfl⟩
      have hsp := eq_split dk a i0 j0 i2 j2 (by rw [hi2, hp]) (by rw [hj2, hq])
      rw [hR] at hsp
      have HX := Lib.hid hsp
      have HR1 : Hid (Go.Sort.scanUp p dk j0 i0 = i2) := Lib.hid hi2.symm
      have HR2 : Hid (Go.Sort.scanDown q dk i2 j0 = j2) := Lib.hid hj2.symm
      have HP : Hid (∀ x, p x = !decide (dk[a]! < x)) := Lib.hid (by rw [hp]; intro x; rfl)
      have HQ : Hid (∀ x, q x = decide (dk[a]! < x)) := Lib.hid (by rw [hq]; intro x; rfl)
      have HPQ : Hid (∀ x, q x = !p x) := Lib.hid (by rw [hp, hq]; intro x; simp)
      clear hsp hR hi2 hj2 hp hq hU hdn ha0 hij0 hjb HB2
      go_upto_block 2 with fail
      go_cut [9] (fun u wc => ScUE w g dk tl p i0 j0 i2 u wc)
      case first =>
        have hz : ScU w g dk tl p i0 j0 i2 (.int .i64 ((i0 : Nat) : Int)) _ := ⟨i0, rfl, Nat.le_refl _, by have := HBD.out; omega, HR1.out, HU.out⟩
        have HZ := Lib.hid hz
        clear hz HU
        go_wp2_with fail
        go_loopw [9] (fun u wr => ScU w g dk tl p i0 j0 i2 u wr) (fun u _ => (((j0 : Nat) : Int) + 1 - intOf u).toNat)
        case atStart => exact HZ.out
        case round =>
          clear HZ
          obtain ⟨i, rfl, hi1, hi2, hsc, hU⟩ := hrel
          have HI := Lib.hid (And.intro hi1 hi2)
          have HU := Lib.hid hU
          have HSC := Lib.hid hsc
          clear hU hsc hi1 hi2
          by_cases hle : i ≤ j0
          · have hle' : (i : Int) ≤ ((j0 : Nat) : Int) := by omega
            have x0 := HU.out.r.cell (i := i) (by have := HDN.out; have := HBD.out; omega)
            have x1 := HU.out.r.cell (i := a) (by have := HDN.out; have := HBD.out; omega)
            have HGO := Lib.hid (fun h => (scanUp_go' p dk j0 i hle h).symm.trans HSC.out)
            have HEND := Lib.hid (ScUE.of (tl := tl) (w := w) (g := g) HI.out.1 HI.out.2 HSC.out)
            have hpd := HP.out (dk)[i]!
            have b0 : (i : Int) < (n : Int) := by have := HBD.out; omega
            have b1 : ((a : Nat) : Int) < (n : Int) := by have := HBD.out; omega
            have c0 : (0 : Int) ≤ (i : Int) := by omega
            have c1 : (0 : Int) ≤ ((a : Nat) : Int) := by omega
            clear HSC
            generalize (dk)[i]! = y0 at *
            generalize (dk)[a]! = z at *
            cases hp : p y0 with
            | true =>
              have HLT : Hid (decide (z < y0) = false) := Lib.hid (by rw [hp] at hpd; simpa using hpd)
              have HN := Lib.hid (HGO.out hp)
              clear hp hpd HGO HEND HP
              go_upto_region 3 with fail
              go_quiet ((go_at_call 140; exact Calls.quiet_of_same (less_t HLT.out _)))
              go_wp2_with fail
              go_roundw
              case rel => exact ⟨i + 1, rfl, by have := HI.out; omega, by omega, HN.out, HU.out.drewN _⟩
              case measure => simp [intOf]; omega
            | false =>
              have HLT : Hid (decide (z < y0) = true) := Lib.hid (by rw [hp] at hpd; simpa using hpd)
              have HN := Lib.hid (HEND.out (.inr hp))
              clear hp hpd HGO HEND HP
              go_upto_region 3 with fail
              go_quiet ((go_at_call 140; exact Calls.quiet_of_same (less_t HLT.out _)))
              go_wp2_with fail
              go_meet
              exact HN.out _ (HU.out.drewN _)
          · have hle' : decide ((i : Int) ≤ ((j0 : Nat) : Int)) = false := decide_eq_false (by omega)
            have HN := Lib.hid (ScUE.of (tl := tl) (w := w) (g := g) HI.out.1 HI.out.2 HSC.out (.inl hle))
            clear HSC HP
            go_upto_region 3 with fail
            go_quiet (fail)
            go_wp2_with fail
            go_meet
            exact HN.out _ (HU.out.drewN _)
      case rest =>
        clear HU HR1
        obtain ⟨rfl, hb1, hb2, hpe, hU⟩ := hcut
        have HU := Lib.hid hU
        have HPE := Lib.hid hpe
        have HI0 := Lib.hid hb1
        have HB2 := Lib.hid HBD.out
        clear HBD
        have HBD : Hid (a < i2 ∧ i2 ≤ j0 + 1 ∧ j0 < b ∧ b ≤ n ∧ a < n) := Lib.hid (by have := HB2.out; omega)
        clear HB2 hb1 hb2 hU hpe
        go_upto_block 4 with fail
        go_cut [10] (fun u wc => ScDE w g dk tl q i2 j0 j2 u wc)
        case first =>
          have hz : ScD w g dk tl q i2 j0 j2 (.int .i64 ((j0 : Nat) : Int)) _ := ⟨j0, rfl, Nat.le_refl _, by have := HBD.out; omega, HR2.out, HU.out⟩
          have HZ := Lib.hid hz
          clear hz HU
          go_wp2_with fail
          go_loopw [10] (fun u wr => ScD w g dk tl q i2 j0 j2 u wr) (fun u _ => (intOf u).toNat)
          case atStart => exact HZ.out
          case round =>
            clear HZ
            obtain ⟨j, rfl, hi1, hi2, hsc, hU⟩ := hrel
            have HI := Lib.hid (And.intro hi1 hi2)
            have HU := Lib.hid hU
            have HSC := Lib.hid hsc
            clear hU hsc hi1 hi2
            by_cases hle : i2 ≤ j
            · have hle' : ((i2 : Nat) : Int) ≤ (j : Int) := by omega
              have hj1 : 1 ≤ j := by have := HBD.out; omega
              have x0 := HU.out.r.cell (i := j) (by have := HDN.out; have := HBD.out; have := HI.out; omega)
              have x1 := HU.out.r.cell (i := a) (by have := HDN.out; have := HBD.out; omega)
              have HGO := Lib.hid (fun h => (scanDown_go' q dk i2 j hle hj1 h).symm.trans HSC.out)
              have HEND := Lib.hid (ScDE.of (tl := tl) (w := w) (g := g) HI.out.1 HI.out.2 HSC.out)
              have hpd := HQ.out (dk)[j]!
              have b0 : (j : Int) < (n : Int) := by have := HBD.out; have := HI.out; omega
              have b1 : ((a : Nat) : Int) < (n : Int) := by have := HBD.out; omega
              have c0 : (0 : Int) ≤ (j : Int) := by omega
              have c1 : (0 : Int) ≤ ((a : Nat) : Int) := by omega
              have ej : IntKind.i64.wrap ((j : Int) - 1) = ((j - 1 : Nat) : Int) := by have := HBD.out; have := HI.out; rw [IntKind.wrap_i64]; omega
              clear HSC
              generalize (dk)[j]! = y0 at *
              generalize (dk)[a]! = z at *
              cases hp : q y0 with
              | true =>
                have HLT : Hid (decide (z < y0) = true) := Lib.hid (by rw [hp] at hpd; simpa using hpd)
                have HN := Lib.hid (HGO.out hp)
                clear hp hpd HGO HEND HQ
                go_upto_region 5 with fail
                go_quiet ((go_at_call 140; exact Calls.quiet_of_same (less_t HLT.out _)))
                go_wp2_with fail
                go_roundw
                case rel => exact ⟨j - 1, rfl, by have := HI.out; omega, by omega, HN.out, HU.out.drewN _⟩
                case measure => simp [intOf]; omega
              | false =>
                have HLT : Hid (decide (z < y0) = false) := Lib.hid (by rw [hp] at hpd; simpa using hpd)
                have HN := Lib.hid (HEND.out (.inr hp))
                clear hp hpd HGO HEND HQ
                go_upto_region 5 with fail
                go_quiet ((go_at_call 140; exact Calls.quiet_of_same (less_t HLT.out _)))
                go_wp2_with fail
                go_meet
                exact HN.out _ (HU.out.drewN _)
            · have hle' : decide (((i2 : Nat) : Int) ≤ (j : Int)) = false := decide_eq_false (by omega)
              have HN := Lib.hid (ScDE.of (tl := tl) (w := w) (g := g) HI.out.1 HI.out.2 HSC.out (.inl hle))
              clear HSC HQ
              go_upto_region 5 with fail
              go_quiet (fail)
              go_wp2_with fail
              go_meet
              exact HN.out _ (HU.out.drewN _)
        case rest =>
          clear HU HR2 HP HQ
          obtain ⟨rfl, hb1, hb2, hqe, hU⟩ := hcut
          have HU := Lib.hid hU
          have hij : i2 ≠ j2 := by
            intro e
            have h1 := HPE.out (by omega)
            have h2 := hqe (by omega)
            rw [HPQ.out, ← e, h1] at h2
            cases h2
          have HB2 := Lib.hid HBD.out
          clear HBD
          have HBD : Hid (a < i2 ∧ i2 ≤ j2 + 1 ∧ j2 < b ∧ b ≤ n ∧ a < n ∧ i2 ≠ j2 ∧ j2 < n ∧ i0 ≤ i2 ∧ j2 ≤ j0) := Lib.hid (by have := HB2.out; have := HI0.out; omega)
          clear HB2 HI0 hb1 hb2 hU hqe hij HPE HPQ
          by_cases hlt : j2 < i2
          · have hr := HX.out.1 hlt
            have HRE := Lib.hid hr
            have hlt' : (j2 : Int) < (i2 : Int) := by omega
            clear HX hr
            go_wp2_with fail
            go_ret
            rw [HRE.out]
            exact ⟨rfl, HU.out⟩
          · have HRE := Lib.hid (HX.out.2 hlt)
            have hlt' : decide ((j2 : Int) < (i2 : Int)) = false := decide_eq_false (by omega)
            have HB2 := Lib.hid HBD.out
            clear HBD
            have HBD : Hid (a < i2 ∧ i2 < j2 ∧ j2 < b ∧ b ≤ n ∧ a < n ∧ i2 < n ∧ j2 < n ∧ i0 ≤ i2 ∧ j2 ≤ j0) := Lib.hid (by have := HB2.out; omega)
            clear HX HB2
            go_wp2_with fail
            go_upto_region 8 with fail
            go_cut [] (fun wc => UW w g (Go.Sort.swp dk i2 j2) tl wc)
            case first =>
              have hsw := fun W (h : UW w g dk tl W) => (h.swp (i := i2) (j := j2) (by have := HDN.out; have := HBD.out; omega) (by have := HDN.out; have := HBD.out; omega)).drew
              have HSW := Lib.hid (hsw _ HU.out)
              have hf := HU.out.r.frozen
              have x0 := HU.out.r.cell (i := i2) (by have := HDN.out; have := HBD.out; omega)
              have x1 := HU.out.r.cell (i := j2) (by have := HDN.out; have := HBD.out; omega)
              have i0 : ((i2 : Nat) : Int) < (n : Int) := by have := HBD.out; omega
              have i1 : ((j2 : Nat) : Int) < (n : Int) := by have := HBD.out; omega
              have j0 : (0 : Int) ≤ ((i2 : Nat) : Int) := by omega
              have j1 : (0 : Int) ≤ ((j2 : Nat) : Int) := by omega
              clear hsw HU
              by_cases hAB : i2 = j2
              · subst hAB
                generalize (dk)[i2]! = y1 at *
                go_region
                all_goals (go_wp2_with fail; go_meet)
                all_goals exact HSW.out
              · have hBA : ¬ j2 = i2 := fun e => hAB e.symm
                generalize (dk)[i2]! = y0 at *
                generalize (dk)[j2]! = y1 at *
                go_region
                all_goals (go_wp2_with fail; go_meet)
                all_goals exact HSW.out
            case rest =>
              clear HU
              have hdks : (Go.Sort.swp dk i2 j2).size = n := by rw [Go.Sort.swp_size]; exact HDN.out
              have HZ : Hid (EqR w g a b n R tl (.int .i64 ((i2 + 1 : Nat) : Int)) (.int .i64 ((j2 - 1 : Nat) : Int)) wc) := Lib.hid ⟨i2 + 1, j2 - 1, _, rfl, rfl, by have := HBD.out; omega, by have := HBD.out; omega, by have := HBD.out; omega, hdks, HRE.out.symm, hcut⟩
              have e1 : IntKind.i64.wrap ((i2 : Int) + 1) = ((i2 + 1 : Nat) : Int) := by have := HBD.out; rw [IntKind.wrap_i64]; omega
              have e2 : IntKind.i64.wrap ((j2 : Int) - 1) = ((j2 - 1 : Nat) : Int) := by have := HBD.out; rw [IntKind.wrap_i64]; omega
              clear hdks hcut HRE HDN hlt hlt'
              go_wp2_with fail
              go_roundw
              case rel => exact HZ.out
              case measure => have := HBD.out; simp [intOf]; omega
end Go.Proofs.YtlahficmkfgooaaGreat


/- The walks of order2Ordered, medianOrdered, medianAdjacentOrdered, choosePivotOrdered and reverseRangeOrdered at uint64: what is chosen lies in the row; only the count of swaps turns. No condition but that the row is not too long. -/
namespace Go.Proofs.YtlahficmkfgooaaGreat
open Go.RowKit Sou
set_option linter.unusedVariables false
set_option linter.unusedSimpArgs false
namespace Sou
/-- A block of one whole number. -/
def Ct (w : World) (s : Nat) : Prop := ∃ x : Int, Blk w s 3 #[.int .i64 x]
/-- The count of swaps may turn, nothing else. -/
structure CW (w0 : World) (s : Nat) (w : World) : Prop where
  c : Ct w s
  o : Only (· = s) w0 w
theorem CW.drewN {w0 : World} {s : Nat} {w : World} (h : CW w0 s w) (n : Nat) : CW w0 s (w.drewN n) := ⟨h.c, ⟨h.o.os, h.o.tape, h.o.output, h.o.size, h.o.block⟩⟩
theorem CW.then {w0 w w' : World} {s : Nat} (h : CW w0 s w) (k : CW w s w') : CW w0 s w' := ⟨k.c, h.o.trans k.o⟩
theorem CW.ur {w0 w : World} {s g : Nat} {d : Array Int} {tl : List Value} (h : CW w0 s w) (hU : UR w0 g d tl) (hne : g ≠ s) : UR w g d tl := hU.only h.o hne
theorem CW.set {w0 w : World} {s : Nat} {x : Int} (h : CW w0 s w) : CW w0 s (w.setCell ⟨s, 0, none⟩ (.int .i64 x)) := by
  obtain ⟨y, hy⟩ := h.c
  exact ⟨⟨x, by simpa using hy.set 0 (.int .i64 x)⟩, h.o.set1⟩
theorem CW.drew {w0 w : World} {s : Nat} (h : CW w0 s w) : CW w0 s w.drew := ⟨h.c, h.o.drew⟩
def O2Post (w0 : World) (s a b : Nat) (e : Ending) (w' : World) : Prop := (∃ x y : Nat, ((x = a ∧ y = b) ∨ (x = b ∧ y = a)) ∧ e = .returned (.tuple #[.int .i64 x, .int .i64 y])) ∧ CW w0 s w'
def MdPost (w0 : World) (s a b c : Nat) (e : Ending) (w' : World) : Prop := (∃ x : Nat, (x = a ∨ x = b ∨ x = c) ∧ e = .returned (.int .i64 x)) ∧ CW w0 s w'
end Sou
set_option maxRecDepth 100000 in
set_option maxHeartbeats 4000000 in
theorem order2_u {w : World} {g n cap a b s : Nat} {d : Array Int} {tl : List Value} (h : UR w g d tl) (hn : d.size = n) (ha : a < n) (hb : b < n) (hs : Ct w s) :
    Calls Tryz.prog 159 #[.slice (some ⟨g, 0, none⟩) n cap, .int .i64 (a : Int), .int .i64 (b : Int), .pointer (some ⟨s, 0, none⟩)] w (O2Post w s a b) := by
  have HC : Hid (CW w s w) := Lib.hid ⟨hs, Only.refl _ _⟩
  obtain ⟨x, hx⟩ := hs
  have xs : w.cell? ⟨s, 0, none⟩ = some (.int .i64 x) := by rw [hx.cell 0]; rfl
  have fs := hx.frozen
  have x0 := h.cell (i := a) (by omega)
  have x1 := h.cell (i := b) (by omega)
  have b0 : (a : Int) < (n : Int) := by omega
  have b1 : (b : Int) < (n : Int) := by omega
  have c0 : (0 : Int) ≤ (a : Int) := by omega
  have c1 : (0 : Int) ≤ (b : Int) := by omega
  clear h hn ha hb hx
  generalize d[a]! = y0 at *
  generalize d[b]! = y1 at *
  go_enter Tryz.func159, Tryz.ntmps159
  cases hl : decide (y1 < y0) with
  | true =>
    have HLT := Lib.hid hl
    clear hl
    go_upto_region 1 with fail
    go_quiet ((go_at_call 140; exact Calls.quiet_of_same (less_t HLT.out _)))
    have xs : (w.drewN nq).cell? ⟨s, 0, none⟩ = some (.int .i64 x) := xs
    have fs : ∀ o, (w.drewN nq).frozen? ⟨s, o, none⟩ = false := fs
    have HC2 := Lib.hid (fun y => (HC.out.drewN nq).set (x := y))
    clear x0 x1 HC
    generalize w.drewN nq = wx at *
    go_wp2_with fail
    go_ret2
    exact ⟨⟨b, a, .inr ⟨rfl, rfl⟩, rfl⟩, HC2.out _⟩
  | false =>
    have HLT := Lib.hid hl
    clear hl
    go_upto_region 1 with fail
    go_quiet ((go_at_call 140; exact Calls.quiet_of_same (less_t HLT.out _)))
    go_wp2_with fail
    go_ret2
    exact ⟨⟨a, b, .inl ⟨rfl, rfl⟩, rfl⟩, HC.out.drewN _⟩
set_option maxRecDepth 100000 in
set_option maxHeartbeats 4000000 in
theorem median_u {w : World} {g n cap a b c s : Nat} {d : Array Int} {tl : List Value} (h : UR w g d tl) (hn : d.size = n) (ha : a < n) (hb : b < n) (hc : c < n) (hs : Ct w s) (hne : g ≠ s) :
    Calls Tryz.prog 156 #[.slice (some ⟨g, 0, none⟩) n cap, .int .i64 (a : Int), .int .i64 (b : Int), .int .i64 (c : Int), .pointer (some ⟨s, 0, none⟩)] w (MdPost w s a b c) := by
  have H2 : Hid (∀ w1 x y, CW w s w1 → x < n → y < n → Calls Tryz.prog 159 #[.slice (some ⟨g, 0, none⟩) n cap, .int .i64 ((x : Nat) : Int), .int .i64 ((y : Nat) : Int), .pointer (some ⟨s, 0, none⟩)] w1 (O2Post w1 s x y)) :=
    Lib.hid fun w1 x y hw hx hy => order2_u (hw.ur h hne) hn hx hy hw.c
  have HC : Hid (CW w s w) := Lib.hid ⟨hs, Only.refl _ _⟩
  have HB := Lib.hid (And.intro ha (And.intro hb hc))
  clear h hn ha hb hc hs hne
  obtain ⟨A, hA⟩ : ∃ A, A = a := ⟨_, rfl⟩
  go_enter Tryz.func156, Tryz.ntmps156
  go_upto_region 1 with fail
  go_cut [1, 2] (fun u v wc => ∃ x y : Nat, ((x = a ∧ y = b) ∨ (x = b ∧ y = a)) ∧ u = .int .i64 x ∧ v = .int .i64 y ∧ CW w s wc)
  case first =>
    have HCALL := Lib.hid (H2.out w a b HC.out HB.out.1 HB.out.2.1)
    clear H2 HC HB
    go_wp2_with (go_at_call 159; ((with_reducible refine HCALL.out.mono ?_); rintro e w' ⟨⟨x, y, hxy, rfl⟩, hw⟩))
    go_meet
    exact ⟨x, y, hxy, rfl, rfl, hw⟩
  case rest =>
    clear HC
    obtain ⟨x, y, hxy, rfl, rfl, hw⟩ := hcut
    have HW := Lib.hid hw
    have HB2 : Hid (x < n ∧ y < n ∧ c < n) := Lib.hid (by have := HB.out; omega)
    have HXY := Lib.hid hxy
    clear hw hxy HB hA
    go_upto_region 2 with fail
    go_cut [2, 3] (fun u v wc => ∃ y2 z2 : Nat, ((y2 = y ∧ z2 = c) ∨ (y2 = c ∧ z2 = y)) ∧ u = .int .i64 y2 ∧ v = .int .i64 z2 ∧ CW w s wc)
    case first =>
      have HCALL := Lib.hid (H2.out wc y c HW.out HB2.out.2.1 HB2.out.2.2)
      clear H2 HB2
      go_wp2_with (go_at_call 159; ((with_reducible refine HCALL.out.mono ?_); rintro e w' ⟨⟨x, y, hxy, rfl⟩, hw⟩))
      go_meet
      exact ⟨x, y, hxy, rfl, rfl, HW.out.then hw⟩
    case rest =>
      clear HW
      obtain ⟨y2, z2, hyz, rfl, rfl, hw⟩ := hcut
      have HW := Lib.hid hw
      have HB3 : Hid (x < n ∧ y2 < n) := Lib.hid (by have := HB2.out; omega)
      have HYZ := Lib.hid hyz
      clear hw hyz HB2
      go_upto_region 3 with fail
      have HCALL := Lib.hid (H2.out _ x y2 HW.out HB3.out.1 HB3.out.2)
      clear H2 HB3
      go_wp2_with (go_at_call 159; ((with_reducible refine HCALL.out.mono ?_); rintro e w' ⟨⟨x4, y4, hxy, rfl⟩, hw⟩))
      go_ret
      exact ⟨⟨y4, by have := HXY.out; have := HYZ.out; omega, rfl⟩, HW.out.then hw⟩
set_option maxRecDepth 100000 in
set_option maxHeartbeats 4000000 in
theorem medianAdj_u {w : World} {g n cap a s : Nat} {d : Array Int} {tl : List Value} (h : UR w g d tl) (hn : d.size = n) (ha : 1 ≤ a) (ha2 : a + 1 < n) (hs : Ct w s) (hne : g ≠ s) (hn2 : n ≤ 1000000) :
    Calls Tryz.prog 155 #[.slice (some ⟨g, 0, none⟩) n cap, .int .i64 (a : Int), .pointer (some ⟨s, 0, none⟩)] w (MdPost w s (a - 1) a (a + 1)) := by
  have HCALL := Lib.hid (median_u (cap := cap) (a := a - 1) (b := a) (c := a + 1) h hn (by omega) (by omega) (by omega) hs hne)
  have e1 : IntKind.i64.wrap ((a : Int) + 1) = ((a + 1 : Nat) : Int) := by rw [IntKind.wrap_i64]; omega
  have e2 : IntKind.i64.wrap ((a : Int) - 1) = ((a - 1 : Nat) : Int) := by rw [IntKind.wrap_i64]; omega
  clear h hn ha ha2 hs hne
  generalize a + 1 = c at *
  generalize a - 1 = b at *
  go_enter Tryz.func155, Tryz.ntmps155
  go_wp2_with (go_at_call 156; ((with_reducible refine HCALL.out.mono ?_); rintro e w' ⟨⟨x, hx, rfl⟩, hw⟩))
  go_ret
  exact ⟨⟨x, hx, rfl⟩, hw⟩
end Go.Proofs.YtlahficmkfgooaaGreat


/- The walks of choosePivotOrdered and reverseRangeOrdered at uint64: what is chosen lies in the row. No condition but that the row is not too long. -/
namespace Go.Proofs.YtlahficmkfgooaaGreat
open Go.RowKit Sou
set_option linter.unusedVariables false
set_option linter.unusedSimpArgs false
namespace Sou
theorem CW.back {w wc : World} {g : Nat} {d : Array Int} {tl : List Value} {o : Obj} (h : UR w g d tl) (hC : CW (w.alloc o) w.heap.size wc) : UW w g d tl wc := by
  have hg : g < w.heap.size := h.lt
  refine ⟨(h.alloc o).only hC.o (by omega), hC.o.os, hC.o.tape, hC.o.output, by have := hC.o.size; simp at this; omega, fun k hk hs => ?_⟩
  rw [hC.o.block k (by simp; omega) (by omega), Below.heap_alloc _ _ _ hk]
def CpPost (w0 : World) (g a b : Nat) (d : Array Int) (tl : List Value) (e : Ending) (w' : World) : Prop := (∃ (p : Nat) (h : Int), a ≤ p ∧ p < b ∧ e = .returned (.tuple #[.int .i64 p, .int .i64 h])) ∧ UW w0 g d tl w'
def RvR (w0 : World) (g n : Nat) (R : Array Int) (tl : List Value) (u v : Value) (wr : World) : Prop := ∃ (i j : Nat) (d : Array Int), u = .int .i64 i ∧ v = .int .i64 j ∧ i ≤ n ∧ j < n ∧ d.size = n ∧ Go.Sort.reverseLoop i j d = R ∧ UW w0 g d tl wr
theorem rv_go {i j : Nat} {d : Array Int} (h : i < j) : Go.Sort.reverseLoop i j d = Go.Sort.reverseLoop (i + 1) (j - 1) (Go.Sort.swp d i j) := by rw [Go.Sort.reverseLoop, if_pos h]
theorem rv_stop {i j : Nat} {d : Array Int} (h : ¬ i < j) : Go.Sort.reverseLoop i j d = d := by rw [Go.Sort.reverseLoop, if_neg h]
end Sou
set_option maxRecDepth 100000 in
set_option maxHeartbeats 4000000 in
theorem reverse_u {w : World} {g n cap a b : Nat} {d : Array Int} {tl : List Value} (h : UR w g d tl) (hn : d.size = n) (hab : a < b) (hb : b ≤ n) (hs : n ≤ 1000000) :
    Calls Tryz.prog 138 #[.slice (some ⟨g, 0, none⟩) n cap, .int .i64 (a : Int), .int .i64 (b : Int)] w (UPost w g (Go.Sort.reverseRange d a b) tl) := by
  have hz : RvR w g n (Go.Sort.reverseRange d a b) tl (.int .i64 a) (.int .i64 ((b - 1 : Nat) : Int)) w := ⟨a, b - 1, d, rfl, rfl, by omega, by omega, hn, rfl, h, Only.refl _ _⟩
  generalize Go.Sort.reverseRange d a b = R at *
  have HZ := Lib.hid hz
  have e2 : IntKind.i64.wrap ((b : Int) - 1) = ((b - 1 : Nat) : Int) := by rw [IntKind.wrap_i64]; omega
  clear h hn hz hb
  generalize b - 1 = j0 at *
  go_enter Tryz.func138, Tryz.ntmps138
  go_wp2_with fail
  clear e2 hab
  go_loopw [6, 7] (fun u v wr => RvR w g n R tl u v wr) (fun u v _ => (intOf v + 1 - intOf u).toNat)
  case atStart => exact HZ.out
  case round =>
    clear HZ
    obtain ⟨i, j, dk, rfl, rfl, hi, hj, hdn, hR, hU⟩ := hrel
    have HU := Lib.hid hU
    have HDN := Lib.hid hdn
    by_cases hij : i < j
    · have hij' : (i : Int) < (j : Int) := by omega
      have HRE := Lib.hid ((rv_go (d := dk) hij).symm.trans hR)
      have HBD : Hid (i < n ∧ j < n ∧ i < j) := Lib.hid (by omega)
      clear hU hdn hR hi hj hij
      go_wp2_with fail
      go_upto_region 3 with fail
      go_cut [] (fun wc => UW w g (Go.Sort.swp dk i j) tl wc)
      case first =>
        have hsw := fun W (h : UW w g dk tl W) => (h.swp (i := i) (j := j) (by have := HDN.out; have := HBD.out; omega) (by have := HDN.out; have := HBD.out; omega)).drew
        have HSW := Lib.hid (hsw _ HU.out)
        have hf := HU.out.r.frozen
        have x0 := HU.out.r.cell (i := i) (by have := HDN.out; have := HBD.out; omega)
        have x1 := HU.out.r.cell (i := j) (by have := HDN.out; have := HBD.out; omega)
        have i0 : ((i : Nat) : Int) < (n : Int) := by have := HBD.out; omega
        have i1 : ((j : Nat) : Int) < (n : Int) := by have := HBD.out; omega
        have j0 : (0 : Int) ≤ ((i : Nat) : Int) := by omega
        have j1 : (0 : Int) ≤ ((j : Nat) : Int) := by omega
        clear hsw HU
        by_cases hAB : i = j
        · subst hAB
          generalize (dk)[i]! = y1 at *
          go_region
          all_goals (go_wp2_with fail; go_meet)
          all_goals exact HSW.out
        · have hBA : ¬ j = i := fun e => hAB e.symm
          generalize (dk)[i]! = y0 at *
          generalize (dk)[j]! = y1 at *
          go_region
          all_goals (go_wp2_with fail; go_meet)
          all_goals exact HSW.out
      case rest =>
        clear HU
        have hdks : (Go.Sort.swp dk i j).size = n := by rw [Go.Sort.swp_size]; exact HDN.out
        have HZ : Hid (RvR w g n R tl (.int .i64 ((i + 1 : Nat) : Int)) (.int .i64 ((j - 1 : Nat) : Int)) wc) := Lib.hid ⟨i + 1, j - 1, _, rfl, rfl, by have := HBD.out; omega, by have := HBD.out; omega, hdks, HRE.out, hcut⟩
        have e1 : IntKind.i64.wrap ((i : Int) + 1) = ((i + 1 : Nat) : Int) := by have := HBD.out; rw [IntKind.wrap_i64]; omega
        have e2 : IntKind.i64.wrap ((j : Int) - 1) = ((j - 1 : Nat) : Int) := by have := HBD.out; rw [IntKind.wrap_i64]; omega
        clear hdks hcut HRE HDN hij'
        go_wp2_with fail
        go_roundw
        case rel => exact HZ.out
        case measure => have := HBD.out; simp [intOf]; omega
    · have hij' : ¬ (i : Int) < (j : Int) := by omega
      have hR2 : dk = R := (rv_stop (d := dk) hij).symm.trans hR
      have HR2 := Lib.hid hR2
      clear hU hdn hR hi hj hij hR2
      go_wp2_with fail
      go_end0
      exact ⟨rfl, by rw [← HR2.out]; exact HU.out⟩
end Go.Proofs.YtlahficmkfgooaaGreat


/- The walk of choosePivotOrdered at uint64: what is chosen lies in the row. No condition but that the row is not too long. -/
namespace Go.Proofs.YtlahficmkfgooaaGreat
open Go.RowKit Sou
set_option linter.unusedVariables false
set_option linter.unusedSimpArgs false
set_option maxRecDepth 100000 in
set_option maxHeartbeats 4000000 in
theorem choose_u {w : World} {g n cap a b : Nat} {d : Array Int} {tl : List Value} (h : UR w g d tl) (hn : d.size = n) (hab : 12 < b - a) (hb : b ≤ n) (hs : n ≤ 1000000) :
    Calls Tryz.prog 137 #[.slice (some ⟨g, 0, none⟩) n cap, .int .i64 (a : Int), .int .i64 (b : Int)] w (CpPost w g a b d tl) := by
  obtain ⟨l, hl⟩ : ∃ l, l = b - a := ⟨_, rfl⟩
  obtain ⟨q, hq⟩ : ∃ q, q = l / 4 := ⟨_, rfl⟩
  have K : q ≤ 1000000000 ∧ 2 * q ≤ 1000000000 ∧ 3 * q ≤ 1000000000 ∧ a + q ≤ 1000000000 ∧ a + 2 * q ≤ 1000000000 ∧ a + 3 * q ≤ 1000000000 := by omega
  obtain ⟨w1, hw1⟩ : ∃ w1, w1 = w.alloc (.cells #[.int .i64 0] 3) := ⟨_, rfl⟩
  have hg : g < w.heap.size := h.lt
  obtain ⟨s, hsz⟩ : ∃ s, s = w.heap.size := ⟨_, rfl⟩
  have hC : CW w1 s w1 := ⟨⟨0, by rw [hw1, hsz]; exact Blk.new w _ _⟩, Only.refl _ _⟩
  have HBK : Hid (∀ wc, CW w1 s wc → UW w g d tl wc) := Lib.hid (by rw [hw1, hsz]; exact fun wc hc => CW.back h hc)
  have HUR : Hid (∀ wc, CW w1 s wc → UR wc g d tl) := Lib.hid fun wc hc => (HBK.out wc hc).r
  have HADJ : Hid (∀ wc x, CW w1 s wc → 1 ≤ x → x + 1 < n → Calls Tryz.prog 155 #[.slice (some ⟨g, 0, none⟩) n cap, .int .i64 ((x : Nat) : Int), .pointer (some ⟨s, 0, none⟩)] wc (MdPost wc s (x - 1) x (x + 1))) :=
    Lib.hid fun wc x hc h1 h2 => medianAdj_u (HUR.out wc hc) hn h1 h2 hc.c (by omega) hs
  have HMED : Hid (∀ wc x y z, CW w1 s wc → x < n → y < n → z < n → Calls Tryz.prog 156 #[.slice (some ⟨g, 0, none⟩) n cap, .int .i64 ((x : Nat) : Int), .int .i64 ((y : Nat) : Int), .int .i64 ((z : Nat) : Int), .pointer (some ⟨s, 0, none⟩)] wc (MdPost wc s x y z)) :=
    Lib.hid fun wc x y z hc h1 h2 h3 => median_u (HUR.out wc hc) hn h1 h2 h3 hc.c (by omega)
  have HC := Lib.hid hC
  have HW1 := Lib.hid hw1
  have HSZ := Lib.hid hsz
  have HBD : Hid (4 * q ≤ l ∧ l < 4 * q + 4 ∧ 12 < l ∧ l = b - a ∧ b ≤ n ∧ n ≤ 1000000) := Lib.hid (by omega)
  have e1 : IntKind.i64.wrap ((b : Int) - (a : Int)) = (l : Int) := by rw [IntKind.wrap_i64]; omega
  have e2 : (l : Int).tdiv 4 = (q : Int) := by rw [Int.tdiv_eq_ediv_of_nonneg (by omega)]; omega
  have e0 : wrap64 (q : Int) = ((q : Nat) : Int) := Sou.w64n rfl K.1
  have e4 : wrap64 ((q : Int) * 2) = ((2 * q : Nat) : Int) := Sou.w64n (by rw [Int.mul_comm]; rfl) K.2.1
  have e5 : wrap64 ((q : Int) * 3) = ((3 * q : Nat) : Int) := Sou.w64n (by rw [Int.mul_comm]; rfl) K.2.2.1
  have e6 : wrap64 ((a : Int) + ((q : Nat) : Int)) = ((a + q : Nat) : Int) := Sou.w64n rfl K.2.2.2.1
  have e7 : wrap64 ((a : Int) + ((2 * q : Nat) : Int)) = ((a + 2 * q : Nat) : Int) := Sou.w64n rfl K.2.2.2.2.1
  have e8 : wrap64 ((a : Int) + ((3 * q : Nat) : Int)) = ((a + 3 * q : Nat) : Int) := Sou.w64n rfl K.2.2.2.2.2
  have hl8 : (8 : Int) ≤ (l : Int) := by omega
  clear h hn hab hb hs hl hq hg hC K
  have HIJK := Lib.hid (And.intro (Eq.refl (a + q)) (And.intro (Eq.refl (a + 2 * q)) (Eq.refl (a + 3 * q))))
  obtain ⟨i, hi⟩ : ∃ i, i = a + q := ⟨_, rfl⟩
  obtain ⟨j, hj⟩ : ∃ j, j = a + 2 * q := ⟨_, rfl⟩
  obtain ⟨k, hk⟩ : ∃ k, k = a + 3 * q := ⟨_, rfl⟩
  have hbq := HBD.out
  have HI : Hid (a ≤ i ∧ i < b ∧ a ≤ j ∧ j < b ∧ a ≤ k ∧ k < b ∧ (50 ≤ l → a + 1 ≤ i ∧ i + 1 < b ∧ a + 1 ≤ j ∧ j + 1 < b ∧ a + 1 ≤ k ∧ k + 1 < b) ∧ b ≤ n) :=
    Lib.hid (by clear e0 e1 e2 e4 e5 e6 e7 e8 hl8 HBD; obtain ⟨h1, h2, h3, h4, h5, h6⟩ := hbq; exact ⟨by omega, by omega, by omega, by omega, by omega, by omega, fun _ => ⟨by omega, by omega, by omega, by omega, by omega, by omega⟩, by omega⟩)
  clear hbq
  rw [← hi] at e6
  rw [← hj] at e7
  rw [← hk] at e8
  clear hi hj hk HIJK HBD
  generalize 2 * q = q2 at *
  generalize 3 * q = q3 at *
  go_enter Tryz.func137, Tryz.ntmps137
  go_upto_if 32 with fail
  rw [← HW1.out, ← HSZ.out]
  simp only [e0, e4, e5, e6, e7, e8]
  clear e0 e1 e2 e4 e5 e6 e7 e8 HW1 HSZ hw1 hsz
  go_cut [11] (fun u wc => ∃ p : Nat, u = .int .i64 p ∧ a ≤ p ∧ p < b ∧ CW w1 s wc)
  case first =>
    clear HBK HUR
    by_cases h50 : 50 ≤ l
    · have h50' : (50 : Int) ≤ (l : Int) := by omega
      have HI2 := Lib.hid (HI.out.2.2.2.2.2.2.1 h50)
      have HN := Lib.hid HI.out.2.2.2.2.2.2.2
      clear HI
      go_upto_region 8 with fail
      go_cut [10] (fun u wc => ∃ p : Nat, u = .int .i64 p ∧ a ≤ p ∧ p < b ∧ CW w1 s wc)
      case first =>
        have HCALL := Lib.hid (HADJ.out w1 i HC.out (by have := HI2.out; omega) (by have := HI2.out; have := HN.out; omega))
        clear HADJ HMED
        go_wp2_with (go_at_call 155; ((with_reducible refine HCALL.out.mono ?_); rintro e w' ⟨⟨x, hx, rfl⟩, hw⟩))
        go_meet
        exact ⟨x, rfl, by have := HI2.out; omega, by have := HI2.out; omega, hw⟩
      case rest =>
        obtain ⟨i2, rfl, hi1, hi2, hw⟩ := hcut
        have HC := Lib.hid hw
        have HI3 := Lib.hid (And.intro hi1 hi2)
        clear hw hi1 hi2
        go_upto_region 9 with fail
        go_cut [11] (fun u wc => ∃ p : Nat, u = .int .i64 p ∧ a ≤ p ∧ p < b ∧ CW w1 s wc)
        case first =>
          have HCALL := Lib.hid (HADJ.out _ j HC.out (by have := HI2.out; omega) (by have := HI2.out; have := HN.out; omega))
          clear HADJ HMED
          go_wp2_with (go_at_call 155; ((with_reducible refine HCALL.out.mono ?_); rintro e w' ⟨⟨x, hx, rfl⟩, hw⟩))
          go_meet
          exact ⟨x, rfl, by have := HI2.out; omega, by have := HI2.out; omega, HC.out.then hw⟩
        case rest =>
          clear HC
          obtain ⟨j2, rfl, hj1, hj2, hw⟩ := hcut
          have HC := Lib.hid hw
          have HJ3 := Lib.hid (And.intro hj1 hj2)
          clear hw hj1 hj2
          go_upto_region 10 with fail
          go_cut [12] (fun u wc => ∃ p : Nat, u = .int .i64 p ∧ a ≤ p ∧ p < b ∧ CW w1 s wc)
          case first =>
            have HCALL := Lib.hid (HADJ.out _ k HC.out (by have := HI2.out; omega) (by have := HI2.out; have := HN.out; omega))
            clear HADJ HMED
            go_wp2_with (go_at_call 155; ((with_reducible refine HCALL.out.mono ?_); rintro e w' ⟨⟨x, hx, rfl⟩, hw⟩))
            go_meet
            exact ⟨x, rfl, by have := HI2.out; omega, by have := HI2.out; omega, HC.out.then hw⟩
          case rest =>
            clear HC
            obtain ⟨k2, rfl, hk1, hk2, hw⟩ := hcut
            have HC := Lib.hid hw
            have HCALL := Lib.hid (HMED.out _ i2 j2 k2 HC.out (by have := HI3.out; have := HN.out; omega) (by have := HJ3.out; have := HN.out; omega) (by have := HN.out; omega))
            clear HADJ HMED hw
            have HK3 := Lib.hid (And.intro hk1 hk2)
            clear hk1 hk2
            go_wp2_with (go_at_call 156; ((with_reducible refine HCALL.out.mono ?_); rintro e w' ⟨⟨x, hx, rfl⟩, hw⟩))
            go_meet
            exact ⟨x, rfl, by have := HI3.out; have := HJ3.out; have := HK3.out; omega, by have := HI3.out; have := HJ3.out; have := HK3.out; omega, HC.out.then hw⟩
    · have h50' : decide ((50 : Int) ≤ (l : Int)) = false := decide_eq_false (by omega)
      have HCALL := Lib.hid (HMED.out w1 i j k HC.out (by have := HI.out; omega) (by have := HI.out; omega) (by have := HI.out; omega))
      clear HADJ HMED
      go_wp2_with (go_at_call 156; ((with_reducible refine HCALL.out.mono ?_); rintro e w' ⟨⟨x, hx, rfl⟩, hw⟩))
      go_meet
      exact ⟨x, rfl, by have := HI.out; omega, by have := HI.out; omega, hw⟩
  case rest =>
    obtain ⟨p, rfl, hp1, hp2, hw⟩ := hcut
    have HU := Lib.hid (HBK.out _ hw)
    obtain ⟨⟨x, hx⟩, _⟩ := hw
    have xs : wc.cell? ⟨s, 0, none⟩ = some (.int .i64 x) := by rw [hx.cell 0]; rfl
    have HP := Lib.hid (And.intro hp1 hp2)
    clear hx hp1 hp2 HBK HUR HADJ HMED HC HI hl8
    by_cases hx0 : x = 0
    · subst hx0
      go_wp2_with fail
      go_ret2
      exact ⟨⟨p, _, HP.out.1, HP.out.2, rfl⟩, HU.out⟩
    · have hx0' : (x == 0) = false := by simpa using hx0
      by_cases hx12 : x = 12
      · subst hx12
        go_wp2_with fail
        go_ret2
        exact ⟨⟨p, _, HP.out.1, HP.out.2, rfl⟩, HU.out⟩
      · have hx12' : (x == 12) = false := by simpa using hx12
        clear hx0 hx12
        go_wp2_with fail
        go_ret2
        exact ⟨⟨p, _, HP.out.1, HP.out.2, rfl⟩, HU.out⟩
end Go.Proofs.YtlahficmkfgooaaGreat


/- The library contracts of bits.Len, nextPowerOfTwo and xorshift.Next, laid at this program: each body is the kernel comparison. No condition. -/
namespace Go.Proofs.YtlahficmkfgooaaGreat
open Go.RowKit Go.Shelf
set_option linter.unusedVariables false
namespace Sol
/-- The library's numbers at this program. -/
def ren : Ren := ⟨fun n => if n = 125 then 121 else if n = 128 then 143 else if n = 129 then 144 else if n = 329 then 153 else if n = 330 then 154 else 0,
  fun n => if n = 0 then 0 else if n = 3 then 3 else if n = 4 then 4 else if n = 5 then 5 else if n = 9 then 9 else if n = 46 then 152 else if n = 51 then 219 else if n = 53 then 37 else if n = 218 then 225 else if n = 228 then 230 else 0, fun n => n⟩
set_option maxRecDepth 100000 in
theorem lays125 : Lays.n125 Tryz.prog ren where
  mixed := by kernel_rfl
  f125 := by kernel_rfl
  f128 := by kernel_rfl
  f129 := by kernel_rfl
  t3 := by kernel_rfl
  a3 := fun w => by kernel_rfl
  z3 := fun w => by kernel_rfl
  v3 := fun w => by kernel_rfl
  t4 := by kernel_rfl
  a4 := fun w => by kernel_rfl
  z4 := fun w => by kernel_rfl
  v4 := fun w => by kernel_rfl
  t5 := by kernel_rfl
  a5 := fun w => by kernel_rfl
  z5 := fun w => by kernel_rfl
  v5 := fun w => by kernel_rfl
  t9 := by kernel_rfl
  a9 := fun w => by kernel_rfl
  z9 := fun w => by kernel_rfl
  v9 := fun w => by kernel_rfl
  t46 := by kernel_rfl
  a46 := fun w => by kernel_rfl
  z46 := fun w => by kernel_rfl
  v46 := fun w => by kernel_rfl
  t51 := by kernel_rfl
  a51 := fun w => by kernel_rfl
  z51 := fun w => by kernel_rfl
  v51 := fun w => by kernel_rfl
  t53 := by kernel_rfl
  a53 := fun w => by kernel_rfl
  z53 := fun w => by kernel_rfl
  v53 := fun w => by kernel_rfl
set_option maxRecDepth 100000 in
theorem lays329 : Lays.n329 Tryz.prog ren where
  mixed := by kernel_rfl
  f125 := by kernel_rfl
  f128 := by kernel_rfl
  f129 := by kernel_rfl
  f329 := by kernel_rfl
  t3 := by kernel_rfl
  a3 := fun w => by kernel_rfl
  z3 := fun w => by kernel_rfl
  v3 := fun w => by kernel_rfl
  t4 := by kernel_rfl
  a4 := fun w => by kernel_rfl
  z4 := fun w => by kernel_rfl
  v4 := fun w => by kernel_rfl
  t5 := by kernel_rfl
  a5 := fun w => by kernel_rfl
  z5 := fun w => by kernel_rfl
  v5 := fun w => by kernel_rfl
  t9 := by kernel_rfl
  a9 := fun w => by kernel_rfl
  z9 := fun w => by kernel_rfl
  v9 := fun w => by kernel_rfl
  t46 := by kernel_rfl
  a46 := fun w => by kernel_rfl
  z46 := fun w => by kernel_rfl
  v46 := fun w => by kernel_rfl
  t51 := by kernel_rfl
  a51 := fun w => by kernel_rfl
  z51 := fun w => by kernel_rfl
  v51 := fun w => by kernel_rfl
  t53 := by kernel_rfl
  a53 := fun w => by kernel_rfl
  z53 := fun w => by kernel_rfl
  v53 := fun w => by kernel_rfl
set_option maxRecDepth 100000 in
theorem lays330 : Lays.n330 Tryz.prog ren where
  mixed := by kernel_rfl
  f330 := by kernel_rfl
  t0 := by kernel_rfl
  a0 := fun w => by kernel_rfl
  z0 := fun w => by kernel_rfl
  v0 := fun w => by kernel_rfl
  t46 := by kernel_rfl
  a46 := fun w => by kernel_rfl
  z46 := fun w => by kernel_rfl
  v46 := fun w => by kernel_rfl
  t53 := by kernel_rfl
  a53 := fun w => by kernel_rfl
  z53 := fun w => by kernel_rfl
  v53 := fun w => by kernel_rfl
  t218 := by kernel_rfl
  a218 := fun w => by kernel_rfl
  z218 := fun w => by kernel_rfl
  v218 := fun w => by kernel_rfl
  t228 := by kernel_rfl
  a228 := fun w => by kernel_rfl
  z228 := fun w => by kernel_rfl
  v228 := fun w => by kernel_rfl
end Sol
open Go.Sort
theorem xorshift_u {w : World} {s X : Nat} (hX : X < 18446744073709551616) (hc : w.cell? ⟨s, 0, none⟩ = some (.int .u64 X)) (hf : w.frozen? ⟨s, 0, none⟩ = false) :
    Calls Tryz.prog 154 #[.pointer (some ⟨s, 0, none⟩)] w fun e w' => e = .returned (.int .u64 (xorNextN X : Nat)) ∧ w' = (w.setCell ⟨s, 0, none⟩ (.int .u64 (xorNextN X : Nat))).drewN 3 :=
  calls_of_every_depth fun D => AnyS.xorshift_NextIn Sol.lays330 D s 0 X hX w hc hf
theorem nextPow_u {w : World} {n : Nat} (hn : n < 4611686018427387904) :
    Calls Tryz.prog 153 #[.int .i64 (n : Int)] w fun e w' => e = .returned (.int .u64 ((1 <<< bitsLen n : Nat) : Int)) ∧ w' = w :=
  calls_of_every_depth fun D => AnyS.nextPowerOfTwoIn Sol.lays329 D n hn w
theorem bitsLen_u {w : World} {n : Nat} (hn : n < 4611686018427387904) :
    Calls Tryz.prog 121 #[.int .u64 (n : Int)] w fun e w' => e = .returned (.int .i64 (bitsLen n : Nat)) ∧ w' = w := by
  have h := calls_of_every_depth fun D => AnyS.bits_LenIn Sol.lays125 D (n : Int) w (by omega) (by omega)
  rwa [Int.toNat_natCast, bitLen_eq _ (by omega)] at h
end Go.Proofs.YtlahficmkfgooaaGreat


/- The walk of breakPatternsOrdered at uint64: what comes of it is a permutation. No condition but that the row is not too long. -/
namespace Go.Proofs.YtlahficmkfgooaaGreat
open Go.RowKit Sou
set_option linter.unusedVariables false
set_option linter.unusedSimpArgs false
namespace Sou
theorem UW.new {w : World} {g : Nat} {d : Array Int} {tl : List Value} (h : UR w g d tl) (o : Obj) : UW w g d tl (w.alloc o) := ⟨h.alloc o, (Only.refl _ _).alloc o⟩
def BpP (w0 : World) (g a b : Nat) (d : Array Int) (tl : List Value) (e : Ending) (w' : World) : Prop := e = .returned (.tuple #[]) ∧ ∃ d' : Array Int, Go.Sort.PermIn a b d d' ∧ UW w0 g d' tl w'
def BpR (w0 : World) (g a b n s i0 : Nat) (d : Array Int) (tl : List Value) (u : Value) (wr : World) : Prop := ∃ (t X : Nat) (d' : Array Int), t ≤ 3 ∧ u = .int .i64 ((i0 + t : Nat) : Int) ∧ X < 18446744073709551616 ∧ d'.size = n ∧ Go.Sort.PermIn a b d d' ∧ UW w0 g d' tl wr ∧ Blk wr s 225 #[.int .u64 X]
end Sou
set_option maxRecDepth 100000 in
set_option maxHeartbeats 4000000 in
theorem break_u {w : World} {g n cap a b : Nat} {d : Array Int} {tl : List Value} (h : UR w g d tl) (hn : d.size = n) (hab : 12 < b - a) (hb : b ≤ n) (hs : n ≤ 1000000) :
    Calls Tryz.prog 136 #[.slice (some ⟨g, 0, none⟩) n cap, .int .i64 (a : Int), .int .i64 (b : Int)] w (BpP w g a b d tl) := by
  obtain ⟨l, hl⟩ : ∃ l, l = b - a := ⟨_, rfl⟩
  obtain ⟨q, hq⟩ : ∃ q, q = l / 4 := ⟨_, rfl⟩
  have hg : g < w.heap.size := h.lt
  have K : q ≤ 1000000000 ∧ 2 * q ≤ 1000000000 ∧ a + 2 * q ≤ 1000000000 ∧ a + 2 * q - 1 ≤ 1000000000 ∧ 1 ≤ a + 2 * q ∧ a + 2 * q + 1 ≤ 1000000000 := ⟨by omega, by omega, by omega, by omega, by omega, by omega⟩
  have HQ : 4 * q ≤ l ∧ l < 4 * q + 4 ∧ 12 < l ∧ l = b - a ∧ b ≤ n ∧ n ≤ 1000000 ∧ l ≤ 1000000 := by omega
  clear hq hl
  obtain ⟨M, hM⟩ : ∃ M : Nat, M = 1 <<< Go.Sort.bitsLen l := ⟨_, rfl⟩
  have hM1 : 1 ≤ M := by rw [hM, Nat.one_shiftLeft]; exact Nat.two_pow_pos _
  have hM2 : M ≤ 2 * l := by rw [hM, Nat.one_shiftLeft]; exact Go.Sort.two_pow_bitsLen_le (by omega)
  have HNP : Hid (∀ W : World, Calls Tryz.prog 153 #[.int .i64 (l : Int)] W fun e w' => e = .returned (.int .u64 (M : Int)) ∧ w' = W) := Lib.hid (fun W => by rw [hM]; exact nextPow_u (by omega))
  clear hM
  have e1 : IntKind.i64.wrap ((b : Int) - (a : Int)) = (l : Int) := by rw [IntKind.wrap_i64]; omega
  have E1 := Lib.hid e1
  clear e1
  have e10 : IntKind.u64.wrap ((M : Int) - 1) = ((M - 1 : Nat) : Int) := by rw [IntKind.wrap_u64]; omega
  have E10 := Lib.hid e10
  clear e10
  have e11 : IntKind.u64.wrap (l : Int) = (l : Int) := by rw [IntKind.wrap_u64]; omega
  have E11 := Lib.hid e11
  clear e11
  have e2 : (l : Int).tdiv 4 = (q : Int) := by rw [Int.tdiv_eq_ediv_of_nonneg (by omega)]; clear hM1 hM2; omega
  have E2 := Lib.hid e2
  clear e2
  have k8 : ((a + 2 * q : Nat) : Int) - 1 = ((a + 2 * q - 1 : Nat) : Int) := by omega
  have hl8 : (8 : Int) ≤ (l : Int) := by omega
  obtain ⟨i0, hi0⟩ : ∃ i0, i0 = a + 2 * q - 1 := ⟨_, rfl⟩
  obtain ⟨m, hm⟩ : ∃ m, m = a + 2 * q := ⟨_, rfl⟩
  obtain ⟨m1, hm1⟩ : ∃ m1, m1 = m + 1 := ⟨_, rfl⟩
  have HB : Hid (a ≤ i0 ∧ m1 = i0 + 2 ∧ i0 + 2 < b ∧ b ≤ n ∧ l = b - a ∧ n ≤ 1000000 ∧ M ≤ 2 * l ∧ 1 ≤ M ∧ 12 < l) := Lib.hid (by clear hl8 K k8; exact ⟨by omega, by omega, by omega, by omega, by omega, by omega, by omega, by omega, by omega⟩)
  have hl3 : 0 ≤ 3 ∧ l < 18446744073709551616 := by omega
  have hgs : ¬ g = w.heap.size := by omega
  have hz : BpR w g a b n w.heap.size i0 d tl (.int .i64 (i0 : Int)) (w.alloc (.cells #[.int .u64 (l : Int)] 225)) := ⟨0, l, d, hl3.1, rfl, hl3.2, hn, Go.Sort.permIn_refl _ _ _, UW.new h _, Blk.new w _ _⟩
  obtain ⟨s, hss⟩ : ∃ s, s = w.heap.size := ⟨_, rfl⟩
  rw [← hss] at hz
  have HZ := Lib.hid hz
  have HSS := Lib.hid hss
  have HGS : Hid (g ≠ s) := Lib.hid (by rw [hss]; exact hgs)
  have e0 : wrap64 (q : Int) = ((q : Nat) : Int) := Sou.w64n rfl K.1
  have e4 : wrap64 ((q : Int) * 2) = ((2 * q : Nat) : Int) := Sou.w64n (by rw [Int.mul_comm]; rfl) K.2.1
  have e7 : wrap64 ((a : Int) + ((2 * q : Nat) : Int)) = ((a + 2 * q : Nat) : Int) := Sou.w64n rfl K.2.2.1
  have e8 : wrap64 (((a + 2 * q : Nat) : Int) - 1) = ((a + 2 * q - 1 : Nat) : Int) := Sou.w64n k8 K.2.2.2.1
  have e9 : wrap64 (((a + 2 * q : Nat) : Int) + 1) = ((a + 2 * q + 1 : Nat) : Int) := Sou.w64n rfl K.2.2.2.2.2
  rw [← hi0] at e8
  rw [← hm] at e7 e8 e9
  rw [← hm1] at e9
  clear h hn hab hb hs hg hM1 hM2 K HQ hi0 hm hm1 hz hss hl3 hgs k8
  generalize 2 * q = q2 at *
  have e1 := E1.out
  have e2 := E2.out
  have e10 := E10.out
  have e11 := E11.out
  clear E1 E2 E10 E11
  go_enter Tryz.func136, Tryz.ntmps136
  go_wp2_with (go_at_call 153; ((with_reducible refine (HNP.out _).mono ?_); rintro e w' ⟨rfl, rfl⟩))
  simp only [e0, e4, e7, e8]
  rw [← HSS.out]
  go_loopw [9] (fun u wr => BpR w g a b n s i0 d tl u wr) (fun u _ => ((i0 : Int) + 3 - intOf u).toNat)
  case atStart => exact HZ.out
  case round =>
    have EE := Lib.hid (And.intro e0 (And.intro e2 (And.intro e4 (And.intro e7 (And.intro e9 e10)))))
    clear HZ HNP e0 e1 e2 e4 e7 e8 e9 e10 e11 hl8
    obtain ⟨t, X, dk, ht, rfl, hX, hdn, hp, hU, hx⟩ := hrel
    have HU : Hid (UW wr g dk tl wr) := Lib.hid ⟨hU.r, Only.refl _ _⟩
    have HU0 := Lib.hid hU
    have HDN := Lib.hid hdn
    have HP := Lib.hid hp
    clear hU hdn hp
    rcases Nat.lt_or_ge t 3 with ht3 | ht3
    · obtain ⟨idx, hidx⟩ : ∃ idx, idx = i0 + t := ⟨_, rfl⟩
      rw [← hidx]
      obtain ⟨X', hX'⟩ : ∃ X', X' = Go.Sort.xorNextN X := ⟨_, rfl⟩
      have lX' : X' < 18446744073709551616 := by rw [hX']; exact Go.Sort.xorNextN_lt X hX
      obtain ⟨o, ho⟩ : ∃ o, o = X' &&& (M - 1) := ⟨_, rfl⟩
      have lo : o ≤ M - 1 := by rw [ho]; exact Nat.and_le_right
      have e12 : bits .and .u64 (X' : Int) ((M - 1 : Nat) : Int) = (o : Int) := by rw [bits_and_u64_nat _ _ lX' (by have := HB.out; omega), ho]
      have e13 : IntKind.i64.wrap (o : Int) = (o : Int) := by have := HB.out; rw [IntKind.wrap_i64]; omega
      have hle : (idx : Int) ≤ (m1 : Int) := by have := HB.out; omega
      have hcall : Calls Tryz.prog 154 #[.pointer (some ⟨s, 0, none⟩)] wr fun e w' => e = .returned (.int .u64 X') ∧ w' = (wr.setCell ⟨s, 0, none⟩ (.int .u64 X')).drewN 3 := by
        rw [hX']; exact xorshift_u hX (by rw [hx.cell 0]; rfl) (hx.frozen 0)
      have HCALL := Lib.hid hcall
      have hx1 : Blk (wr.setCell ⟨s, 0, none⟩ (.int .u64 X')) s 225 #[.int .u64 X'] := by simpa using hx.set 0 (.int .u64 X')
      have hx2 : Blk ((wr.setCell ⟨s, 0, none⟩ (.int .u64 X')).drewN 3) s 225 #[.int .u64 X'] := hx1
      clear hx1
      have hu2 : UW w g dk tl ((wr.setCell ⟨s, 0, none⟩ (.int .u64 X')).drewN 3) := by
        refine ⟨(show Blk wr g _ _ from HU.out.r).set_ne _ HGS.out, ?_⟩
        have := HU0.out.o.setCell (p := ⟨s, 0, none⟩) (Or.inr (by rw [HSS.out]; exact Nat.le_refl _)) (.int .u64 (X' : Int))
        exact ⟨this.os, this.tape, this.output, this.size, this.block⟩
      have HX2 := Lib.hid hx2
      have HU2 := Lib.hid hu2
      have HIDX := Lib.hid hidx
      have HO : Hid (o < M ∧ X' < 18446744073709551616 ∧ t < 3) := Lib.hid ⟨by have := HB.out; omega, lX', ht3⟩
      have HW : Hid (∃ W, W = (wr.setCell ⟨s, 0, none⟩ (.int .u64 (X' : Int))).drewN 3) := Lib.hid ⟨_, rfl⟩
      clear hcall hx hx2 hu2 HU HU0 hX hX' ho lo lX' hidx ht ht3
      obtain ⟨W, hW⟩ := HW.out
      rw [← hW] at HX2 HU2 HCALL
      clear hW HW
      obtain ⟨e0, e2, e4, e7, e9, e10⟩ := EE.out
      clear EE
      generalize M - 1 = M1 at *
      go_upto_region 8 with (go_at_call 154; ((with_reducible refine HCALL.out.mono ?_); rintro e w' ⟨rfl, rfl⟩))
      go_upto_if 43 with fail
      have EE := Lib.hid (And.intro e0 (And.intro e2 (And.intro e4 (And.intro e7 e9))))
      clear e0 e2 e4 e7 e9 e10 e12 e13 hle
      go_cut [10] (fun u wc => ∃ o2 : Nat, u = .int .i64 o2 ∧ o2 < l ∧ wc = w')
      case first =>
        have HB2 := Lib.hid (And.intro HB.out HO.out)
        clear HX2 HU2 HO HB HCALL
        by_cases hol : l ≤ o
        · have hol' : (l : Int) ≤ (o : Int) := by omega
          have e14 : IntKind.i64.wrap ((o : Int) - (l : Int)) = ((o - l : Nat) : Int) := by have := HB2.out; rw [IntKind.wrap_i64]; omega
          go_wp2_with fail
          go_meet
          exact ⟨o - l, rfl, by have := HB2.out; omega, rfl⟩
        · have hol' : decide ((l : Int) ≤ (o : Int)) = false := decide_eq_false (by omega)
          go_wp2_with fail
          go_meet
          exact ⟨o, rfl, by omega, rfl⟩
      case rest =>
        obtain ⟨o2, rfl, ho2, rfl⟩ := hcut
        obtain ⟨B, hBB⟩ : ∃ B, B = a + o2 := ⟨_, rfl⟩
        have ea : IntKind.i64.wrap ((a : Int) + (o2 : Int)) = (B : Int) := by have := HB.out; rw [IntKind.wrap_i64]; omega
        have eb : wrap64 ((idx : Int) + 1) = ((idx + 1 : Nat) : Int) := Sou.w64n rfl (by have := HB.out; have := HO.out; have := HIDX.out; omega)
        have HEB := Lib.hid eb
        clear eb
        have HBD : Hid (idx < n ∧ B < n ∧ a ≤ idx ∧ idx < b ∧ a ≤ B ∧ B < b ∧ b ≤ n) := Lib.hid (by have := HB.out; have := HO.out; have := HIDX.out; omega)
        have HU : Hid (UW wc g dk tl wc) := Lib.hid ⟨HU2.out.r, Only.refl _ _⟩
        obtain ⟨wz, hwz⟩ : ∃ wz, wz = wc := ⟨_, rfl⟩
        have HU3 : Hid (UW wz g dk tl wc) := Lib.hid (by rw [hwz]; exact HU.out)
        clear HU
        have HU := Lib.hid HU3.out
        have HX3 : Hid (Blk wz s 225 #[.int .u64 X']) := Lib.hid (by rw [hwz]; exact HX2.out)
        have HU4 : Hid (UW w g dk tl wz) := Lib.hid (by rw [hwz]; exact HU2.out)
        clear HU2 HX2 HU3 HCALL hwz hBB ho2
        have HZ : Hid (∀ wc, UW wz g (Go.Sort.swp dk idx B) tl wc → BpR w g a b n s i0 d tl (.int .i64 ((idx + 1 : Nat) : Int)) wc) := Lib.hid fun wc hcut =>
          ⟨t + 1, X', _, by have := HO.out; omega, by rw [HIDX.out, Nat.add_assoc], HO.out.2.1, by rw [Go.Sort.swp_size]; exact HDN.out, Go.Sort.permIn_trans _ _ _ a b HP.out (Go.Sort.swp_permIn _ a b idx B HBD.out.2.2.1 HBD.out.2.2.2.1 HBD.out.2.2.2.2.1 HBD.out.2.2.2.2.2.1 (by rw [HDN.out]; exact HBD.out.2.2.2.2.2.2)), HU4.out.then hcut, HX3.out.only hcut.o (fun e => HGS.out e.symm)⟩
        have HME := Lib.hid (And.intro HO.out HIDX.out)
        have HMS : Hid ((((i0 : Nat) : Int) + 3 - intOf (.int .i64 ((idx + 1 : Nat) : Int))).toNat < (((i0 : Nat) : Int) + 3 - intOf (.int .i64 ((idx : Nat) : Int))).toNat) := Lib.hid (by have := HME.out; clear ea; simp [intOf]; omega)
        have HSW := Lib.hid (HZ.out _ (HU.out.swp (i := idx) (j := B) (by have := HDN.out; have := HBD.out; omega) (by have := HDN.out; have := HBD.out; omega)).drew)
        have hf := HU.out.r.frozen
        have x0 := HU.out.r.cell (i := idx) (by have := HDN.out; have := HBD.out; omega)
        have x1 := HU.out.r.cell (i := B) (by have := HDN.out; have := HBD.out; omega)
        have k0 : ((idx : Nat) : Int) < (n : Int) := by have := HBD.out; omega
        have k1 : ((B : Nat) : Int) < (n : Int) := by have := HBD.out; omega
        have j0 : (0 : Int) ≤ ((idx : Nat) : Int) := by omega
        have j1 : (0 : Int) ≤ ((B : Nat) : Int) := by omega
        clear HU HX3 HU4 HP HDN HO HIDX HBD EE HZ
        by_cases hAB : idx = B
        · subst hAB
          generalize dk[idx]! = y1 at *
          go_upto_region 10 with fail
          go_region
          go_wp2_with fail
          go_roundw
          case rel => rw [HEB.out]; exact HSW.out
          case measure => rw [HEB.out]; exact HMS.out
        · have hBA : ¬ B = idx := fun e => hAB e.symm
          generalize dk[idx]! = y0 at *
          generalize dk[B]! = y1 at *
          go_upto_region 10 with fail
          go_region
          go_wp2_with fail
          go_roundw
          case rel => rw [HEB.out]; exact HSW.out
          case measure => rw [HEB.out]; exact HMS.out
    · obtain rfl : t = 3 := by omega
      have hle : decide (((i0 + 3 : Nat) : Int) ≤ (m1 : Int)) = false := decide_eq_false (by have := HB.out; omega)
      have hle2 : ¬ (((i0 + 3 : Nat) : Int) ≤ (m1 : Int)) := of_decide_eq_false hle
      have HP2 := Lib.hid (And.intro HP.out HU0.out)
      obtain ⟨e0, e2, e4, e7, e9, e10⟩ := EE.out
      clear HP HU0 HU hx ht ht3 hX HDN EE
      generalize ((i0 + 3 : Nat) : Int) = z at *
      go_wp2_with fail
      go_end0
      exact ⟨rfl, dk, HP2.out.1, HP2.out.2⟩
end Go.Proofs.YtlahficmkfgooaaGreat
