import Derived.Test.YtlahficmkfgooaaGreatMgl
import Derived.Deep.CutBlock

/- The walk of partitionOrdered at uint64. No condition but that the row is not too long. -/
namespace Go.Proofs.YtlahficmkfgooaaGreat
open Go.RowKit Sou
set_option linter.unusedVariables false
set_option linter.unusedSimpArgs false
set_option maxRecDepth 100000 in
set_option maxHeartbeats 4000000 in
theorem part_u {w : World} {g n cap a b pivot : Nat} {d : Array Int} {tl : List Value} (h : UR w g d tl) (hn : d.size = n) (hap : a ≤ pivot) (hpb : pivot < b) (hb : b ≤ n) (hs : n ≤ 1000000) :
    Calls Tryz.prog 142 #[.slice (some ⟨g, 0, none⟩) n cap, .int .i64 (a : Int), .int .i64 (b : Int), .int .i64 (pivot : Int)] w fun e w' =>
      e = .returned (.tuple #[.int .i64 ((Go.Sort.partition Go.Sort.ltInt d a b pivot).1 : Nat), .bool (Go.Sort.partition Go.Sort.ltInt d a b pivot).2.1]) ∧ UW w g (Go.Sort.partition Go.Sort.ltInt d a b pivot).2.2 tl w' := by
  have hsplit := fun i j dk => part_split d a b pivot i j dk
  generalize Go.Sort.partition Go.Sort.ltInt d a b pivot = X at *
  have HSPLIT := Lib.hid hsplit
  have HU : Hid (UW w g d tl w) := Lib.hid ⟨h, Only.refl _ _⟩
  have HDN := Lib.hid hn
  have HBD := Lib.hid (And.intro hap (And.intro hpb (And.intro hb (show a < n by omega))))
  have e1 : IntKind.i64.wrap ((a : Int) + 1) = ((a + 1 : Nat) : Int) := by rw [IntKind.wrap_i64]; omega
  have e2 : IntKind.i64.wrap ((b : Int) - 1) = ((b - 1 : Nat) : Int) := by rw [IntKind.wrap_i64]; omega
  clear h hn hsplit hap hpb hb
  go_enter Tryz.func142, Tryz.ntmps142
  go_wp2_with fail
  go_upto_region 1 with fail
  go_cut [] (fun wc => UW w g (Go.Sort.swp d a pivot) tl wc)
  case first =>
    have hsw := fun W (h : UW w g d tl W) => (h.swp (i := a) (j := pivot) (by have := HDN.out; have := HBD.out; omega) (by have := HDN.out; have := HBD.out; omega)).drew
    have HSW := Lib.hid (hsw _ HU.out)
    have hf := HU.out.r.frozen
    have x0 := HU.out.r.cell (i := a) (by have := HDN.out; have := HBD.out; omega)
    have x1 := HU.out.r.cell (i := pivot) (by have := HDN.out; have := HBD.out; omega)
    have i0 : ((a : Nat) : Int) < (n : Int) := by have := HBD.out; omega
    have i1 : ((pivot : Nat) : Int) < (n : Int) := by have := HBD.out; omega
    have j0 : (0 : Int) ≤ ((a : Nat) : Int) := by omega
    have j1 : (0 : Int) ≤ ((pivot : Nat) : Int) := by omega
    clear hsw HU
    by_cases hAB : a = pivot
    · subst hAB
      generalize (d)[a]! = y1 at *
      go_region
      all_goals (go_wp2_with fail; go_meet)
      all_goals exact HSW.out
    · have hBA : ¬ pivot = a := fun e => hAB e.symm
      generalize (d)[a]! = y0 at *
      generalize (d)[pivot]! = y1 at *
      go_region
      all_goals (go_wp2_with fail; go_meet)
      all_goals exact HSW.out
  case rest =>
    clear HU
    have hdks : (Go.Sort.swp d a pivot).size = n := by rw [Go.Sort.swp_size]; exact HDN.out
    obtain ⟨dk, hdk⟩ : ∃ dk, dk = Go.Sort.swp d a pivot := ⟨_, rfl⟩
    rw [← hdk] at hcut hdks
    have HU := Lib.hid hcut
    clear HDN
    have HDN := Lib.hid hdks
    have HDK := Lib.hid hdk
    clear hcut hdks hdk
    obtain ⟨p, hp⟩ : ∃ p : Int → Bool, p = fun x => Go.Sort.ltInt x dk[a]! := ⟨_, rfl⟩
    obtain ⟨q, hq⟩ : ∃ q : Int → Bool, q = fun x => !Go.Sort.ltInt x dk[a]! := ⟨_, rfl⟩
    obtain ⟨i0, hi0⟩ : ∃ i0, i0 = a + 1 := ⟨_, rfl⟩
    obtain ⟨j0, hj0⟩ : ∃ j0, j0 = b - 1 := ⟨_, rfl⟩
    obtain ⟨i2, hi2⟩ : ∃ i2, i2 = Go.Sort.scanUp p dk j0 i0 := ⟨_, rfl⟩
    obtain ⟨j2, hj2⟩ : ∃ j2, j2 = Go.Sort.scanDown q dk i2 j0 := ⟨_, rfl⟩
    have HX := Lib.hid (HSPLIT.out i2 j2 dk HDK.out (by rw [hi2, hp, hi0, hj0]) (by rw [hj2, hq, hj0]))
    have HR1 : Hid (Go.Sort.scanUp p dk j0 i0 = i2) := Lib.hid hi2.symm
    have HR2 : Hid (Go.Sort.scanDown q dk i2 j0 = j2) := Lib.hid hj2.symm
    have HP : Hid (∀ x, p x = decide (x < dk[a]!)) := Lib.hid (by rw [hp]; intro x; rfl)
    have HQ : Hid (∀ x, q x = !decide (x < dk[a]!)) := Lib.hid (by rw [hq]; intro x; rfl)
    have HPQ : Hid (∀ x, q x = !p x) := Lib.hid (by rw [hp, hq]; intro x; rfl)
    have HBD2 := Lib.hid (And.intro HBD.out (And.intro hi0 hj0))
    clear HBD
    have HBD : Hid (a < i0 ∧ i0 ≤ j0 + 1 ∧ j0 < b ∧ b ≤ n ∧ a < n) := Lib.hid (by have := HBD2.out; omega)
    rw [← hi0] at e1
    rw [← hj0] at e2
    clear HSPLIT HDK HBD2 hp hq hi0 hj0 hi2 hj2
    go_upto_block 0 with fail
    go_cut [10] (fun u wc => ScUE w g dk tl p i0 j0 i2 u wc)
    case first =>
      have hz : ScU w g dk tl p i0 j0 i2 (.int .i64 ((i0 : Nat) : Int)) _ := ⟨i0, rfl, Nat.le_refl _, by have := HBD.out; omega, HR1.out, HU.out⟩
      have HZ := Lib.hid hz
      clear hz HU
      go_wp2_with fail
      go_loopw [10] (fun u wr => ScU w g dk tl p i0 j0 i2 u wr) (fun u _ => (((j0 : Nat) : Int) + 1 - intOf u).toNat)
      case atStart => exact HZ.out
      case round =>
        clear HZ
        obtain ⟨i, rfl, hi1, hi2, hsc, hU⟩ := hrel
        have HI := Lib.hid (And.intro hi1 hi2)
        have HU := Lib.hid hU
        have HSC := Lib.hid hsc
        clear hU hsc hi1 hi2
        by_cases hle : i ≤ j0
        · have hle' : (i : Int) ≤ ((j0 : Nat) : Int) := by omega
          have x0 := HU.out.r.cell (i := i) (by have := HDN.out; have := HBD.out; omega)
          have x1 := HU.out.r.cell (i := a) (by have := HDN.out; have := HBD.out; omega)
          have HGO := Lib.hid (fun h => (scanUp_go' p dk j0 i hle h).symm.trans HSC.out)
          have HEND := Lib.hid (ScUE.of (tl := tl) (w := w) (g := g) HI.out.1 HI.out.2 HSC.out)
          have hpd := HP.out (dk)[i]!
          have b0 : (i : Int) < (n : Int) := by have := HBD.out; omega
          have b1 : ((a : Nat) : Int) < (n : Int) := by have := HBD.out; omega
          have c0 : (0 : Int) ≤ (i : Int) := by omega
          have c1 : (0 : Int) ≤ ((a : Nat) : Int) := by omega
          clear HSC
          generalize (dk)[i]! = y0 at *
          generalize (dk)[a]! = z at *
          cases hp : p y0 with
          | true =>
            have HLT : Hid (decide (y0 < z) = true) := Lib.hid (by rw [hp] at hpd; simpa using hpd)
            have HN := Lib.hid (HGO.out hp)
            clear hp hpd HGO HEND HP
            go_upto_region 3 with fail
            go_quiet ((go_at_call 140; exact Calls.quiet_of_same (less_t HLT.out _)))
            go_wp2_with fail
            go_roundw
            case rel => exact ⟨i + 1, rfl, by have := HI.out; omega, by omega, HN.out, HU.out.drewN _⟩
            case measure => simp [intOf]; omega
          | false =>
            have HLT : Hid (decide (y0 < z) = false) := Lib.hid (by rw [hp] at hpd; simpa using hpd)
            have HN := Lib.hid (HEND.out (.inr hp))
            clear hp hpd HGO HEND HP
            go_upto_region 3 with fail
            go_quiet ((go_at_call 140; exact Calls.quiet_of_same (less_t HLT.out _)))
            go_wp2_with fail
            go_meet
            exact HN.out _ (HU.out.drewN _)
        · have hle' : decide ((i : Int) ≤ ((j0 : Nat) : Int)) = false := decide_eq_false (by omega)
          have HN := Lib.hid (ScUE.of (tl := tl) (w := w) (g := g) HI.out.1 HI.out.2 HSC.out (.inl hle))
          clear HSC HP
          go_upto_region 3 with fail
          go_quiet (fail)
          go_wp2_with fail
          go_meet
          exact HN.out _ (HU.out.drewN _)
    case rest =>
      clear HU HR1
      obtain ⟨rfl, hb1, hb2, hpe, hU⟩ := hcut
      have HU := Lib.hid hU
      have HPE := Lib.hid hpe
      have HB2 := Lib.hid HBD.out
      clear HBD
      have HBD : Hid (a < i2 ∧ i2 ≤ j0 + 1 ∧ j0 < b ∧ b ≤ n ∧ a < n) := Lib.hid (by have := HB2.out; omega)
      clear HB2 hb1 hb2 hU hpe
      go_upto_block 2 with fail
      go_cut [11] (fun u wc => ScDE w g dk tl q i2 j0 j2 u wc)
      case first =>
        have hz : ScD w g dk tl q i2 j0 j2 (.int .i64 ((j0 : Nat) : Int)) _ := ⟨j0, rfl, Nat.le_refl _, by have := HBD.out; omega, HR2.out, HU.out⟩
        have HZ := Lib.hid hz
        clear hz HU
        go_wp2_with fail
        go_loopw [11] (fun u wr => ScD w g dk tl q i2 j0 j2 u wr) (fun u _ => (intOf u).toNat)
        case atStart => exact HZ.out
        case round =>
          clear HZ
          obtain ⟨j, rfl, hi1, hi2, hsc, hU⟩ := hrel
          have HI := Lib.hid (And.intro hi1 hi2)
          have HU := Lib.hid hU
          have HSC := Lib.hid hsc
          clear hU hsc hi1 hi2
          by_cases hle : i2 ≤ j
          · have hle' : ((i2 : Nat) : Int) ≤ (j : Int) := by omega
            have hj1 : 1 ≤ j := by have := HBD.out; omega
            have x0 := HU.out.r.cell (i := j) (by have := HDN.out; have := HBD.out; have := HI.out; omega)
            have x1 := HU.out.r.cell (i := a) (by have := HDN.out; have := HBD.out; omega)
            have HGO := Lib.hid (fun h => (scanDown_go' q dk i2 j hle hj1 h).symm.trans HSC.out)
            have HEND := Lib.hid (ScDE.of (tl := tl) (w := w) (g := g) HI.out.1 HI.out.2 HSC.out)
            have hpd := HQ.out (dk)[j]!
            have b0 : (j : Int) < (n : Int) := by have := HBD.out; have := HI.out; omega
            have b1 : ((a : Nat) : Int) < (n : Int) := by have := HBD.out; omega
            have c0 : (0 : Int) ≤ (j : Int) := by omega
            have c1 : (0 : Int) ≤ ((a : Nat) : Int) := by omega
            have ej : IntKind.i64.wrap ((j : Int) - 1) = ((j - 1 : Nat) : Int) := by have := HBD.out; have := HI.out; rw [IntKind.wrap_i64]; omega
            clear HSC
            generalize (dk)[j]! = y0 at *
            generalize (dk)[a]! = z at *
            cases hp : q y0 with
            | true =>
              have HLT : Hid (decide (y0 < z) = false) := Lib.hid (by rw [hp] at hpd; simpa using hpd)
              have HN := Lib.hid (HGO.out hp)
              clear hp hpd HGO HEND HQ
              go_upto_region 5 with fail
              go_quiet ((go_at_call 140; exact Calls.quiet_of_same (less_t HLT.out _)))
              go_wp2_with fail
              go_roundw
              case rel => exact ⟨j - 1, rfl, by have := HI.out; omega, by omega, HN.out, HU.out.drewN _⟩
              case measure => simp [intOf]; omega
            | false =>
              have HLT : Hid (decide (y0 < z) = true) := Lib.hid (by rw [hp] at hpd; simpa using hpd)
              have HN := Lib.hid (HEND.out (.inr hp))
              clear hp hpd HGO HEND HQ
              go_upto_region 5 with fail
              go_quiet ((go_at_call 140; exact Calls.quiet_of_same (less_t HLT.out _)))
              go_wp2_with fail
              go_meet
              exact HN.out _ (HU.out.drewN _)
          · have hle' : decide (((i2 : Nat) : Int) ≤ (j : Int)) = false := decide_eq_false (by omega)
            have HN := Lib.hid (ScDE.of (tl := tl) (w := w) (g := g) HI.out.1 HI.out.2 HSC.out (.inl hle))
            clear HSC HQ
            go_upto_region 5 with fail
            go_quiet (fail)
            go_wp2_with fail
            go_meet
            exact HN.out _ (HU.out.drewN _)
      case rest =>
        clear HU HR2 HP HQ
        obtain ⟨rfl, hb1, hb2, hqe, hU⟩ := hcut
        have HU := Lib.hid hU
        have hij : i2 ≠ j2 := by
          intro e
          have h1 := HPE.out (by omega)
          have h2 := hqe (by omega)
          rw [HPQ.out, ← e, h1] at h2
          cases h2
        have HB2 := Lib.hid HBD.out
        clear HBD
        have HBD : Hid (a < i2 ∧ i2 ≤ j2 + 1 ∧ j2 < b ∧ b ≤ n ∧ a < n ∧ i2 ≠ j2 ∧ j2 < n) := Lib.hid (by have := HB2.out; omega)
        clear HB2 hb1 hb2 hU hqe hij HPE HPQ
        by_cases hlt : j2 < i2
        · have HX2 := Lib.hid (HX.out.1 hlt)
          have hlt' : (j2 : Int) < (i2 : Int) := by omega
          clear HX
          go_wp2_with fail
          go_upto_region 8 with fail
          go_cut [] (fun wc => UW w g (Go.Sort.swp dk j2 a) tl wc)
          case first =>
            have hsw := fun W (h : UW w g dk tl W) => (h.swp (i := j2) (j := a) (by have := HDN.out; have := HBD.out; omega) (by have := HDN.out; have := HBD.out; omega)).drew
            have HSW := Lib.hid (hsw _ HU.out)
            have hf := HU.out.r.frozen
            have x0 := HU.out.r.cell (i := j2) (by have := HDN.out; have := HBD.out; omega)
            have x1 := HU.out.r.cell (i := a) (by have := HDN.out; have := HBD.out; omega)
            have i0 : ((j2 : Nat) : Int) < (n : Int) := by have := HBD.out; omega
            have i1 : ((a : Nat) : Int) < (n : Int) := by have := HBD.out; omega
            have j0 : (0 : Int) ≤ ((j2 : Nat) : Int) := by omega
            have j1 : (0 : Int) ≤ ((a : Nat) : Int) := by omega
            clear hsw HU
            by_cases hAB : j2 = a
            · subst hAB
              generalize (dk)[j2]! = y1 at *
              go_region
              all_goals (go_wp2_with fail; go_meet)
              all_goals exact HSW.out
            · have hBA : ¬ a = j2 := fun e => hAB e.symm
              generalize (dk)[j2]! = y0 at *
              generalize (dk)[a]! = y1 at *
              go_region
              all_goals (go_wp2_with fail; go_meet)
              all_goals exact HSW.out
          case rest =>
            have HU2 := Lib.hid hcut
            clear hcut HU
            have hx := HX2.out
            go_wp2_with fail
            go_ret2
            rw [hx]
            exact ⟨rfl, HU2.out⟩
        · have HX2 := Lib.hid (HX.out.2 hlt)
          have hlt' : decide ((j2 : Int) < (i2 : Int)) = false := decide_eq_false (by omega)
          have HB2 := Lib.hid HBD.out
          clear HBD
          have HBD : Hid (a < i2 ∧ i2 < j2 ∧ j2 < b ∧ b ≤ n ∧ a < n ∧ i2 < n ∧ j2 < n) := Lib.hid (by have := HB2.out; omega)
          clear HX HB2
          go_wp2_with fail
          go_upto_region 10 with fail
          go_cut [] (fun wc => UW w g (Go.Sort.swp dk i2 j2) tl wc)
          case first =>
            have hsw := fun W (h : UW w g dk tl W) => (h.swp (i := i2) (j := j2) (by have := HDN.out; have := HBD.out; omega) (by have := HDN.out; have := HBD.out; omega)).drew
            have HSW := Lib.hid (hsw _ HU.out)
            have hf := HU.out.r.frozen
            have x0 := HU.out.r.cell (i := i2) (by have := HDN.out; have := HBD.out; omega)
            have x1 := HU.out.r.cell (i := j2) (by have := HDN.out; have := HBD.out; omega)
            have i0 : ((i2 : Nat) : Int) < (n : Int) := by have := HBD.out; omega
            have i1 : ((j2 : Nat) : Int) < (n : Int) := by have := HBD.out; omega
            have j0 : (0 : Int) ≤ ((i2 : Nat) : Int) := by omega
            have j1 : (0 : Int) ≤ ((j2 : Nat) : Int) := by omega
            clear hsw HU
            by_cases hAB : i2 = j2
            · subst hAB
              generalize (dk)[i2]! = y1 at *
              go_region
              all_goals (go_wp2_with fail; go_meet)
              all_goals exact HSW.out
            · have hBA : ¬ j2 = i2 := fun e => hAB e.symm
              generalize (dk)[i2]! = y0 at *
              generalize (dk)[j2]! = y1 at *
              go_region
              all_goals (go_wp2_with fail; go_meet)
              all_goals exact HSW.out
          case rest =>
            clear HU
            have hdks : (Go.Sort.swp dk i2 j2).size = n := by rw [Go.Sort.swp_size]; exact HDN.out
            obtain ⟨dm, hdm⟩ : ∃ dm, dm = Go.Sort.swp dk i2 j2 := ⟨_, rfl⟩
            have hx := HX2.out
            rw [← hdm] at hcut hdks hx
            obtain ⟨R, hR⟩ : ∃ R, R = Go.Sort.partLoop Go.Sort.ltInt a (i2 + 1) (j2 - 1) dm := ⟨_, rfl⟩
            rw [← hR] at hx
            have HX := Lib.hid hx
            have e1 : IntKind.i64.wrap ((i2 : Int) + 1) = ((i2 + 1 : Nat) : Int) := by have := HBD.out; rw [IntKind.wrap_i64]; omega
            have e2 : IntKind.i64.wrap ((j2 : Int) - 1) = ((j2 - 1 : Nat) : Int) := by have := HBD.out; rw [IntKind.wrap_i64]; omega
            have hz : PaR w g a b n R tl (.int .i64 ((i2 + 1 : Nat) : Int)) (.int .i64 ((j2 - 1 : Nat) : Int)) wc := ⟨i2 + 1, j2 - 1, dm, rfl, rfl, by have := HBD.out; omega, by have := HBD.out; omega, by have := HBD.out; omega, hdks, hR.symm, hcut⟩
            have HZ := Lib.hid hz
            have HB2 := Lib.hid HBD.out
            clear HBD
            have HBD : Hid (b ≤ n ∧ a < n) := Lib.hid (by have := HB2.out; omega)
            clear HX2 hx hz hR hdm hdks hcut HB2 HDN hlt' hlt
            generalize i2 + 1 = i3 at *
            generalize j2 - 1 = j3 at *
            go_upto_block 4 with fail
            go_cut [11] (fun v wc => PaE w g a b n R tl v wc)
            case first =>
              clear HX e1 e2
              go_wp2_with fail
              go_loopw [10, 11] (fun u v wr => PaR w g a b n R tl u v wr) (fun u v _ => (intOf v + 1 - intOf u).toNat)
              case atStart => exact HZ.out
              case round =>
                clear HZ
                obtain ⟨i0, j0, dk, rfl, rfl, ha0, hij0, hjb, hdn, hR, hU⟩ := hrel
                have HU := Lib.hid hU
                have HDN := Lib.hid hdn
                have HB2 := Lib.hid HBD.out
                clear HBD
                have HBD : Hid (a < i0 ∧ i0 ≤ j0 + 1 ∧ j0 < b ∧ b ≤ n ∧ a < n) := Lib.hid (by have := HB2.out; omega)
                obtain ⟨p, hp⟩ : ∃ p : Int → Bool, p = fun x => Go.Sort.ltInt x dk[a]! := ⟨_, rfl⟩
                obtain ⟨q, hq⟩ : ∃ q : Int → Bool, q = fun x => !Go.Sort.ltInt x dk[a]! := ⟨_, rfl⟩
                obtain ⟨i2, hi2⟩ : ∃ i2, i2 = Go.Sort.scanUp p dk j0 i0 := ⟨_, rfl⟩
                obtain ⟨j2, hj2⟩ : ∃ j2, j2 = Go.Sort.scanDown q dk i2 j0 := ⟨_, rfl⟩
                have hsp := loop_split dk a i0 j0 i2 j2 (by rw [hi2, hp]) (by rw [hj2, hq])
                rw [hR] at hsp
                have HX := Lib.hid hsp
                have HR1 : Hid (Go.Sort.scanUp p dk j0 i0 = i2) := Lib.hid hi2.symm
                have HR2 : Hid (Go.Sort.scanDown q dk i2 j0 = j2) := Lib.hid hj2.symm
                have HP : Hid (∀ x, p x = decide (x < dk[a]!)) := Lib.hid (by rw [hp]; intro x; rfl)
                have HQ : Hid (∀ x, q x = !decide (x < dk[a]!)) := Lib.hid (by rw [hq]; intro x; rfl)
                have HPQ : Hid (∀ x, q x = !p x) := Lib.hid (by rw [hp, hq]; intro x; rfl)
                clear hsp hR hi2 hj2 hp hq hU hdn ha0 hij0 hjb HB2
                go_upto_block 6 with fail
                go_cut [10] (fun u wc => ScUE w g dk tl p i0 j0 i2 u wc)
                case first =>
                  have hz : ScU w g dk tl p i0 j0 i2 (.int .i64 ((i0 : Nat) : Int)) _ := ⟨i0, rfl, Nat.le_refl _, by have := HBD.out; omega, HR1.out, HU.out⟩
                  have HZ := Lib.hid hz
                  clear hz HU
                  go_wp2_with fail
                  go_loopw [10] (fun u wr => ScU w g dk tl p i0 j0 i2 u wr) (fun u _ => (((j0 : Nat) : Int) + 1 - intOf u).toNat)
                  case atStart => exact HZ.out
                  case round =>
                    clear HZ
                    obtain ⟨i, rfl, hi1, hi2, hsc, hU⟩ := hrel
                    have HI := Lib.hid (And.intro hi1 hi2)
                    have HU := Lib.hid hU
                    have HSC := Lib.hid hsc
                    clear hU hsc hi1 hi2
                    by_cases hle : i ≤ j0
                    · have hle' : (i : Int) ≤ ((j0 : Nat) : Int) := by omega
                      have x0 := HU.out.r.cell (i := i) (by have := HDN.out; have := HBD.out; omega)
                      have x1 := HU.out.r.cell (i := a) (by have := HDN.out; have := HBD.out; omega)
                      have HGO := Lib.hid (fun h => (scanUp_go' p dk j0 i hle h).symm.trans HSC.out)
                      have HEND := Lib.hid (ScUE.of (tl := tl) (w := w) (g := g) HI.out.1 HI.out.2 HSC.out)
                      have hpd := HP.out (dk)[i]!
                      have b0 : (i : Int) < (n : Int) := by have := HBD.out; omega
                      have b1 : ((a : Nat) : Int) < (n : Int) := by have := HBD.out; omega
                      have c0 : (0 : Int) ≤ (i : Int) := by omega
                      have c1 : (0 : Int) ≤ ((a : Nat) : Int) := by omega
                      clear HSC
                      generalize (dk)[i]! = y0 at *
                      generalize (dk)[a]! = z at *
                      cases hp : p y0 with
                      | true =>
                        have HLT : Hid (decide (y0 < z) = true) := Lib.hid (by rw [hp] at hpd; simpa using hpd)
                        have HN := Lib.hid (HGO.out hp)
                        clear hp hpd HGO HEND HP
                        go_upto_region 13 with fail
                        go_quiet ((go_at_call 140; exact Calls.quiet_of_same (less_t HLT.out _)))
                        go_wp2_with fail
                        go_roundw
                        case rel => exact ⟨i + 1, rfl, by have := HI.out; omega, by omega, HN.out, HU.out.drewN _⟩
                        case measure => simp [intOf]; omega
                      | false =>
                        have HLT : Hid (decide (y0 < z) = false) := Lib.hid (by rw [hp] at hpd; simpa using hpd)
                        have HN := Lib.hid (HEND.out (.inr hp))
                        clear hp hpd HGO HEND HP
                        go_upto_region 13 with fail
                        go_quiet ((go_at_call 140; exact Calls.quiet_of_same (less_t HLT.out _)))
                        go_wp2_with fail
                        go_meet
                        exact HN.out _ (HU.out.drewN _)
                    · have hle' : decide ((i : Int) ≤ ((j0 : Nat) : Int)) = false := decide_eq_false (by omega)
                      have HN := Lib.hid (ScUE.of (tl := tl) (w := w) (g := g) HI.out.1 HI.out.2 HSC.out (.inl hle))
                      clear HSC HP
                      go_upto_region 13 with fail
                      go_quiet (fail)
                      go_wp2_with fail
                      go_meet
                      exact HN.out _ (HU.out.drewN _)
                case rest =>
                  clear HU HR1
                  obtain ⟨rfl, hb1, hb2, hpe, hU⟩ := hcut
                  have HU := Lib.hid hU
                  have HPE := Lib.hid hpe
                  have HI0 := Lib.hid hb1
                  have HB2 := Lib.hid HBD.out
                  clear HBD
                  have HBD : Hid (a < i2 ∧ i2 ≤ j0 + 1 ∧ j0 < b ∧ b ≤ n ∧ a < n) := Lib.hid (by have := HB2.out; omega)
                  clear HB2 hb1 hb2 hU hpe
                  go_upto_block 8 with fail
                  go_cut [11] (fun u wc => ScDE w g dk tl q i2 j0 j2 u wc)
                  case first =>
                    have hz : ScD w g dk tl q i2 j0 j2 (.int .i64 ((j0 : Nat) : Int)) _ := ⟨j0, rfl, Nat.le_refl _, by have := HBD.out; omega, HR2.out, HU.out⟩
                    have HZ := Lib.hid hz
                    clear hz HU
                    go_wp2_with fail
                    go_loopw [11] (fun u wr => ScD w g dk tl q i2 j0 j2 u wr) (fun u _ => (intOf u).toNat)
                    case atStart => exact HZ.out
                    case round =>
                      clear HZ
                      obtain ⟨j, rfl, hi1, hi2, hsc, hU⟩ := hrel
                      have HI := Lib.hid (And.intro hi1 hi2)
                      have HU := Lib.hid hU
                      have HSC := Lib.hid hsc
                      clear hU hsc hi1 hi2
                      by_cases hle : i2 ≤ j
                      · have hle' : ((i2 : Nat) : Int) ≤ (j : Int) := by omega
                        have hj1 : 1 ≤ j := by have := HBD.out; omega
                        have x0 := HU.out.r.cell (i := j) (by have := HDN.out; have := HBD.out; have := HI.out; omega)
                        have x1 := HU.out.r.cell (i := a) (by have := HDN.out; have := HBD.out; omega)
                        have HGO := Lib.hid (fun h => (scanDown_go' q dk i2 j hle hj1 h).symm.trans HSC.out)
                        have HEND := Lib.hid (ScDE.of (tl := tl) (w := w) (g := g) HI.out.1 HI.out.2 HSC.out)
                        have hpd := HQ.out (dk)[j]!
                        have b0 : (j : Int) < (n : Int) := by have := HBD.out; have := HI.out; omega
                        have b1 : ((a : Nat) : Int) < (n : Int) := by have := HBD.out; omega
                        have c0 : (0 : Int) ≤ (j : Int) := by omega
                        have c1 : (0 : Int) ≤ ((a : Nat) : Int) := by omega
                        have ej : IntKind.i64.wrap ((j : Int) - 1) = ((j - 1 : Nat) : Int) := by have := HBD.out; have := HI.out; rw [IntKind.wrap_i64]; omega
                        clear HSC
                        generalize (dk)[j]! = y0 at *
                        generalize (dk)[a]! = z at *
                        cases hp : q y0 with
                        | true =>
                          have HLT : Hid (decide (y0 < z) = false) := Lib.hid (by rw [hp] at hpd; simpa using hpd)
                          have HN := Lib.hid (HGO.out hp)
                          clear hp hpd HGO HEND HQ
                          go_upto_region 15 with fail
                          go_quiet ((go_at_call 140; exact Calls.quiet_of_same (less_t HLT.out _)))
                          go_wp2_with fail
                          go_roundw
                          case rel => exact ⟨j - 1, rfl, by have := HI.out; omega, by omega, HN.out, HU.out.drewN _⟩
                          case measure => simp [intOf]; omega
                        | false =>
                          have HLT : Hid (decide (y0 < z) = true) := Lib.hid (by rw [hp] at hpd; simpa using hpd)
                          have HN := Lib.hid (HEND.out (.inr hp))
                          clear hp hpd HGO HEND HQ
                          go_upto_region 15 with fail
                          go_quiet ((go_at_call 140; exact Calls.quiet_of_same (less_t HLT.out _)))
                          go_wp2_with fail
                          go_meet
                          exact HN.out _ (HU.out.drewN _)
                      · have hle' : decide (((i2 : Nat) : Int) ≤ (j : Int)) = false := decide_eq_false (by omega)
                        have HN := Lib.hid (ScDE.of (tl := tl) (w := w) (g := g) HI.out.1 HI.out.2 HSC.out (.inl hle))
                        clear HSC HQ
                        go_upto_region 15 with fail
                        go_quiet (fail)
                        go_wp2_with fail
                        go_meet
                        exact HN.out _ (HU.out.drewN _)
                  case rest =>
                    clear HU HR2 HP HQ
                    obtain ⟨rfl, hb1, hb2, hqe, hU⟩ := hcut
                    have HU := Lib.hid hU
                    have hij : i2 ≠ j2 := by
                      intro e
                      have h1 := HPE.out (by omega)
                      have h2 := hqe (by omega)
                      rw [HPQ.out, ← e, h1] at h2
                      cases h2
                    have HB2 := Lib.hid HBD.out
                    clear HBD
                    have HBD : Hid (a < i2 ∧ i2 ≤ j2 + 1 ∧ j2 < b ∧ b ≤ n ∧ a < n ∧ i2 ≠ j2 ∧ j2 < n ∧ i0 ≤ i2 ∧ j2 ≤ j0) := Lib.hid (by have := HB2.out; have := HI0.out; omega)
                    clear HB2 HI0 hb1 hb2 hU hqe hij HPE HPQ
                    by_cases hlt : j2 < i2
                    · have hr := HX.out.1 hlt
                      have HRE := Lib.hid hr
                      have hlt' : (j2 : Int) < (i2 : Int) := by omega
                      clear HX hr
                      go_wp2_with fail
                      go_meet
                      rw [HRE.out]
                      exact ⟨rfl, by have := HBD.out; show a ≤ j2; omega, by have := HBD.out; show j2 < b; omega, HDN.out, HU.out⟩
                    · have HRE := Lib.hid (HX.out.2 hlt)
                      have hlt' : decide ((j2 : Int) < (i2 : Int)) = false := decide_eq_false (by omega)
                      have HB2 := Lib.hid HBD.out
                      clear HBD
                      have HBD : Hid (a < i2 ∧ i2 < j2 ∧ j2 < b ∧ b ≤ n ∧ a < n ∧ i2 < n ∧ j2 < n ∧ i0 ≤ i2 ∧ j2 ≤ j0) := Lib.hid (by have := HB2.out; omega)
                      clear HX HB2
                      go_wp2_with fail
                      go_upto_region 18 with fail
                      go_cut [] (fun wc => UW w g (Go.Sort.swp dk i2 j2) tl wc)
                      case first =>
                        have hsw := fun W (h : UW w g dk tl W) => (h.swp (i := i2) (j := j2) (by have := HDN.out; have := HBD.out; omega) (by have := HDN.out; have := HBD.out; omega)).drew
                        have HSW := Lib.hid (hsw _ HU.out)
                        have hf := HU.out.r.frozen
                        have x0 := HU.out.r.cell (i := i2) (by have := HDN.out; have := HBD.out; omega)
                        have x1 := HU.out.r.cell (i := j2) (by have := HDN.out; have := HBD.out; omega)
                        have i0 : ((i2 : Nat) : Int) < (n : Int) := by have := HBD.out; omega
                        have i1 : ((j2 : Nat) : Int) < (n : Int) := by have := HBD.out; omega
                        have j0 : (0 : Int) ≤ ((i2 : Nat) : Int) := by omega
                        have j1 : (0 : Int) ≤ ((j2 : Nat) : Int) := by omega
                        clear hsw HU
                        by_cases hAB : i2 = j2
                        · subst hAB
                          generalize (dk)[i2]! = y1 at *
                          go_region
                          all_goals (go_wp2_with fail; go_meet)
                          all_goals exact HSW.out
                        · have hBA : ¬ j2 = i2 := fun e => hAB e.symm
                          generalize (dk)[i2]! = y0 at *
                          generalize (dk)[j2]! = y1 at *
                          go_region
                          all_goals (go_wp2_with fail; go_meet)
                          all_goals exact HSW.out
                      case rest =>
                        clear HU
                        have hdks : (Go.Sort.swp dk i2 j2).size = n := by rw [Go.Sort.swp_size]; exact HDN.out
                        have HZ : Hid (PaR w g a b n R tl (.int .i64 ((i2 + 1 : Nat) : Int)) (.int .i64 ((j2 - 1 : Nat) : Int)) wc) := Lib.hid ⟨i2 + 1, j2 - 1, _, rfl, rfl, by have := HBD.out; omega, by have := HBD.out; omega, by have := HBD.out; omega, hdks, HRE.out.symm, hcut⟩
                        have e1 : IntKind.i64.wrap ((i2 : Int) + 1) = ((i2 + 1 : Nat) : Int) := by have := HBD.out; rw [IntKind.wrap_i64]; omega
                        have e2 : IntKind.i64.wrap ((j2 : Int) - 1) = ((j2 - 1 : Nat) : Int) := by have := HBD.out; rw [IntKind.wrap_i64]; omega
                        clear hdks hcut HRE HDN hlt hlt'
                        go_wp2_with fail
                        go_roundw
                        case rel => exact HZ.out
                        case measure => have := HBD.out; simp [intOf]; omega
            case rest =>
              obtain ⟨rfl, hm1, hm2, hms, hU⟩ := hcut
              have HU := Lib.hid hU
              have HDN := Lib.hid hms
              obtain ⟨m, dm⟩ := R
              have HB2 := Lib.hid HBD.out
              clear HBD
              have HBD : Hid (b ≤ n ∧ a < n ∧ m < n) := Lib.hid (by have := HB2.out; have : m < b := hm2; omega)
              clear hU hms hm1 hm2 HZ HB2
              go_wp2_with fail
              go_upto_region 21 with fail
              go_cut [] (fun wc => UW w g (Go.Sort.swp dm m a) tl wc)
              case first =>
                have hsw := fun W (h : UW w g dm tl W) => (h.swp (i := m) (j := a) (by have := HDN.out; have := HBD.out; omega) (by have := HDN.out; have := HBD.out; omega)).drew
                have HSW := Lib.hid (hsw _ HU.out)
                have hf := HU.out.r.frozen
                have x0 := HU.out.r.cell (i := m) (by have := HDN.out; have := HBD.out; omega)
                have x1 := HU.out.r.cell (i := a) (by have := HDN.out; have := HBD.out; omega)
                have i0 : ((m : Nat) : Int) < (n : Int) := by have := HBD.out; omega
                have i1 : ((a : Nat) : Int) < (n : Int) := by have := HBD.out; omega
                have j0 : (0 : Int) ≤ ((m : Nat) : Int) := by omega
                have j1 : (0 : Int) ≤ ((a : Nat) : Int) := by omega
                clear hsw HU
                by_cases hAB : m = a
                · subst hAB
                  generalize (dm)[m]! = y1 at *
                  go_region
                  all_goals (go_wp2_with fail; go_meet)
                  all_goals exact HSW.out
                · have hBA : ¬ a = m := fun e => hAB e.symm
                  generalize (dm)[m]! = y0 at *
                  generalize (dm)[a]! = y1 at *
                  go_region
                  all_goals (go_wp2_with fail; go_meet)
                  all_goals exact HSW.out
              case rest =>
                have HU2 := Lib.hid hcut
                clear hcut HU
                have hx := HX.out
                go_wp2_with fail
                go_ret2
                rw [hx]
                exact ⟨rfl, HU2.out⟩
end Go.Proofs.YtlahficmkfgooaaGreat
