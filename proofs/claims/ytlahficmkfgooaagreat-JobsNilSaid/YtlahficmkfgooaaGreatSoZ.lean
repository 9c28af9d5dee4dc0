import Derived.Test.YtlahficmkfgooaaGreatMgl
import Derived.Sort.LotA
import Derived.Deep.CutBlock

/- The walk of partialInsertionSortOrdered at uint64. No condition but that the row is not too long. -/
namespace Go.Proofs.YtlahficmkfgooaaGreat
open Go.RowKit Sou
set_option linter.unusedVariables false
set_option linter.unusedSimpArgs false
namespace Sou
open Go.Sort
theorem sd_go {j : Nat} {d : Array Int} (h : decide (d[j + 1]! < d[j]!) = true) : shiftDown ltInt (j + 1) d = shiftDown ltInt j (swp d (j + 1) j) := by
  rw [shiftDown, if_neg (by simpa [ltInt] using h)]
theorem sd_stop {j : Nat} {d : Array Int} (h : decide (d[j + 1]! < d[j]!) = false) : shiftDown ltInt (j + 1) d = d := by
  rw [shiftDown, if_pos (by simpa [ltInt] using h)]
theorem su_go {b j : Nat} {d : Array Int} (hj : j < b) (h : decide (d[j]! < d[j - 1]!) = true) : shiftUp ltInt b j d = shiftUp ltInt b (j + 1) (swp d j (j - 1)) := by
  rw [shiftUp, if_pos hj, if_neg (by simpa [ltInt] using h)]
theorem su_stop {b j : Nat} {d : Array Int} (hj : j < b) (h : decide (d[j]! < d[j - 1]!) = false) : shiftUp ltInt b j d = d := by
  rw [shiftUp, if_pos hj, if_pos (by simpa [ltInt] using h)]
theorem su_end {b j : Nat} {d : Array Int} (hj : ¬ j < b) : shiftUp ltInt b j d = d := by rw [shiftUp, if_neg hj]
theorem ss_go {b i : Nat} {d : Array Int} (hi : i < b) (h : decide (d[i]! < d[i - 1]!) = false) : scanSorted ltInt d b i = scanSorted ltInt d b (i + 1) := by
  rw [scanSorted, if_pos (by simp [hi]; simpa [ltInt] using h)]
theorem ss_stop {b i : Nat} {d : Array Int} (h : ¬ i < b ∨ decide (d[i]! < d[i - 1]!) = true) : scanSorted ltInt d b i = i := by
  rw [scanSorted, if_neg (by rcases h with h | h
                             · simp [h]
                             · simp only [Bool.and_eq_true, Bool.not_eq_true', decide_eq_true_eq]; rintro ⟨_, h2⟩; unfold ltInt at h2; rw [h] at h2; cases h2)]
theorem pi_cases (a b s i K : Nat) (d : Array Int) (R : Array Int × Bool) (hs : s < 5) (h : partialIns ltInt a b (5 - s) i d = R) (hK : scanSorted ltInt d b i = K) :
    (K = b → R = (d, true)) ∧ (K ≠ b → b - a < 50 → R = (d, false)) ∧ (K ≠ b → ¬ b - a < 50 → partialIns ltInt a b (5 - (s + 1)) K (fixUp ltInt b K (fixDown ltInt a K (swp d K (K - 1)))) = R) := by
  rw [show 5 - s = (5 - (s + 1)) + 1 by omega, partialIns_succ, hK] at h
  refine ⟨fun e => ?_, fun e e2 => ?_, fun e e2 => ?_⟩
  · rw [if_pos e] at h; exact h.symm
  · rw [if_neg e, if_pos e2] at h; exact h.symm
  · rw [if_neg e, if_neg e2] at h; exact h
theorem pi_out (a b i : Nat) (d : Array Int) (R : Array Int × Bool) (h : partialIns ltInt a b (5 - 5) i d = R) : R = (d, false) := h.symm
def PiR (w0 : World) (g a b n : Nat) (R : Array Int × Bool) (tl : List Value) (u v : Value) (wr : World) : Prop := ∃ (s i : Nat) (d : Array Int), s ≤ 5 ∧ u = .int .i64 i ∧ v = .int .i64 s ∧ a + 1 ≤ i ∧ i ≤ b ∧ d.size = n ∧ partialIns ltInt a b (5 - s) i d = R ∧ UW w0 g d tl wr
def SsR (w0 : World) (g b i K : Nat) (d : Array Int) (tl : List Value) (u : Value) (wr : World) : Prop := ∃ j : Nat, u = .int .i64 j ∧ i ≤ j ∧ j ≤ b ∧ scanSorted ltInt d b j = K ∧ UW w0 g d tl wr
def SsE (w0 : World) (g b i K : Nat) (d : Array Int) (tl : List Value) (u : Value) (wr : World) : Prop := u = .int .i64 K ∧ i ≤ K ∧ K ≤ b ∧ UW w0 g d tl wr
theorem SsE.of {w : World} {g b i K j : Nat} {d : Array Int} {tl : List Value} (h1 : i ≤ j) (h2 : j ≤ b) (h3 : scanSorted ltInt d b j = K) (h : ¬ j < b ∨ decide (d[j]! < d[j - 1]!) = true) (wz : World) (hU : UW w g d tl wz) : SsE w g b i K d tl (.int .i64 j) wz := by
  have e : j = K := (ss_stop h).symm.trans h3
  subst e
  exact ⟨rfl, h1, h2, hU⟩
def SdR (w0 : World) (g n k : Nat) (R : Array Int) (tl : List Value) (u : Value) (wr : World) : Prop := ∃ (j : Nat) (d : Array Int), u = .int .i64 j ∧ j ≤ k ∧ d.size = n ∧ shiftDown ltInt j d = R ∧ UW w0 g d tl wr
def SuR (w0 : World) (g n b k : Nat) (R : Array Int) (tl : List Value) (u : Value) (wr : World) : Prop := ∃ (j : Nat) (d : Array Int), u = .int .i64 j ∧ k ≤ j ∧ j ≤ b ∧ d.size = n ∧ shiftUp ltInt b j d = R ∧ UW w0 g d tl wr
end Sou
set_option maxRecDepth 100000 in
set_option maxHeartbeats 4000000 in
theorem partial_u {w : World} {g n cap a b : Nat} {d : Array Int} {tl : List Value} (h : UR w g d tl) (hn : d.size = n) (hab : a < b) (hb : b ≤ n) (hs : n ≤ 1000000) :
    Calls Tryz.prog 139 #[.slice (some ⟨g, 0, none⟩) n cap, .int .i64 (a : Int), .int .i64 (b : Int)] w fun e w' =>
      e = .returned (.bool (Go.Sort.partialInsertionSort Go.Sort.ltInt d a b).2) ∧ UW w g (Go.Sort.partialInsertionSort Go.Sort.ltInt d a b).1 tl w' := by
  have hz : PiR w g a b n (Go.Sort.partialInsertionSort Go.Sort.ltInt d a b) tl (.int .i64 ((a + 1 : Nat) : Int)) (.int .i64 0) w := ⟨0, a + 1, d, by omega, rfl, rfl, Nat.le_refl _, by omega, hn, rfl, h, Only.refl _ _⟩
  generalize Go.Sort.partialInsertionSort Go.Sort.ltInt d a b = R at *
  have HZ := Lib.hid hz
  have HB : Hid (b ≤ n ∧ n ≤ 1000000 ∧ a < b) := Lib.hid (by omega)
  have e1 : IntKind.i64.wrap ((a : Int) + 1) = ((a + 1 : Nat) : Int) := by rw [IntKind.wrap_i64]; omega
  have e2 : IntKind.i64.wrap ((b : Int) - (a : Int)) = ((b - a : Nat) : Int) := by rw [IntKind.wrap_i64]; omega
  have E2 := Lib.hid e2
  clear h hn hz hb hab hs e2
  obtain ⟨a1, ha1⟩ : ∃ a1, a1 = a + 1 := ⟨_, rfl⟩
  rw [← ha1] at e1 HZ
  clear ha1
  go_enter Tryz.func139, Tryz.ntmps139
  go_wp2_with fail
  clear e1
  go_loopw [7, 8] (fun u v wr => PiR w g a b n R tl u v wr) (fun _ v _ => ((5 : Int) - intOf v).toNat)
  case atStart => exact HZ.out
  case round =>
    clear HZ
    obtain ⟨s, i, dk, hs5, rfl, rfl, hi1, hi2, hdn, hR, hU⟩ := hrel
    have HU := Lib.hid hU
    have HDN := Lib.hid hdn
    rcases Nat.lt_or_ge s 5 with hs | hs
    · have hs' : (s : Int) < 5 := by omega
      obtain ⟨K, hK⟩ : ∃ K, K = Go.Sort.scanSorted Go.Sort.ltInt dk b i := ⟨_, rfl⟩
      have HPI := Lib.hid (pi_cases a b s i K dk R hs hR hK.symm)
      have HI := Lib.hid (And.intro hi1 (And.intro hi2 hs))
      have HK := Lib.hid hK.symm
      have es : IntKind.i64.wrap ((s : Int) + 1) = ((s + 1 : Nat) : Int) := by rw [IntKind.wrap_i64]; omega
      have ES := Lib.hid es
      clear hU hdn hR hi1 hi2 hs5 hK hs es
      go_upto_block 2 with fail
      go_cut [7] (fun u wc => SsE w g b i K dk tl u wc)
      case first =>
        have hz : SsR w g b i K dk tl (.int .i64 ((i : Nat) : Int)) wr := ⟨i, rfl, Nat.le_refl _, HI.out.2.1, HK.out, HU.out⟩
        have HZ := Lib.hid hz
        clear hz HU HPI ES hs'
        go_wp2_with fail
        go_loopw [7] (fun u wr => SsR w g b i K dk tl u wr) (fun u _ => ((b : Int) - intOf u).toNat)
        case atStart => exact HZ.out
        case round =>
          clear HZ
          obtain ⟨j, rfl, hj1, hj2, hsc, hU⟩ := hrel
          have HU := Lib.hid hU
          by_cases hjb : j < b
          · have hjb' : (j : Int) < (b : Int) := by omega
            obtain ⟨jm, hjm⟩ : ∃ jm, jm = j - 1 := ⟨_, rfl⟩
            have x0 := HU.out.r.cell (i := j) (by have := HDN.out; have := HB.out; omega)
            have x1 := HU.out.r.cell (i := jm) (by have := HDN.out; have := HB.out; omega)
            have HGO := Lib.hid (fun h => (ss_go (d := dk) hjb h).symm.trans hsc)
            have HEND := Lib.hid (SsE.of (tl := tl) (w := w) (g := g) (i := i) hj1 hj2 hsc)
            rw [← hjm] at HGO HEND
            have b0 : (j : Int) < (n : Int) := by have := HB.out; omega
            have b1 : (jm : Int) < (n : Int) := by have := HB.out; omega
            have c0 : (0 : Int) ≤ (j : Int) := by omega
            have c1 : (0 : Int) ≤ (jm : Int) := by omega
            have HJ : Hid (i ≤ j ∧ j < b) := Lib.hid ⟨hj1, hjb⟩
            have EJ : Hid (wrap64 ((j : Int) + 1) = ((j + 1 : Nat) : Int)) := Lib.hid (Sou.w64n rfl (by have := HB.out; omega))
            have ej : IntKind.i64.wrap ((j : Int) - 1) = (jm : Int) := by have := HB.out; have := HI.out; rw [IntKind.wrap_i64]; omega
            clear hU hj1 hj2 hsc hjb hjm
            generalize dk[j]! = y0 at *
            generalize dk[jm]! = y1 at *
            cases hlt : decide (y0 < y1) with
            | false =>
              have HLT := Lib.hid hlt
              have HN := Lib.hid (HGO.out hlt)
              clear hlt HGO HEND
              go_upto_region 5 with fail
              go_quiet ((go_at_call 140; exact Calls.quiet_of_same (less_t HLT.out _)))
              clear ej
              go_wp2_with fail
              go_roundw
              case rel => rw [EJ.out]; exact ⟨j + 1, rfl, by have := HJ.out; omega, by have := HJ.out; omega, HN.out, HU.out.drewN _⟩
              case measure => rw [EJ.out]; have := HJ.out; simp [intOf]; omega
            | true =>
              have HLT := Lib.hid hlt
              have HN := Lib.hid (HEND.out (.inr hlt))
              clear hlt HGO HEND
              go_upto_region 5 with fail
              go_quiet ((go_at_call 140; exact Calls.quiet_of_same (less_t HLT.out _)))
              go_wp2_with fail
              go_meet
              exact HN.out _ (HU.out.drewN _)
          · have hjb' : ¬ (j : Int) < (b : Int) := by omega
            have HN := Lib.hid (SsE.of (tl := tl) (w := w) (g := g) (i := i) hj1 hj2 hsc (.inl hjb))
            clear hU hj1 hj2 hsc hjb
            go_upto_region 5 with fail
            go_quiet (fail)
            go_wp2_with fail
            go_meet
            exact HN.out _ (HU.out.drewN _)
      case rest =>
        clear HU HK hs'
        obtain ⟨rfl, hk1, hk2, hU⟩ := hcut
        have HU := Lib.hid hU
        have HKB : Hid (a + 1 ≤ K ∧ K ≤ b ∧ s < 5) := Lib.hid (by have := HI.out; omega)
        clear HI hk1 hk2 hU
        by_cases hKb : K = b
        · have HR := Lib.hid (HPI.out.1 hKb)
          clear HPI ES E2 HKB
          subst hKb
          go_wp2_with fail
          go_ret
          rw [HR.out]
          exact ⟨rfl, HU.out⟩
        · have hKb' : ((K : Int) == (b : Int)) = false := by simp; omega
          by_cases h50 : b - a < 50
          · have HR := Lib.hid (HPI.out.2.1 hKb h50)
            have h50' : ((b - a : Nat) : Int) < 50 := by omega
            clear HPI ES HKB hKb h50
            have e2 := E2.out
            clear E2
            generalize b - a = l at *
            go_wp2_with fail
            go_ret
            rw [HR.out]
            exact ⟨rfl, HU.out⟩
          · have HR := Lib.hid (HPI.out.2.2 hKb h50)
            have h50' : decide (((b - a : Nat) : Int) < 50) = false := decide_eq_false (by omega)
            have h50'' : ¬ ((b - a : Nat) : Int) < 50 := of_decide_eq_false h50'
            have HKB2 : Hid (a + 1 ≤ K ∧ K < b ∧ s < 5) := Lib.hid (by have := HKB.out; omega)
            obtain ⟨Km, hKm⟩ : ∃ Km, Km = K - 1 := ⟨_, rfl⟩
            rw [← hKm] at HR
            have HBD : Hid (K < n ∧ Km < n ∧ K = Km + 1) := Lib.hid (by have := HKB2.out; have := HB.out; omega)
            have eK : IntKind.i64.wrap ((K : Int) - 1) = (Km : Int) := by have := HBD.out; have := HB.out; rw [IntKind.wrap_i64]; omega
            clear HPI HKB hKb h50 hKm
            have e2 := E2.out
            clear E2
            generalize b - a = l at *
            go_upto_region 11 with fail
            go_cut [] (fun wc => UW w g (Go.Sort.swp dk K Km) tl wc)
            case first =>
              have hsw := fun W (h : UW w g dk tl W) => (h.swp (i := K) (j := Km) (by have := HDN.out; have := HBD.out; omega) (by have := HDN.out; have := HBD.out; omega)).drew
              have HSW := Lib.hid (hsw _ HU.out)
              have hf := HU.out.r.frozen
              have x0 := HU.out.r.cell (i := K) (by have := HDN.out; have := HBD.out; omega)
              have x1 := HU.out.r.cell (i := Km) (by have := HDN.out; have := HBD.out; omega)
              have i0 : ((K : Nat) : Int) < (n : Int) := by have := HBD.out; omega
              have i1 : ((Km : Nat) : Int) < (n : Int) := by have := HBD.out; omega
              have j0 : (0 : Int) ≤ ((K : Nat) : Int) := by omega
              have j1 : (0 : Int) ≤ ((Km : Nat) : Int) := by omega
              clear hsw HU
              have hAB : ¬ K = Km := by have := HBD.out; omega
              have hBA : ¬ Km = K := fun e => hAB e.symm
              generalize (dk)[K]! = y0 at *
              generalize (dk)[Km]! = y1 at *
              go_region
              all_goals (go_wp2_with fail; go_meet)
              all_goals exact HSW.out
            case rest =>
              clear e2 h50' h50'' hKb' HU
              have hsz1 : (Go.Sort.swp dk K Km).size = n := by rw [Go.Sort.swp_size]; exact HDN.out
              have HU := Lib.hid hcut
              clear HDN
              have HDN := Lib.hid hsz1
              clear hcut hsz1
              generalize Go.Sort.swp dk K Km = d1 at *
              obtain ⟨d2, hd2⟩ : ∃ d2, d2 = Go.Sort.fixDown Go.Sort.ltInt a K d1 := ⟨_, rfl⟩
              rw [← hd2] at HR
              have HD2 : Hid ((2 ≤ K - a → Go.Sort.shiftDown Go.Sort.ltInt Km d1 = d2) ∧ (¬ 2 ≤ K - a → d1 = d2)) := Lib.hid (by
                have hk : K - 1 = Km := by have := HBD.out; omega
                rw [hd2]; unfold Go.Sort.fixDown
                exact ⟨fun h => by rw [if_pos h, hk], fun h => by rw [if_neg h]⟩)
              have hKa : IntKind.i64.wrap ((K : Int) - (a : Int)) = ((K - a : Nat) : Int) := by have := HKB2.out; have := HBD.out; have := HB.out; clear eK; rw [IntKind.wrap_i64]; omega
              clear hd2
              go_upto_if 61 with fail
              go_cut [] (fun wc => d2.size = n ∧ UW w g d2 tl wc)
              case first =>
                clear HR ES
                by_cases h2 : 2 ≤ K - a
                · have h2' : (2 : Int) ≤ ((K - a : Nat) : Int) := by omega
                  have HZ : Hid (SdR w g n Km d2 tl (.int .i64 ((Km : Nat) : Int)) wc) := Lib.hid ⟨Km, d1, rfl, Nat.le_refl _, HDN.out, HD2.out.1 h2, HU.out⟩
                  clear HU HDN HD2 h2
                  generalize K - a = ka at *
                  go_wp2_with fail
                  clear eK hKa h2'
                  go_loopw [9] (fun u wr => SdR w g n Km d2 tl u wr) (fun u _ => (intOf u).toNat)
                  case atStart => exact HZ.out
                  case round =>
                    clear HZ
                    obtain ⟨j, dj, rfl, hj1, hdn, hsh, hU⟩ := hrel
                    have HU := Lib.hid hU
                    have HDN := Lib.hid hdn
                    cases j with
                    | zero =>
                      have HD := Lib.hid (show dj = d2 from hsh)
                      clear hU hj1 hdn hsh
                      go_wp2_with fail
                      go_meet
                      rw [← HD.out]
                      exact ⟨HDN.out, HU.out⟩
                    | succ jm =>
                      obtain ⟨j, hj⟩ : ∃ j, j = jm + 1 := ⟨_, rfl⟩
                      rw [← hj] at hsh hj1
                      rw [← hj]
                      have hj' : (1 : Int) ≤ (j : Int) := by omega
                      have x0 := HU.out.r.cell (i := j) (by have := HDN.out; have := HBD.out; omega)
                      have x1 := HU.out.r.cell (i := jm) (by have := HDN.out; have := HBD.out; omega)
                      have hf := HU.out.r.frozen
                      have HGO : Hid (decide (dj[j]! < dj[jm]!) = true → Go.Sort.shiftDown Go.Sort.ltInt jm (Go.Sort.swp dj j jm) = d2) := Lib.hid (fun h => by rw [← hsh, hj]; rw [hj] at h; exact (sd_go h).symm)
                      have HEND : Hid (decide (dj[j]! < dj[jm]!) = false → dj = d2) := Lib.hid (fun h => by rw [← hsh, hj]; rw [hj] at h; exact (sd_stop h).symm)
                      have HSW := Lib.hid (fun nq => ((HU.out.drewN nq).swp (i := j) (j := jm) (by have := HDN.out; have := HBD.out; omega) (by have := HDN.out; have := HBD.out; omega)).drew)
                      have b0 : (j : Int) < (n : Int) := by have := HBD.out; omega
                      have b1 : (jm : Int) < (n : Int) := by have := HBD.out; omega
                      have c0 : (0 : Int) ≤ (j : Int) := by omega
                      have c1 : (0 : Int) ≤ (jm : Int) := by omega
                      have hne : ¬ j = jm := by omega
                      have hne2 : ¬ jm = j := by omega
                      have HJ : Hid (jm ≤ Km ∧ j = jm + 1) := Lib.hid (by omega)
                      have ej : IntKind.i64.wrap ((j : Int) - 1) = (jm : Int) := by have := HB.out; have := HBD.out; rw [IntKind.wrap_i64]; omega
                      have hszs : (Go.Sort.swp dj j jm).size = n := by rw [Go.Sort.swp_size]; exact HDN.out
                      have HSZ := Lib.hid hszs
                      clear hU hj1 hdn hsh hj hszs
                      generalize Go.Sort.swp dj j jm = ds at *
                      generalize dj[j]! = y0 at *
                      generalize dj[jm]! = y1 at *
                      cases hlt : decide (y0 < y1) with
                      | false =>
                        have HLT := Lib.hid hlt
                        have HN := Lib.hid (HEND.out hlt)
                        clear hlt HGO HEND HSW
                        go_upto_region 16 with fail
                        go_quiet ((go_at_call 140; exact Calls.quiet_of_same (less_t HLT.out _)))
                        go_wp2_with fail
                        go_meet
                        rw [← HN.out]
                        exact ⟨HDN.out, HU.out.drewN _⟩
                      | true =>
                        have HLT := Lib.hid hlt
                        have HN := Lib.hid (HGO.out hlt)
                        clear hlt HGO HEND HU
                        go_upto_region 16 with fail
                        go_quiet ((go_at_call 140; exact Calls.quiet_of_same (less_t HLT.out _)))
                        have HS2 := Lib.hid (HSW.out nq)
                        have z0 : (wr.drewN nq).cell? ⟨g, j, none⟩ = some (.int .u64 y0) := x0
                        have z1 : (wr.drewN nq).cell? ⟨g, jm, none⟩ = some (.int .u64 y1) := x1
                        have hf : ∀ o, (wr.drewN nq).frozen? ⟨g, o, none⟩ = false := hf
                        clear x0 x1 HSW
                        generalize wr.drewN nq = wx at *
                        go_upto_region 17 with fail
                        go_region
                        go_wp2_with fail
                        go_roundw
                        case rel => exact ⟨jm, ds, rfl, HJ.out.1, HSZ.out, HN.out, HS2.out⟩
                        case measure => clear ej; have := HJ.out; simp [intOf]; omega
                · have h2' : decide ((2 : Int) ≤ ((K - a : Nat) : Int)) = false := decide_eq_false (by omega)
                  have h2'' : ¬ (2 : Int) ≤ ((K - a : Nat) : Int) := of_decide_eq_false h2'
                  have HD := Lib.hid (HD2.out.2 h2)
                  clear HD2 h2
                  generalize K - a = ka at *
                  go_wp2_with fail
                  go_meet
                  rw [← HD.out]
                  exact ⟨HDN.out, HU.out⟩
              case rest =>
                clear HU HDN HD2 hKa eK
                obtain ⟨hs2, hU⟩ := hcut
                have HU := Lib.hid hU
                have HDN := Lib.hid hs2
                obtain ⟨K1, hK1⟩ : ∃ K1, K1 = K + 1 := ⟨_, rfl⟩
                have HD3 : Hid ((2 ≤ b - K → ∀ d3, Go.Sort.shiftUp Go.Sort.ltInt b K1 d2 = d3 → Go.Sort.partialIns Go.Sort.ltInt a b (5 - (s + 1)) K d3 = R) ∧ (¬ 2 ≤ b - K → Go.Sort.partialIns Go.Sort.ltInt a b (5 - (s + 1)) K d2 = R)) := Lib.hid (by
                  have h := HR.out
                  unfold Go.Sort.fixUp at h
                  exact ⟨fun e d3 e2 => by rw [if_pos e] at h; rw [← e2, hK1]; exact h, fun e => by rw [if_neg e] at h; exact h⟩)
                have hbK : IntKind.i64.wrap ((b : Int) - (K : Int)) = ((b - K : Nat) : Int) := by have := HKB2.out; have := HB.out; rw [IntKind.wrap_i64]; omega
                have HBK := Lib.hid hbK
                clear hbK
                have eK1 : IntKind.i64.wrap ((K : Int) + 1) = (K1 : Int) := by have := HKB2.out; have := HB.out; rw [IntKind.wrap_i64]; omega
                have EK1 := Lib.hid eK1
                clear eK1
                have HK1 := Lib.hid hK1
                clear hU hs2 HR hK1
                by_cases h2 : 2 ≤ b - K
                · have h2' : (2 : Int) ≤ ((b - K : Nat) : Int) := by omega
                  obtain ⟨d3, hd3⟩ : ∃ d3, d3 = Go.Sort.shiftUp Go.Sort.ltInt b K1 d2 := ⟨_, rfl⟩
                  have HFIN := Lib.hid (HD3.out.1 h2 d3 hd3.symm)
                  have HZ : Hid (SuR w g n b K1 d3 tl (.int .i64 ((K1 : Nat) : Int)) wc) := Lib.hid ⟨K1, d2, rfl, Nat.le_refl _, by have := HKB2.out; have := HK1.out; omega, HDN.out, hd3.symm, HU.out⟩
                  clear HU HDN HD3 h2 hd3
                  have hbK := HBK.out
                  have eK1 := EK1.out
                  clear HBK EK1
                  generalize b - K = bk at *
                  go_wp2_with fail
                  clear hbK h2' eK1
                  go_loopw [10] (fun u wr => SuR w g n b K1 d3 tl u wr) (fun u _ => ((b : Int) - intOf u).toNat)
                  case atStart => exact HZ.out
                  case round =>
                    clear HZ
                    obtain ⟨j, dj, rfl, hj1, hj2, hdn, hsh, hU⟩ := hrel
                    have HU := Lib.hid hU
                    have HDN := Lib.hid hdn
                    by_cases hjb : j < b
                    · obtain ⟨jm, hjm⟩ : ∃ jm, jm = j - 1 := ⟨_, rfl⟩
                      have hj' : (j : Int) < (b : Int) := by omega
                      have x0 := HU.out.r.cell (i := j) (by have := HDN.out; have := HB.out; omega)
                      have x1 := HU.out.r.cell (i := jm) (by have := HDN.out; have := HB.out; omega)
                      have hf := HU.out.r.frozen
                      have HGO : Hid (decide (dj[j]! < dj[jm]!) = true → Go.Sort.shiftUp Go.Sort.ltInt b (j + 1) (Go.Sort.swp dj j jm) = d3) := Lib.hid (fun h => by rw [← hsh, hjm]; rw [hjm] at h; exact (su_go hjb h).symm)
                      have HEND : Hid (decide (dj[j]! < dj[jm]!) = false → dj = d3) := Lib.hid (fun h => by rw [← hsh]; rw [hjm] at h; exact (su_stop hjb h).symm)
                      have HJ : Hid (K1 ≤ j ∧ j < b ∧ j = jm + 1) := Lib.hid (by have := HK1.out; omega)
                      have HSW := Lib.hid (fun nq => ((HU.out.drewN nq).swp (i := j) (j := jm) (by have := HDN.out; have := HB.out; omega) (by have := HDN.out; have := HB.out; omega)).drew)
                      have b0 : (j : Int) < (n : Int) := by have := HB.out; omega
                      have b1 : (jm : Int) < (n : Int) := by have := HB.out; omega
                      have c0 : (0 : Int) ≤ (j : Int) := by omega
                      have c1 : (0 : Int) ≤ (jm : Int) := by omega
                      have hne : ¬ j = jm := by have := HJ.out; omega
                      have hne2 : ¬ jm = j := by have := HJ.out; omega
                      have EJ : Hid (wrap64 ((j : Int) + 1) = ((j + 1 : Nat) : Int)) := Lib.hid (Sou.w64n rfl (by have := HB.out; omega))
                      have ej : IntKind.i64.wrap ((j : Int) - 1) = (jm : Int) := by have := HB.out; have := HJ.out; rw [IntKind.wrap_i64]; omega
                      have hszs : (Go.Sort.swp dj j jm).size = n := by rw [Go.Sort.swp_size]; exact HDN.out
                      have HSZ := Lib.hid hszs
                      clear hU hj1 hj2 hdn hsh hjm hszs hjb
                      generalize Go.Sort.swp dj j jm = ds at *
                      generalize dj[j]! = y0 at *
                      generalize dj[jm]! = y1 at *
                      cases hlt : decide (y0 < y1) with
                      | false =>
                        have HLT := Lib.hid hlt
                        have HN := Lib.hid (HEND.out hlt)
                        clear hlt HGO HEND HSW
                        go_upto_region 22 with fail
                        go_quiet ((go_at_call 140; exact Calls.quiet_of_same (less_t HLT.out _)))
                        have es := ES.out
                        clear ES
                        go_wp2_with fail
                        go_roundw
                        case rel => exact ⟨s + 1, K, dj, by have := HKB2.out; omega, rfl, rfl, by have := HKB2.out; omega, by have := HKB2.out; omega, HDN.out, by rw [HN.out]; exact HFIN.out, HU.out.drewN _⟩
                        case measure => clear es ej; have := HKB2.out; simp [intOf]; omega
                      | true =>
                        have HLT := Lib.hid hlt
                        have HN := Lib.hid (HGO.out hlt)
                        clear hlt HGO HEND HU
                        go_upto_region 22 with fail
                        go_quiet ((go_at_call 140; exact Calls.quiet_of_same (less_t HLT.out _)))
                        have HS2 := Lib.hid (HSW.out nq)
                        have z0 : (wr.drewN nq).cell? ⟨g, j, none⟩ = some (.int .u64 y0) := x0
                        have z1 : (wr.drewN nq).cell? ⟨g, jm, none⟩ = some (.int .u64 y1) := x1
                        have hf : ∀ o, (wr.drewN nq).frozen? ⟨g, o, none⟩ = false := hf
                        clear x0 x1 HSW
                        generalize wr.drewN nq = wx at *
                        go_upto_region 23 with fail
                        go_region
                        go_wp2_with fail
                        go_roundw
                        case rel => rw [EJ.out]; exact ⟨j + 1, ds, rfl, by have := HJ.out; omega, by have := HJ.out; omega, HSZ.out, HN.out, HS2.out⟩
                        case measure => rw [EJ.out]; clear ej; have := HJ.out; simp [intOf]; omega
                    · have hj' : ¬ (j : Int) < (b : Int) := by omega
                      have HN := Lib.hid ((su_end (d := dj) hjb).symm.trans hsh)
                      clear hU hj1 hj2 hdn hsh hjb
                      have es := ES.out
                      clear ES
                      go_wp2_with fail
                      go_roundw
                      case rel => exact ⟨s + 1, K, dj, by have := HKB2.out; omega, rfl, rfl, by have := HKB2.out; omega, by have := HKB2.out; omega, HDN.out, by rw [HN.out]; exact HFIN.out, HU.out⟩
                      case measure => clear es; have := HKB2.out; simp [intOf]; omega
                · have h2' : decide ((2 : Int) ≤ ((b - K : Nat) : Int)) = false := decide_eq_false (by omega)
                  have h2'' : ¬ (2 : Int) ≤ ((b - K : Nat) : Int) := of_decide_eq_false h2'
                  have HFIN := Lib.hid (HD3.out.2 h2)
                  clear HD3 h2 EK1
                  have hbK := HBK.out
                  clear HBK
                  generalize b - K = bk at *
                  have es := ES.out
                  clear ES
                  go_wp2_with fail
                  go_roundw
                  case rel => exact ⟨s + 1, K, d2, by have := HKB2.out; omega, rfl, rfl, by have := HKB2.out; omega, by have := HKB2.out; omega, HDN.out, HFIN.out, HU.out⟩
                  case measure => clear es hbK; have := HKB2.out; simp [intOf]; omega
    · obtain rfl : s = 5 := by omega
      have HR := Lib.hid (pi_out a b i dk R hR)
      clear hU hdn hR hi1 hi2 hs5 hs
      go_wp2_with fail
      go_ret
      rw [HR.out]
      exact ⟨rfl, HU.out⟩
end Go.Proofs.YtlahficmkfgooaaGreat
