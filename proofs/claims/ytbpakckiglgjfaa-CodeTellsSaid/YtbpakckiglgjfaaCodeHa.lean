
/- The walk of the statements' guard: is a program more than they look at? No condition but that rows fit their type. -/
import Derived.Test.YtbpakckiglgjfaaCodeR
namespace Go.Proofs.Ytbpakckiglgjfaa
open Go.RowKit Cd
set_option linter.unusedVariables false
namespace Cd
def longF (l : List FunV) : Bool := l.any fun f => decide (200 < f.ops.length)
def heavyB (l : List FunV) : Bool := decide (60 < l.length) || longF l
theorem heavy_lim {l : List FunV} (h : heavyB l = false) : Lim l := by
  unfold heavyB at h
  rw [Bool.or_eq_false_iff, decide_eq_false_iff_not] at h
  refine ⟨by omega, fun f hf => ?_⟩
  have := h.2
  unfold longF at this
  rw [List.any_eq_false] at this
  have := this f hf
  simp at this; omega
theorem longF_take {l : List FunV} {i : Nat} (h : i < l.length) : longF (l.take (i + 1)) = (longF (l.take i) || decide (200 < l[i].ops.length)) := by
  unfold longF; rw [List.take_succ_eq_append_getElem h, List.any_append]; simp
theorem longF_of {l : List FunV} {i : Nat} (h : i < l.length) (e : 200 < l[i].ops.length) : longF l = true := by
  unfold longF; rw [List.any_eq_true]; exact ⟨_, List.getElem_mem h, by simpa using e⟩
end Cd
set_option maxRecDepth 100000 in
set_option maxHeartbeats 4000000 in
theorem heavy_go {l : List FunV} {W : World} {v : Value} (hv : FunsAt W v l) : Calls Try.prog 9 #[.agg #[v]] W fun e w' => ∃ r : Bool, e = .returned (.bool r) ∧ r = heavyB l ∧ Below W.heap.size W w' := by
  have HB0 := Lib.hid ((Below.refl _ W).alloc (Nat.le_refl _) (.cells #[v] 24))
  have HT1 := Lib.hid (Blk.new W 24 #[v])
  have HV := Lib.hid hv
  obtain ⟨p1, c1, rfl⟩ := hv.slice
  clear hv
  by_cases h60 : 60 < l.length
  · have h60' : (60 : Int) < (l.length : Int) := by omega
    have HE := Lib.hid (show true = heavyB l by unfold heavyB; rw [decide_eq_true h60]; rfl)
    clear h60
    go_enter Try.func9, Try.ntmps9
    go_wp2
    go_ret
    exact ⟨true, rfl, HE.out, HB0.out⟩
  · have h60' : decide ((60 : Int) < (l.length : Int)) = false := decide_eq_false (by omega)
    have HE := Lib.hid (show heavyB l = longF l by unfold heavyB; rw [decide_eq_false h60]; rfl)
    go_enter Try.func9, Try.ntmps9
    go_wp2
    have hz0 : PreRel l longF (W.alloc (.cells #[.slice p1 l.length c1] 24)) (.int .i64 0) (W.alloc (.cells #[.slice p1 l.length c1] 24)) := ⟨0, by omega, rfl, rfl, Below.refl _ _⟩
    clear h60'
    generalize W.alloc (.cells #[.slice p1 l.length c1] 24) = w0 at *
    go_loopw [3] (fun i wr => PreRel l longF w0 i wr) (fun i _ => ((l.length : Int) - intOf i).toNat)
    case atStart => exact hz0
    case round =>
      clear hz0
      obtain ⟨k, hk1, rfl, htk, hb⟩ := hrel
      have HB := Lib.hid hb
      have z0 : wr.cell? ⟨W.heap.size, 0, none⟩ = some (.slice p1 l.length c1) := (HT1.out.below hb).cell 0
      by_cases hk : k < l.length
      · obtain ⟨p1', c1', e1, hx⟩ := HV.out
        injection e1 with e1 e2 e3
        subst e1 e3
        obtain ⟨g1, o1, rfl, hg1, hx⟩ := hx (by omega)
        obtain ⟨x0, x1, vo, x2, hvo⟩ := hx k hk
        have hbW := HB0.out.trans (hb.mono HB0.out.size)
        rw [← hbW.cell (p := ⟨g1, _, none⟩) hg1] at x2
        obtain ⟨p3, c3, rfl⟩ := hvo.slice
        have htk2 := longF_take hk
        have hof := fun e => longF_of hk e
        rw [htk] at htk2
        have hki1 : (k : Int) < (l.length : Int) := by omega
        have hki0 : (0 : Int) ≤ (k : Int) := by omega
        clear hx hb htk hvo hbW x0 x1
        generalize l[k].ops.length = ol at *
        have HOF := Lib.hid hof
        by_cases h2 : 200 < ol
        · have h2' : (200 : Int) < (ol : Int) := by omega
          have HL := Lib.hid (HOF.out h2)
          clear hof htk2 h2
          go_wp2
          go_ret
          first | exact ⟨true, rfl, by rw [HE.out, HL.out], HB0.out.trans (HB.out.mono HB0.out.size)⟩ | exact .inr ⟨rfl, by rw [HE.out, HL.out], HB0.out.trans (HB.out.mono HB0.out.size)⟩
        · have h2' : (ol : Int) ≤ (200 : Int) := by omega
          rw [decide_eq_false h2] at htk2
          have HTK := Lib.hid htk2
          clear hof htk2 h2
          go_wp2
          go_roundw
          case rel => exact ⟨k + 1, by omega, rfl, by rw [HTK.out]; rfl, HB.out⟩
          case measure => simp [intOf]; omega
      · have : k = l.length := by omega
        subst this
        rw [List.take_length] at htk
        have hR := Lib.hid (show false = heavyB l by rw [HE.out, htk])
        clear htk hb
        go_wp2
        go_ret
        first | exact ⟨false, rfl, hR.out, HB0.out.trans (HB.out.mono HB0.out.size)⟩ | exact .inl ⟨rfl, hR.out.symm, HB0.out.trans (HB.out.mono HB0.out.size)⟩
theorem heavy_any {l : List FunV} {W : World} {v : Value} (hv : FunsAt W v l) : Calls Try.prog 9 #[.agg #[v]] W fun e w' => e = .returned (.bool (heavyB l)) ∧ Below W.heap.size W w' :=
  (heavy_go hv).mono fun e w' ⟨r, he, hr, hb⟩ => ⟨by rw [he, hr], hb⟩
end Go.Proofs.Ytbpakckiglgjfaa
