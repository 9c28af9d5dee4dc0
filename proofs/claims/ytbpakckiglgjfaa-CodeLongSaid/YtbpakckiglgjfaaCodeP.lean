
/- The walks of what says whether a program has its form: 'May'. No condition but that numbers fit their kinds and that rows are not too long. -/
import Derived.Test.YtbpakckiglgjfaaCodeN
namespace Go.Proofs.Ytbpakckiglgjfaa
open Go.RowKit Cd
set_option linter.unusedVariables false
set_option maxHeartbeats 400000 in
theorem mayop_any (o : OpV) (ho : OkO o) (w : World) : Calls Try.prog 27 #[.agg (opA o)] w fun e w' => e = .returned (.bool (!formB o)) ∧ Below w.heap.size w w' := by
  have HF := Lib.hid (formed_any o ho (w.alloc (.cells (opA o) 43)))
  have HB := Lib.hid ((Below.refl _ w).alloc (Nat.le_refl _) (.cells (opA o) 43))
  clear ho
  generalize formB o = r at *
  obtain ⟨k, d, a, b, n⟩ := o
  simp only [opA] at HF HB ⊢
  cases r with
  | false =>
    go_enter Try.func27, Try.ntmps27
    go_wp2_with (go_at_call 28; ((with_reducible refine HF.out.mono ?_); rintro e w1 ⟨rfl, b1⟩))
    go_ret
    exact ⟨rfl, HB.out.step b1⟩
  | true =>
    go_enter Try.func27, Try.ntmps27
    go_wp2_with (go_at_call 28; ((with_reducible refine HF.out.mono ?_); rintro e w1 ⟨rfl, b1⟩))
    go_ret
    exact ⟨rfl, HB.out.step b1⟩
def badO (l : List OpV) : Bool := l.any fun o => !formB o
theorem badO_take {l : List OpV} {i : Nat} (h : i < l.length) : badO (l.take (i + 1)) = (badO (l.take i) || !formB l[i]) := by
  unfold badO; rw [List.take_succ_eq_append_getElem h, List.any_append]; simp
theorem badO_of {l : List OpV} {i : Nat} (h : i < l.length) (e : formB l[i] = false) : badO l = true := by
  unfold badO; rw [List.any_eq_true]; exact ⟨_, List.getElem_mem h, by simp [e]⟩
theorem badO_not (l : List OpV) : badO l = !l.all formB := by
  unfold badO; induction l with
  | nil => rfl
  | cons x l ih => simp only [List.any_cons, List.all_cons, ih]; cases formB x <;> simp
def IxRel {α : Type} (l : List α) (bad : List α → Bool) (w : World) (u : Value) (wr : World) : Prop := ∃ i : Nat, i ≤ l.length ∧ u = .int .i64 i ∧ bad (l.take i) = false ∧ Below w.heap.size w wr
set_option maxRecDepth 100000 in
set_option maxHeartbeats 1000000 in
theorem cidxO_any {l : List OpV} {w : World} {v : Value} (hv : OpsAt w v l) (hn : l.length < 1099511627776) (ho : ∀ o ∈ l, OkO o) :
    Calls Try.prog 55 #[v, .func (.func 27) #[] #[]] w fun e w' => (∃ r : Int, e = .returned (.int .i64 r) ∧ decide (0 ≤ r) = badO l) ∧ Below w.heap.size w w' := by
  obtain ⟨p, cap, rfl, hS⟩ := hv
  have HS := Lib.hid hS
  have HO := Lib.hid ho
  clear hS ho
  go_enter Try.func55, Try.ntmps55
  go_wp2
  go_loopw [8] (fun u wr => IxRel l badO w u wr) (fun u _ => ((l.length : Int) - intOf u).toNat)
  case atStart => exact ⟨0, by omega, rfl, rfl, Below.refl _ _⟩
  case round =>
    obtain ⟨k, hk1, rfl, hno, hb⟩ := hrel
    by_cases hk : k < l.length
    · obtain ⟨g, off, rfl, hg, hx⟩ := HS.out (by omega)
      have HR := Lib.hid (mayop_any l[k] (HO.out _ (List.getElem_mem hk)) wr)
      have x0 := hx k hk 0 (by omega)
      have x1 := hx k hk 1 (by omega)
      have x2 := hx k hk 2 (by omega)
      have x3 := hx k hk 3 (by omega)
      have x4 := hx k hk 4 (by omega)
      rw [← hb.cell (p := ⟨g, _, none⟩) hg] at x0 x1 x2 x3 x4
      have hof := fun e => badO_of hk e
      have htk := badO_take hk
      rw [hno] at htk
      have HB := Lib.hid hb
      clear hx hb hno
      generalize l[k] = o at *
      obtain ⟨ok, od, oa, ob, on⟩ := o
      simp only [opA] at x0 x1 x2 x3 x4 HR
      simp at x0 x1 x2 x3 x4
      cases he : formB ⟨ok, od, oa, ob, on⟩ with
      | false =>
        have hh := hof he
        rw [he] at HR
        clear he hof htk
        go_wp2_with (go_at_call 27; ((with_reducible refine HR.out.mono ?_); rintro e w' ⟨rfl, b1⟩))
        go_ret
        exact ⟨⟨k, rfl, by rw [hh]; simp⟩, HB.out.trans (b1.mono HB.out.size)⟩
      | true =>
        rw [he] at HR htk
        clear he hof
        go_wp2_with (go_at_call 27; ((with_reducible refine HR.out.mono ?_); rintro e w' ⟨rfl, b1⟩))
        go_roundw
        case rel => exact ⟨k + 1, by omega, rfl, htk, HB.out.trans (b1.mono HB.out.size)⟩
        case measure => simp [intOf]; omega
    · have : k = l.length := by omega
      subst this
      rw [List.take_length] at hno
      go_wp2
      go_ret
      exact ⟨⟨-1, rfl, by rw [hno]; rfl⟩, hb⟩
set_option maxHeartbeats 400000 in
theorem cconO_any {l : List OpV} {w : World} {v : Value} (hv : OpsAt w v l) (hn : l.length < 1099511627776) (ho : ∀ o ∈ l, OkO o) :
    Calls Try.prog 26 #[v, .func (.func 27) #[] #[]] w fun e w' => e = .returned (.bool (badO l)) ∧ Below w.heap.size w w' := by
  have HI := Lib.hid (cidxO_any hv hn ho)
  obtain ⟨p, cap, rfl, hS⟩ := hv
  clear hS ho
  go_enter Try.func26, Try.ntmps26
  go_wp2_with (go_at_call 55; ((with_reducible refine HI.out.mono ?_); rintro e w' ⟨⟨r, rfl, hr⟩, b1⟩))
  go_ret
  exact ⟨by show Ending.returned (.bool _) = _; rw [← hr], b1⟩
end Go.Proofs.Ytbpakckiglgjfaa
