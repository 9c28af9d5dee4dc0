import Derived.Test.YtlahficmkfgooaaGreatCodeN

/- The walks of what says whether a program has its form: 'May'. No condition but that numbers fit their kinds and that rows are not too long. -/
namespace Go.Proofs.YtlahficmkfgooaaGreat
open Go.RowKit Cd
set_option linter.unusedVariables false
set_option maxHeartbeats 400000 in
theorem mayop_any (o : OpV) (ho : OkO o) (w : World) : Calls Tryz.prog 130 #[.agg (opA o)] w fun e w' => e = .returned (.bool (!formB o)) ∧ Below w.heap.size w w' := by
  have HF := Lib.hid (formed_any o ho (w.alloc (.cells (opA o) 170)))
  have HB := Lib.hid ((Below.refl _ w).alloc (Nat.le_refl _) (.cells (opA o) 170))
  clear ho
  generalize formB o = r at *
  obtain ⟨k, d, a, b, n⟩ := o
  simp only [opA] at HF HB ⊢
  cases r with
  | false =>
    go_enter Tryz.func130, Tryz.ntmps130
    go_wp2_with (go_at_call 131; ((with_reducible refine HF.out.mono ?_); rintro e w1 ⟨rfl, b1⟩))
    go_ret
    exact ⟨rfl, HB.out.step b1⟩
  | true =>
    go_enter Tryz.func130, Tryz.ntmps130
    go_wp2_with (go_at_call 131; ((with_reducible refine HF.out.mono ?_); rintro e w1 ⟨rfl, b1⟩))
    go_ret
    exact ⟨rfl, HB.out.step b1⟩
def badO (l : List OpV) : Bool := l.any fun o => !formB o
theorem badO_take {l : List OpV} {i : Nat} (h : i < l.length) : badO (l.take (i + 1)) = (badO (l.take i) || !formB l[i]) := by
  unfold badO; rw [List.take_succ_eq_append_getElem h, List.any_append]; simp
theorem badO_of {l : List OpV} {i : Nat} (h : i < l.length) (e : formB l[i] = false) : badO l = true := by
  unfold badO; rw [List.any_eq_true]; exact ⟨_, List.getElem_mem h, by simp [e]⟩
theorem badO_not (l : List OpV) : badO l = !l.all formB := by
  unfold badO; induction l with
  | nil => rfl
  | cons x l ih => simp only [List.any_cons, List.all_cons, ih]; cases formB x <;> simp
def IxRel {α : Type} (l : List α) (bad : List α → Bool) (w : World) (u : Value) (wr : World) : Prop := ∃ i : Nat, i ≤ l.length ∧ u = .int .i64 i ∧ bad (l.take i) = false ∧ Below w.heap.size w wr
set_option maxRecDepth 100000 in
set_option maxHeartbeats 1000000 in
theorem cidxO_any {l : List OpV} {w : World} {v : Value} (hv : OpsAt w v l) (hn : l.length < 1099511627776) (ho : ∀ o ∈ l, OkO o) :
    Calls Tryz.prog 149 #[v, .func (.func 130) #[] #[]] w fun e w' => (∃ r : Int, e = .returned (.int .i64 r) ∧ decide (0 ≤ r) = badO l) ∧ Below w.heap.size w w' := by
  obtain ⟨p, cap, rfl, hS⟩ := hv
  have HS := Lib.hid hS
  have HO := Lib.hid ho
  clear hS ho
  go_enter Tryz.func149, Tryz.ntmps149
  go_wp2
  go_loopw [8] (fun u wr => IxRel l badO w u wr) (fun u _ => ((l.length : Int) - intOf u).toNat)
  case atStart => exact ⟨0, by omega, rfl, rfl, Below.refl _ _⟩
  case round =>
    obtain ⟨k, hk1, rfl, hno, hb⟩ := hrel
    by_cases hk : k < l.length
    · obtain ⟨g, off, rfl, hg, hx⟩ := HS.out (by omega)
      have HR := Lib.hid (mayop_any l[k] (HO.out _ (List.getElem_mem hk)) wr)
      have x0 := hx k hk 0 (by omega)
      have x1 := hx k hk 1 (by omega)
      have x2 := hx k hk 2 (by omega)
      have x3 := hx k hk 3 (by omega)
      have x4 := hx k hk 4 (by omega)
      rw [← hb.cell (p := ⟨g, _, none⟩) hg] at x0 x1 x2 x3 x4
      have hof := fun e => badO_of hk e
      have htk := badO_take hk
      rw [hno] at htk
      have HB := Lib.hid hb
      clear hx hb hno
      generalize l[k] = o at *
      obtain ⟨ok, od, oa, ob, on⟩ := o
      simp only [opA] at x0 x1 x2 x3 x4 HR
      simp at x0 x1 x2 x3 x4
      cases he : formB ⟨ok, od, oa, ob, on⟩ with
      | false =>
        have hh := hof he
        rw [he] at HR
        clear he hof htk
        go_wp2_with (go_at_call 130; ((with_reducible refine HR.out.mono ?_); rintro e w' ⟨rfl, b1⟩))
        go_ret
        exact ⟨⟨k, rfl, by rw [hh]; simp⟩, HB.out.trans (b1.mono HB.out.size)⟩
      | true =>
        rw [he] at HR htk
        clear he hof
        go_wp2_with (go_at_call 130; ((with_reducible refine HR.out.mono ?_); rintro e w' ⟨rfl, b1⟩))
        go_roundw
        case rel => exact ⟨k + 1, by omega, rfl, htk, HB.out.trans (b1.mono HB.out.size)⟩
        case measure => simp [intOf]; omega
    · have : k = l.length := by omega
      subst this
      rw [List.take_length] at hno
      go_wp2
      go_ret
      exact ⟨⟨-1, rfl, by rw [hno]; rfl⟩, hb⟩
set_option maxHeartbeats 400000 in
theorem cconO_any {l : List OpV} {w : World} {v : Value} (hv : OpsAt w v l) (hn : l.length < 1099511627776) (ho : ∀ o ∈ l, OkO o) :
    Calls Tryz.prog 129 #[v, .func (.func 130) #[] #[]] w fun e w' => e = .returned (.bool (badO l)) ∧ Below w.heap.size w w' := by
  have HI := Lib.hid (cidxO_any hv hn ho)
  obtain ⟨p, cap, rfl, hS⟩ := hv
  clear hS ho
  go_enter Tryz.func129, Tryz.ntmps129
  go_wp2_with (go_at_call 149; ((with_reducible refine HI.out.mono ?_); rintro e w' ⟨⟨r, rfl, hr⟩, b1⟩))
  go_ret
  exact ⟨by show Ending.returned (.bool _) = _; rw [← hr], b1⟩
end Go.Proofs.YtlahficmkfgooaaGreat


/- The walk of 'May'. No condition but that numbers fit their kinds and that rows are not too long. -/
namespace Go.Proofs.YtlahficmkfgooaaGreat
open Go.RowKit Cd
set_option linter.unusedVariables false
theorem funB_eq (f : FunV) : funB f = ((regB f.args && regB f.regs) && decide (f.ops.length ≤ 64) && !badO f.ops) := by
  unfold funB; rw [badO_not]; simp
set_option maxRecDepth 100000 in
set_option maxHeartbeats 1000000 in
theorem mayfun_any (f : FunV) (hok : OkF f) (hl : f.ops.length ≤ 200) {w : World} {v : Value} (hv : OpsAt w v f.ops) :
    Calls Tryz.prog 127 #[.agg #[.int .i64 f.args, .int .i64 f.regs, v]] w fun e w' => e = .returned (.bool (!funB f)) ∧ Below w.heap.size w w' := by
  have HV := Lib.hid (fun (x y : Obj) => cconO_any ((hv.alloc x).alloc y) (by omega) hok.2.2)
  have HG := fun w => @creg2_any f.args f.regs w
  have HB := Lib.hid (((Below.refl _ w).alloc (Nat.le_refl _) (.cells #[.int .i64 f.args, .int .i64 f.regs, v] 168)).alloc (by simp) (.cells #[.int .i64 f.args, .int .i64 f.regs] 3))
  have hblk : Blk ((w.alloc (.cells #[.int .i64 f.args, .int .i64 f.regs, v] 168)).alloc (.cells #[.int .i64 f.args, .int .i64 f.regs] 3)) (w.heap.size + 1) 3 #[.int .i64 f.args, .int .i64 f.regs] := by
    have := Blk.new (w.alloc (.cells #[.int .i64 f.args, .int .i64 f.regs, v] 168)) 3 #[.int .i64 f.args, .int .i64 f.regs]
    simpa using this
  have hfe := funB_eq f
  obtain ⟨p, cap, rfl, hz⟩ := hv
  clear hz
  clear hok
  cases hrg : (regB f.args && regB f.regs) with
  | false =>
    rw [hrg] at HG hfe
    rw [hfe]
    clear hrg hfe
    generalize f.args = fa at *
    generalize f.regs = fr at *
    generalize f.ops.length = fl at *
    go_enter Tryz.func127, Tryz.ntmps127
    go_wp2_with (go_at_call 128; ((with_reducible refine (HG _ hblk).mono ?_); rintro e w' ⟨rfl, rfl⟩))
    go_ret
    exact ⟨by simp, HB.out⟩
  | true =>
    rw [hrg] at HG hfe
    by_cases h64 : 64 < f.ops.length
    · have e : decide (f.ops.length ≤ 64) = false := by simp; omega
      rw [e] at hfe
      rw [hfe]
      have h64' : (64 : Int) < (f.ops.length : Int) := by omega
      clear hrg hfe h64 e
      generalize f.args = fa at *
      generalize f.regs = fr at *
      generalize f.ops.length = fl at *
      go_enter Tryz.func127, Tryz.ntmps127
      go_wp2_with (go_at_call 128; ((with_reducible refine (HG _ hblk).mono ?_); rintro e w' ⟨rfl, rfl⟩))
      go_ret
      exact ⟨by simp, HB.out⟩
    · have e : decide (f.ops.length ≤ 64) = true := by simp; omega
      rw [e] at hfe
      rw [hfe]
      have h64' : decide ((64 : Int) < (f.ops.length : Int)) = false := decide_eq_false (by omega)
      clear hrg hfe h64 e
      generalize badO f.ops = bad at *
      generalize f.args = fa at *
      generalize f.regs = fr at *
      generalize f.ops.length = fl at *
      go_enter Tryz.func127, Tryz.ntmps127
      go_wp2_with (first | (go_at_call 128; ((with_reducible refine (HG _ hblk).mono ?_); rintro e w' ⟨rfl, rfl⟩)) | (go_at_call 129; ((with_reducible refine (HV.out _ _).mono ?_); rintro e w1 ⟨rfl, b1⟩)))
      go_ret
      exact ⟨by simp, HB.out.step b1⟩
def badF (l : List FunV) : Bool := l.any fun f => !funB f
theorem badF_take {l : List FunV} {i : Nat} (h : i < l.length) : badF (l.take (i + 1)) = (badF (l.take i) || !funB l[i]) := by
  unfold badF; rw [List.take_succ_eq_append_getElem h, List.any_append]; simp
theorem badF_of {l : List FunV} {i : Nat} (h : i < l.length) (e : funB l[i] = false) : badF l = true := by
  unfold badF; rw [List.any_eq_true]; exact ⟨_, List.getElem_mem h, by simp [e]⟩
theorem badF_not (l : List FunV) : badF l = !l.all funB := by
  unfold badF; induction l with
  | nil => rfl
  | cons x l ih => simp only [List.any_cons, List.all_cons, ih]; cases funB x <;> simp
set_option maxRecDepth 100000 in
set_option maxHeartbeats 1000000 in
theorem cidxF_any {l : List FunV} {w : World} {v : Value} (hv : FunsAt w v l) (hn : l.length < 1099511627776) (ho : OkP l) (hll : ∀ f ∈ l, f.ops.length ≤ 200) :
    Calls Tryz.prog 150 #[v, .func (.func 127) #[] #[]] w fun e w' => (∃ r : Int, e = .returned (.int .i64 r) ∧ decide (0 ≤ r) = badF l) ∧ Below w.heap.size w w' := by
  obtain ⟨p, cap, rfl, hS⟩ := hv
  have HS := Lib.hid hS
  have HO := Lib.hid ho
  have HL := Lib.hid hll
  clear hS ho hll
  go_enter Tryz.func150, Tryz.ntmps150
  go_wp2
  go_loopw [8] (fun u wr => IxRel l badF w u wr) (fun u _ => ((l.length : Int) - intOf u).toNat)
  case atStart => exact ⟨0, by omega, rfl, rfl, Below.refl _ _⟩
  case round =>
    obtain ⟨k, hk1, rfl, hno, hb⟩ := hrel
    by_cases hk : k < l.length
    · obtain ⟨g, off, rfl, hg, hx⟩ := HS.out (by omega)
      obtain ⟨x0, x1, vo, x2, hvo⟩ := hx k hk
      have HR := Lib.hid (mayfun_any l[k] (HO.out _ (List.getElem_mem hk)) (HL.out _ (List.getElem_mem hk)) (hvo.below hb))
      rw [← hb.cell (p := ⟨g, _, none⟩) hg] at x0 x1 x2
      have hof := fun e => badF_of hk e
      have htk := badF_take hk
      rw [hno] at htk
      have HB := Lib.hid hb
      obtain ⟨p2, cap2, rfl⟩ := hvo.slice
      clear hx hb hno hvo
      generalize l[k] = f at *
      cases he : funB f with
      | false =>
        have hh := hof he
        rw [he] at HR
        clear he hof htk
        generalize f.args = fa at *
        generalize f.regs = fr at *
        generalize f.ops.length = fl at *
        go_wp2_with (go_at_call 127; ((with_reducible refine HR.out.mono ?_); rintro e w' ⟨rfl, b1⟩))
        go_ret
        exact ⟨⟨k, rfl, by rw [hh]; simp⟩, HB.out.trans (b1.mono HB.out.size)⟩
      | true =>
        rw [he] at HR htk
        clear he hof
        generalize f.args = fa at *
        generalize f.regs = fr at *
        generalize f.ops.length = fl at *
        go_wp2_with (go_at_call 127; ((with_reducible refine HR.out.mono ?_); rintro e w' ⟨rfl, b1⟩))
        go_roundw
        case rel => exact ⟨k + 1, by omega, rfl, htk, HB.out.trans (b1.mono HB.out.size)⟩
        case measure => simp [intOf]; omega
    · have : k = l.length := by omega
      subst this
      rw [List.take_length] at hno
      go_wp2
      go_ret
      exact ⟨⟨-1, rfl, by rw [hno]; rfl⟩, hb⟩
set_option maxHeartbeats 400000 in
theorem cconF_any {l : List FunV} {w : World} {v : Value} (hv : FunsAt w v l) (hn : l.length < 1099511627776) (ho : OkP l) (hll : ∀ f ∈ l, f.ops.length ≤ 200) :
    Calls Tryz.prog 132 #[v, .func (.func 127) #[] #[]] w fun e w' => e = .returned (.bool (badF l)) ∧ Below w.heap.size w w' := by
  have HI := Lib.hid (cidxF_any hv hn ho hll)
  obtain ⟨p, cap, rfl, hS⟩ := hv
  clear hS ho hll
  go_enter Tryz.func132, Tryz.ntmps132
  go_wp2_with (go_at_call 150; ((with_reducible refine HI.out.mono ?_); rintro e w' ⟨⟨r, rfl, hr⟩, b1⟩))
  go_ret
  exact ⟨by show Ending.returned (.bool _) = _; rw [← hr], b1⟩
set_option maxHeartbeats 1000000 in
theorem may_any {fs : List FunV} {w : World} {v : Value} (hv : FunsAt w v fs) (hn : Lim fs) (ho : OkP fs) :
    Calls Tryz.prog 116 #[.agg #[v]] w fun e w' => e = .returned (.bool (mayB fs)) ∧ Below w.heap.size w w' := by
  have HV := Lib.hid (cconF_any (hv.alloc (.cells #[v] 133)) (by have := hn.1; omega) ho hn.2)
  have HB := Lib.hid ((Below.refl _ w).alloc (Nat.le_refl _) (.cells #[v] 133))
  have e0 : mayB fs = (decide (fs.length ≤ 16) && !badF fs) := by unfold mayB; rw [badF_not]; simp
  rw [e0]
  obtain ⟨p, cap, rfl, hz⟩ := hv
  clear hz
  clear ho hn e0
  generalize badF fs = bad at *
  generalize fs.length = fl at *
  by_cases h : fl ≤ 16
  · have e : decide (fl ≤ 16) = true := decide_eq_true h
    have h' : decide ((fl : Int) ≤ (16 : Int)) = true := decide_eq_true (by omega)
    have h'' : (fl : Int) ≤ 16 := by omega
    rw [e]
    clear e h
    go_enter Tryz.func116, Tryz.ntmps116
    go_wp2_with (go_at_call 132; ((with_reducible refine HV.out.mono ?_); rintro e w' ⟨rfl, b1⟩))
    go_ret
    exact ⟨by simp, HB.out.step b1⟩
  · have e : decide (fl ≤ 16) = false := decide_eq_false h
    have h' : decide ((fl : Int) ≤ (16 : Int)) = false := decide_eq_false (by omega)
    rw [e]
    clear e h
    go_enter Tryz.func116, Tryz.ntmps116
    go_wp2_with fail
    go_ret
    exact ⟨by simp, HB.out⟩
end Go.Proofs.YtlahficmkfgooaaGreat
