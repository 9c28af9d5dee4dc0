import Derived.Test.YtpidhcogaoehhaaChkC
import Derived.BigQuiet
import Derived.Test.YtpidhcogaoehhaaCodeN

/- The walks of 'May' and 'Input'. No condition but that rows are not too long and numbers fit their kinds. -/
namespace Go.Proofs.Ytpidhcogaoehhaa
open Go.RowKit Cd
set_option linter.unusedVariables false
set_option linter.unusedSimpArgs false
theorem look_cons {l : List FunV} {fn op : Nat} (h : lookE l = (0, fn, op)) : 0 < l.length := by
  rcases Nat.eq_zero_or_pos l.length with h0 | h0
  · have : l = [] := List.eq_nil_of_length_eq_zero h0
    subst this
    exfalso
    have h2 : lookE [] = (110, 0, 0) := rfl
    rw [h2] at h
    injection h with h _
    exact absurd h (by decide)
  · exact h0
def CMayPost (W : World) (l : List FunV) (e : Ending) (w' : World) : Prop := ∃ (c : Int) (fn op : Nat), e = .returned (.tuple #[.int .i64 c, .int .i64 fn, .int .i64 op]) ∧ lookE l = (c, fn, op) ∧ Below W.heap.size W w'
set_option maxRecDepth 100000 in
set_option maxHeartbeats 2000000 in
theorem cmay_any {W : World} {x : Value} {l : List FunV} (hx : FunsAt W x l) (hl : Lim l) (ho : OkP l) : Calls Try.prog 7 #[.agg #[x]] W (CMayPost W l) := by
  have HB := Lib.hid ((Below.refl _ W).alloc (Nat.le_refl _) (.cells #[x] 24))
  have HK := Lib.hid (look_any (hx.alloc (.cells #[x] 24)) hl ho)
  obtain ⟨p, cap, rfl⟩ := hx.slice
  clear hx hl ho
  go_enter Try.func7, Try.ntmps7
  go_upto_region 2 with (go_at_call 18; ((with_reducible refine HK.out.mono ?_); rintro e w1 ⟨c, fn, op, rfl, hE, b1⟩; have HB1 := Lib.hid (HB.out.step b1); have HE := Lib.hid hE; clear b1 hE))
  have HB2 := Lib.hid (HB1.out.alloc HB1.out.size (.cells #[.int .i64 c, .int .i64 (fn : Nat), .int .i64 (op : Nat)] 52))
  have hX := Blk.new w1 52 #[.int .i64 c, .int .i64 (fn : Nat), .int .i64 (op : Nat)]
  have c0 : (w1.alloc (.cells #[.int .i64 c, .int .i64 (fn : Nat), .int .i64 (op : Nat)] 52)).cell? ⟨w1.heap.size, 0, none⟩ = some (.int .i64 c) := hX.cell 0
  have c1 : (w1.alloc (.cells #[.int .i64 c, .int .i64 (fn : Nat), .int .i64 (op : Nat)] 52)).cell? ⟨w1.heap.size, 1, none⟩ = some (.int .i64 (fn : Nat)) := hX.cell 1
  have c2 : (w1.alloc (.cells #[.int .i64 c, .int .i64 (fn : Nat), .int .i64 (op : Nat)] 52)).cell? ⟨w1.heap.size, 2, none⟩ = some (.int .i64 (op : Nat)) := hX.cell 2
  clear hX HB HB1 HK
  generalize w1.alloc (.cells #[.int .i64 c, .int .i64 (fn : Nat), .int .i64 (op : Nat)] 52) = w2 at *
  generalize w1.heap.size = X at *
  go_region
  all_goals go_wp2_with fail
  all_goals go_ret3
  all_goals exact ⟨_, _, _, rfl, HE.out, HB2.out.drew⟩
def inE (l : List FunV) (m : Nat) : Int := if (lookE l).1 ≠ 0 then (lookE l).1 else if (m : Int) ≠ argsAt l 0 then 114 else 0
set_option maxRecDepth 100000 in
set_option maxHeartbeats 2000000 in
theorem cinput_any {W : World} {x : Value} {l : List FunV} {q : Option Addr} {m cq : Nat} (hx : FunsAt W x l) (hl : Lim l) (ho : OkP l) : Calls Try.prog 9 #[.agg #[x], .slice q m cq] W fun e w' => ∃ r : Int, e = .returned (.int .i64 r) ∧ r = inE l m ∧ Below W.heap.size W w' := by
  have HB := Lib.hid ((Below.refl _ W).alloc (Nat.le_refl _) (.cells #[x] 24))
  have HK := Lib.hid (look_any (hx.alloc (.cells #[x] 24)) hl ho)
  have HT := Lib.hid (Blk.new W 24 #[x])
  have HV := Lib.hid hx
  obtain ⟨p, cap, rfl⟩ := hx.slice
  clear hx hl ho
  go_enter Try.func9, Try.ntmps9
  go_upto_region 2 with (go_at_call 18; ((with_reducible refine HK.out.mono ?_); rintro e w1 ⟨c, fn, op, rfl, hE, b1⟩; have HB1 := Lib.hid (HB.out.step b1); have HT1 := Lib.hid (HT.out.below b1); have HE := Lib.hid hE; clear b1 hE))
  have HB2 := Lib.hid (HB1.out.alloc HB1.out.size (.cells #[.int .i64 c, .int .i64 (fn : Nat), .int .i64 (op : Nat)] 52))
  have hX := Blk.new w1 52 #[.int .i64 c, .int .i64 (fn : Nat), .int .i64 (op : Nat)]
  have c0 : (w1.alloc (.cells #[.int .i64 c, .int .i64 (fn : Nat), .int .i64 (op : Nat)] 52)).cell? ⟨w1.heap.size, 0, none⟩ = some (.int .i64 c) := hX.cell 0
  have t0 : (w1.alloc (.cells #[.int .i64 c, .int .i64 (fn : Nat), .int .i64 (op : Nat)] 52)).cell? ⟨W.heap.size, 0, none⟩ = some (.slice p l.length cap) := (HT1.out.alloc _).cell 0
  clear hX HB HB1 HK HT HT1
  generalize w1.alloc (.cells #[.int .i64 c, .int .i64 (fn : Nat), .int .i64 (op : Nat)] 52) = w2 at *
  generalize w1.heap.size = X at *
  by_cases hc : c = 0
  · subst hc
    have hlp := look_cons HE.out
    obtain ⟨p', c', e1, hy⟩ := HV.out
    injection e1 with e1 _ e3
    subst e1 e3
    obtain ⟨g, off, rfl, hg, hy⟩ := hy hlp
    have x0 := (hy 0 hlp).1
    rw [← HB2.out.cell (p := ⟨g, _, none⟩) hg] at x0
    have hA : argsAt l 0 = l[0].args := by unfold argsAt; rw [show (0 : Int).toNat = 0 from rfl, List.getElem?_eq_getElem hlp]; rfl
    have hin : inE l m = if (m : Int) ≠ l[0].args then 114 else 0 := by unfold inE; rw [HE.out, hA]; rfl
    rw [Nat.zero_mul, Nat.add_zero] at x0
    clear hy hA
    generalize l[0].args = A at *
    by_cases hm : (m : Int) = A
    · have hr : inE l m = 0 := by rw [hin, if_neg (by simp [hm])]
      have hm' : ((m : Int) == A) = true := by simpa using hm
      have HR := Lib.hid hr
      clear hin hm hr
      go_wp2_with fail
      go_ret
      exact ⟨_, rfl, HR.out.symm, HB2.out⟩
    · have hr : inE l m = 114 := by rw [hin, if_pos hm]
      have hm' : ((m : Int) == A) = false := by simpa using hm
      have HR := Lib.hid hr
      clear hin hm hr
      go_wp2_with fail
      go_ret
      exact ⟨_, rfl, HR.out.symm, HB2.out⟩
  · have hc' : (c == 0) = false := by simpa using hc
    have hr : inE l m = c := by unfold inE; rw [HE.out, if_pos hc]
    have HR := Lib.hid hr
    clear hr hc
    go_wp2_with fail
    go_ret
    exact ⟨_, rfl, HR.out.symm, HB2.out⟩
end Go.Proofs.Ytpidhcogaoehhaa


/- The walks of the document's answer on whether an op has its form. No condition but that numbers fit their kinds. -/
namespace Go.Proofs.Ytpidhcogaoehhaa
open Go.RowKit Cd
set_option linter.unusedVariables false
theorem rreg_any (x : Int) (w : World) : Calls Try.prog 35 #[.int .i64 x] w fun e w' => e = .returned (.bool (regB x)) ∧ w = w' := by
  by_cases h0 : x < 0
  · have e : regB x = false := by unfold regB; rw [Bool.and_eq_false_iff, decide_eq_false_iff_not]; omega
    have h0' : decide (0 ≤ x) = false := decide_eq_false (by omega)
    rw [e]
    clear e h0
    go_enter Try.func35, Try.ntmps35
    go_wp2
    go_ret
    exact ⟨rfl, rfl⟩
  · have h0' : decide (0 ≤ x) = true := decide_eq_true (by omega)
    by_cases h1 : 16 < x
    · have e : regB x = false := by unfold regB; rw [Bool.and_eq_false_iff, decide_eq_false_iff_not, decide_eq_false_iff_not]; omega
      have h1' : decide (x ≤ 16) = false := decide_eq_false (by omega)
      rw [e]
      clear e h0
      go_enter Try.func35, Try.ntmps35
      go_wp2
      go_ret
      exact ⟨rfl, rfl⟩
    · have e : regB x = true := by simp [regB]; omega
      have h1' : decide (x ≤ 16) = true := decide_eq_true (by omega)
      rw [e]
      clear e h0 h1
      go_enter Try.func35, Try.ntmps35
      go_wp2
      go_ret
      exact ⟨rfl, rfl⟩
def HasT (k : Int) : Value := .tuple #[.bool (kd k), .bool (ka k), .bool (kb k), .bool (kn k)]
theorem ret4 {P : Program} {fn : Func} {R : Ending → World → Prop} {a : Act} {t u v x : Tmp} {w : World} {r : Value} (h : fn.results = #[.tmp t, .tmp u, .tmp v, .tmp x])
    (hr : Value.tuple #[a.tmps.getD t undef, a.tmps.getD u undef, a.tmps.getD v undef, a.tmps.getD x undef] = r) (hd : a.defers = []) (hR : R (.returned r) w) : bodyPost P fn R .ret a w :=
  bodyPost_ret (v := r) (by subst hr; simp [results, h]) hd hR
set_option maxRecDepth 100000 in
set_option maxHeartbeats 8000000 in
theorem rhas_any (k : Int) (hk : U8 k) (w : World) : Calls Try.prog 37 #[.int .u8 k] w fun e w' => e = .returned (HasT k) ∧ w = w' := by
  have : k = 0 ∨ k = 1 ∨ k = 2 ∨ k = 3 ∨ k = 4 ∨ k = 5 ∨ k = 6 ∨ k = 7 ∨ k = 8 ∨ k = 9 ∨ k = 10 ∨ k = 11 ∨ k = 12 ∨ k = 13 ∨ k = 14 ∨ 15 ≤ k := by unfold U8 at hk; omega
  clear hk
  rcases this with rfl | rfl | rfl | rfl | rfl | rfl | rfl | rfl | rfl | rfl | rfl | rfl | rfl | rfl | rfl | h
  · as_aux_lemma =>
    have e : HasT 0 = .tuple #[.bool (kd 0), .bool (ka 0), .bool (kb 0), .bool (kn 0)] := rfl
    simp [kd, ka, kb, kn] at e
    go_enter Try.func37, Try.ntmps37
    go_wp2
    try simp only [Exit.inBlock, Exit.then]
    exact ret4 rfl rfl rfl ⟨congrArg Ending.returned e.symm, rfl⟩
  · as_aux_lemma =>
    have e : HasT 1 = .tuple #[.bool (kd 1), .bool (ka 1), .bool (kb 1), .bool (kn 1)] := rfl
    simp [kd, ka, kb, kn] at e
    go_enter Try.func37, Try.ntmps37
    go_wp2
    try simp only [Exit.inBlock, Exit.then]
    exact ret4 rfl rfl rfl ⟨congrArg Ending.returned e.symm, rfl⟩
  · as_aux_lemma =>
    have e : HasT 2 = .tuple #[.bool (kd 2), .bool (ka 2), .bool (kb 2), .bool (kn 2)] := rfl
    simp [kd, ka, kb, kn] at e
    go_enter Try.func37, Try.ntmps37
    go_wp2
    try simp only [Exit.inBlock, Exit.then]
    exact ret4 rfl rfl rfl ⟨congrArg Ending.returned e.symm, rfl⟩
  · as_aux_lemma =>
    have e : HasT 3 = .tuple #[.bool (kd 3), .bool (ka 3), .bool (kb 3), .bool (kn 3)] := rfl
    simp [kd, ka, kb, kn] at e
    go_enter Try.func37, Try.ntmps37
    go_wp2
    try simp only [Exit.inBlock, Exit.then]
    exact ret4 rfl rfl rfl ⟨congrArg Ending.returned e.symm, rfl⟩
  · as_aux_lemma =>
    have e : HasT 4 = .tuple #[.bool (kd 4), .bool (ka 4), .bool (kb 4), .bool (kn 4)] := rfl
    simp [kd, ka, kb, kn] at e
    go_enter Try.func37, Try.ntmps37
    go_wp2
    try simp only [Exit.inBlock, Exit.then]
    exact ret4 rfl rfl rfl ⟨congrArg Ending.returned e.symm, rfl⟩
  · as_aux_lemma =>
    have e : HasT 5 = .tuple #[.bool (kd 5), .bool (ka 5), .bool (kb 5), .bool (kn 5)] := rfl
    simp [kd, ka, kb, kn] at e
    go_enter Try.func37, Try.ntmps37
    go_wp2
    try simp only [Exit.inBlock, Exit.then]
    exact ret4 rfl rfl rfl ⟨congrArg Ending.returned e.symm, rfl⟩
  · as_aux_lemma =>
    have e : HasT 6 = .tuple #[.bool (kd 6), .bool (ka 6), .bool (kb 6), .bool (kn 6)] := rfl
    simp [kd, ka, kb, kn] at e
    go_enter Try.func37, Try.ntmps37
    go_wp2
    try simp only [Exit.inBlock, Exit.then]
    exact ret4 rfl rfl rfl ⟨congrArg Ending.returned e.symm, rfl⟩
  · as_aux_lemma =>
    have e : HasT 7 = .tuple #[.bool (kd 7), .bool (ka 7), .bool (kb 7), .bool (kn 7)] := rfl
    simp [kd, ka, kb, kn] at e
    go_enter Try.func37, Try.ntmps37
    go_wp2
    try simp only [Exit.inBlock, Exit.then]
    exact ret4 rfl rfl rfl ⟨congrArg Ending.returned e.symm, rfl⟩
  · as_aux_lemma =>
    have e : HasT 8 = .tuple #[.bool (kd 8), .bool (ka 8), .bool (kb 8), .bool (kn 8)] := rfl
    simp [kd, ka, kb, kn] at e
    go_enter Try.func37, Try.ntmps37
    go_wp2
    try simp only [Exit.inBlock, Exit.then]
    exact ret4 rfl rfl rfl ⟨congrArg Ending.returned e.symm, rfl⟩
  · as_aux_lemma =>
    have e : HasT 9 = .tuple #[.bool (kd 9), .bool (ka 9), .bool (kb 9), .bool (kn 9)] := rfl
    simp [kd, ka, kb, kn] at e
    go_enter Try.func37, Try.ntmps37
    go_wp2
    try simp only [Exit.inBlock, Exit.then]
    exact ret4 rfl rfl rfl ⟨congrArg Ending.returned e.symm, rfl⟩
  · as_aux_lemma =>
    have e : HasT 10 = .tuple #[.bool (kd 10), .bool (ka 10), .bool (kb 10), .bool (kn 10)] := rfl
    simp [kd, ka, kb, kn] at e
    go_enter Try.func37, Try.ntmps37
    go_wp2
    try simp only [Exit.inBlock, Exit.then]
    exact ret4 rfl rfl rfl ⟨congrArg Ending.returned e.symm, rfl⟩
  · as_aux_lemma =>
    have e : HasT 11 = .tuple #[.bool (kd 11), .bool (ka 11), .bool (kb 11), .bool (kn 11)] := rfl
    simp [kd, ka, kb, kn] at e
    go_enter Try.func37, Try.ntmps37
    go_wp2
    try simp only [Exit.inBlock, Exit.then]
    exact ret4 rfl rfl rfl ⟨congrArg Ending.returned e.symm, rfl⟩
  · as_aux_lemma =>
    have e : HasT 12 = .tuple #[.bool (kd 12), .bool (ka 12), .bool (kb 12), .bool (kn 12)] := rfl
    simp [kd, ka, kb, kn] at e
    go_enter Try.func37, Try.ntmps37
    go_wp2
    try simp only [Exit.inBlock, Exit.then]
    exact ret4 rfl rfl rfl ⟨congrArg Ending.returned e.symm, rfl⟩
  · as_aux_lemma =>
    have e : HasT 13 = .tuple #[.bool (kd 13), .bool (ka 13), .bool (kb 13), .bool (kn 13)] := rfl
    simp [kd, ka, kb, kn] at e
    go_enter Try.func37, Try.ntmps37
    go_wp2
    try simp only [Exit.inBlock, Exit.then]
    exact ret4 rfl rfl rfl ⟨congrArg Ending.returned e.symm, rfl⟩
  · as_aux_lemma =>
    have e : HasT 14 = .tuple #[.bool (kd 14), .bool (ka 14), .bool (kb 14), .bool (kn 14)] := rfl
    simp [kd, ka, kb, kn] at e
    go_enter Try.func37, Try.ntmps37
    go_wp2
    try simp only [Exit.inBlock, Exit.then]
    exact ret4 rfl rfl rfl ⟨congrArg Ending.returned e.symm, rfl⟩
  · have h9 : ¬ k ≤ 9 := by omega
    have e1 : ∀ n : Int, n ≤ 14 → (k == n) = false := fun n hn => by simp; omega
    have f1 := decide_eq_false h9
    have e : HasT k = .tuple #[.bool false, .bool false, .bool false, .bool false] := by
      unfold HasT kd ka kb kn
      rw [f1, e1 12 (by omega), e1 11 (by omega), e1 14 (by omega), e1 1 (by omega), e1 10 (by omega)]
      simp
    have g1 : decide (1 ≤ k) = true := decide_eq_true (by omega)
    have g2 : decide (2 ≤ k) = true := decide_eq_true (by omega)
    have g3 : decide (3 ≤ k) = true := decide_eq_true (by omega)
    have k12 := e1 12 (by omega)
    have k11 := e1 11 (by omega)
    have k14 := e1 14 (by omega)
    have k1 := e1 1 (by omega)
    have k10 := e1 10 (by omega)
    clear e1 h9
    go_enter Try.func37, Try.ntmps37
    go_wp2
    try simp only [Exit.inBlock, Exit.then]
    exact ret4 rfl rfl rfl ⟨congrArg Ending.returned e.symm, rfl⟩
end Go.Proofs.Ytpidhcogaoehhaa
