import Derived.Test.YtpidhcogaoehhaaMgk
import Derived.Test.YtpidhcogaoehhaaMgf
import Derived.Test.YtpidhcogaoehhaaMgb
import Derived.Test.YtpidhcogaoehhaaMgh

/- A program's functions twice: plain laws. No condition. -/
namespace Go.Proofs.Ytpidhcogaoehhaa
open Go.RowKit Cd
set_option linter.unusedVariables false
set_option linter.unusedSimpArgs false
namespace Cd
def shO (n : Nat) (o : OpV) : OpV := if o.k = 12 then ⟨o.k, o.d, o.a, o.b, o.n + n⟩ else o
def shF (n : Nat) (f : FunV) : FunV := ⟨f.args, f.regs, f.ops.map (shO n)⟩
def dbl (l : List FunV) : List FunV := l ++ l.map (shF l.length)
theorem shO_k (n : Nat) (o : OpV) : (shO n o).k = o.k := by unfold shO; split <;> rfl
theorem shO_d (n : Nat) (o : OpV) : (shO n o).d = o.d := by unfold shO; split <;> rfl
theorem shO_a (n : Nat) (o : OpV) : (shO n o).a = o.a := by unfold shO; split <;> rfl
theorem shO_b (n : Nat) (o : OpV) : (shO n o).b = o.b := by unfold shO; split <;> rfl
theorem shO_fork {n : Nat} {o : OpV} (h : o.k = 12) : (shO n o).n = o.n + n := by unfold shO; rw [if_pos h]
theorem shO_not {n : Nat} {o : OpV} (h : ¬ o.k = 12) : shO n o = o := by unfold shO; rw [if_neg h]
theorem dbl_length (l : List FunV) : (dbl l).length = l.length + l.length := by unfold dbl; simp
theorem formB_shO (n : Nat) (o : OpV) (h : formB o = true) : formB (shO n o) = true := by
  by_cases h12 : o.k = 12
  · unfold formB at h ⊢
    rw [shO_k, shO_d, shO_a, shO_b]
    have : kn o.k = true := by rw [h12]; rfl
    rw [this, Bool.true_or] at h ⊢
    exact h
  · rw [shO_not h12]; exact h
theorem mayB_dbl {l : List FunV} (h : mayB l = true) (h2 : 2 * l.length ≤ 16) : mayB (dbl l) = true := by
  unfold mayB at h ⊢
  rw [Bool.and_eq_true, decide_eq_true_eq] at h ⊢
  refine ⟨by rw [dbl_length]; omega, ?_⟩
  unfold dbl
  rw [List.all_append, Bool.and_eq_true]
  refine ⟨h.2, ?_⟩
  rw [List.all_eq_true] at h ⊢
  intro f hf
  obtain ⟨f0, hf0, rfl⟩ := List.mem_map.1 hf
  have := h.2 f0 hf0
  unfold funB at this ⊢
  simp only [Bool.and_eq_true, decide_eq_true_eq] at this ⊢
  refine ⟨⟨this.1.1, by simpa [shF] using this.1.2⟩, ?_⟩
  have h3 := this.2
  rw [List.all_eq_true] at h3 ⊢
  intro o ho
  obtain ⟨o0, ho0, rfl⟩ := List.mem_map.1 (show o ∈ f0.ops.map _ from ho)
  exact formB_shO _ _ (h3 o0 ho0)
theorem opE_cong {l l' : List FunV} {f f' : FunV} {o o' : OpV} (hk : o'.k = o.k) (hd : o'.d = o.d) (ha : o'.a = o.a) (hb : o'.b = o.b) (hr : f'.regs = f.regs) (hl : f'.ops.length = f.ops.length)
    (h12 : o.k = 12 → inB o'.n l'.length = inB o.n l.length ∧ argsAt l' o'.n = argsAt l o.n) (hn : ¬ o.k = 12 → o'.n = o.n) : opE l' f' o' = opE l f o := by
  unfold opE
  by_cases h : o.k = 12
  · obtain ⟨h1, h2⟩ := h12 h
    rw [hk, hd, ha, hb, hr, hl, h1, h2, h]
    simp
  · rw [hk, hd, ha, hb, hr, hl, hn h]
    have : (o.k == 12) = false := by simpa using h
    rw [this]
    simp
theorem opsE_map {l l' : List FunV} {f f' : FunV} {g : OpV → OpV} : ∀ (os : List OpV) (b : Nat), (∀ o ∈ os, opE l' f' (g o) = 0) → opsE l' f' b (os.map g) = none := by
  intro os
  induction os with
  | nil => intro b _; rfl
  | cons o os ih =>
    intro b h
    show (if opE l' f' (g o) ≠ 0 then some (opE l' f' (g o), b) else opsE l' f' (b + 1) (os.map g)) = none
    rw [if_neg (by rw [h o (by simp)]; simp)]
    exact ih _ (fun o' ho' => h o' (by simp [ho']))
theorem endsB_map (os : List OpV) (n : Nat) : endsB (os.map (shO n)) = endsB os := by
  unfold endsB
  rw [List.getLast?_map]
  cases os.getLast? with
  | none => rfl
  | some o => show ((shO n o).k == 10 || (shO n o).k == 14) = _; rw [shO_k]
theorem funE_parts {l : List FunV} {f : FunV} (h : funE l f = none) : ¬ f.regs < f.args ∧ endsB f.ops = true := by
  unfold funE at h
  by_cases ha : f.regs < f.args
  · rw [if_pos ha] at h; cases h
  · rw [if_neg ha] at h
    refine ⟨ha, ?_⟩
    cases ho : opsE l f 0 f.ops with
    | some x => rw [ho] at h; cases h
    | none =>
      rw [ho] at h
      have h' : (if endsB f.ops = true then none else some ((113 : Int), f.ops.length - 1)) = none := h
      by_cases he : endsB f.ops = true
      · exact he
      · rw [if_neg he] at h'; cases h'
theorem funE_of {l : List FunV} {f : FunV} (h1 : ¬ f.regs < f.args) (h2 : opsE l f 0 f.ops = none) (h3 : endsB f.ops = true) : funE l f = none := by
  unfold funE
  rw [if_neg h1, h2]
  show (if endsB f.ops = true then none else _) = none
  rw [if_pos h3]
theorem opsE_all {l : List FunV} {f : FunV} (os : List OpV) (b : Nat) (h : ∀ o ∈ os, opE l f o = 0) : opsE l f b os = none := by
  have := opsE_map (l := l) (l' := l) (f := f) (f' := f) (g := id) os b h
  rwa [List.map_id] at this
theorem inB_iff {n : Int} {m : Nat} : inB n m = true ↔ 0 ≤ n ∧ n < m := by unfold inB; rw [Bool.and_eq_true, decide_eq_true_eq, decide_eq_true_eq]
theorem args_left {l : List FunV} {n : Int} (h : inB n l.length = true) : argsAt (dbl l) n = argsAt l n := by
  rw [inB_iff] at h
  unfold argsAt dbl
  rw [List.getElem?_append_left (by omega)]
theorem args_right {l : List FunV} {n : Int} (h : inB n l.length = true) : argsAt (dbl l) (n + l.length) = argsAt l n := by
  rw [inB_iff] at h
  unfold argsAt dbl
  rw [List.getElem?_append_right (by omega)]
  have : (n + l.length).toNat - l.length = n.toNat := by omega
  rw [this, List.getElem?_map]
  cases l[n.toNat]? <;> rfl
theorem funE_left {l : List FunV} {f : FunV} (h : funE l f = none) : funE (dbl l) f = none := by
  obtain ⟨h1, h3⟩ := funE_parts h
  refine funE_of h1 (opsE_all _ _ fun o ho => ?_) h3
  rw [opE_cong (l := l) (f := f) (o := o) rfl rfl rfl rfl rfl rfl (fun h12 => ?_) (fun _ => rfl)]
  · exact funE_zero h o ho
  · have hi := fork_in h ho h12
    refine ⟨?_, args_left hi⟩
    rw [hi]
    rw [inB_iff] at hi ⊢
    rw [dbl_length]; omega
theorem funE_right {l : List FunV} {f : FunV} (h : funE l f = none) : funE (dbl l) (shF l.length f) = none := by
  obtain ⟨h1, h3⟩ := funE_parts h
  refine funE_of h1 (opsE_map (l := l) (f := f) f.ops 0 fun o ho => ?_) (by show endsB (f.ops.map _) = true; rw [endsB_map]; exact h3)
  rw [opE_cong (l := l) (l' := dbl l) (f := f) (f' := shF l.length f) (o := o) (o' := shO l.length o) (shO_k _ _) (shO_d _ _) (shO_a _ _) (shO_b _ _) rfl (by simp [shF]) (fun h12 => ?_) (fun hn => by rw [shO_not hn])]
  · exact funE_zero h o ho
  · have hi := fork_in h ho h12
    rw [shO_fork h12]
    refine ⟨?_, args_right hi⟩
    rw [hi]
    rw [inB_iff] at hi ⊢
    rw [dbl_length]; omega
theorem funsE_all {l : List FunV} : ∀ (fs : List FunV) (b : Nat), (∀ f ∈ fs, funE l f = none) → funsE l b fs = (0, 0, 0) := by
  intro fs
  induction fs with
  | nil => intro b _; rfl
  | cons f fs ih =>
    intro b h
    show (match funE l f with | some (e, k) => (e, b, k) | none => funsE l (b + 1) fs) = _
    rw [h f (by simp)]
    exact ih _ (fun f' hf' => h f' (by simp [hf']))
theorem look_dbl {l : List FunV} {fn op : Nat} (h : lookE l = (0, fn, op)) (h0 : 0 < l.length) (h2 : 2 * l.length ≤ 16) : lookE (dbl l) = (0, 0, 0) := by
  obtain ⟨hm, hf⟩ := look_zero h
  have hmd := mayB_dbl hm h2
  unfold lookE
  rw [hmd, if_neg (by decide), if_neg (fun e => by have := dbl_length l; rw [e] at this; simp at this; omega)]
  refine funsE_all _ _ fun f hf' => ?_
  have hf'' : f ∈ l ++ l.map (shF l.length) := hf'
  rcases List.mem_append.1 hf'' with h1 | h1
  · exact funE_left (hf f h1)
  · obtain ⟨f0, h0, rfl⟩ := List.mem_map.1 h1
    exact funE_right (hf f0 h0)
/-! ### What reaches what -/
theorem Rch.trans {l : List FunV} {i j k : Nat} (h : Rch l i j) (r : Rch l j k) : Rch l i k := by
  induction r with
  | one e => exact .more h e
  | more r e ih => exact .more ih e
theorem fk_left {l : List FunV} {i j : Nat} (hi : i < l.length) : Fk (dbl l) i j ↔ Fk l i j := by
  have e : (dbl l)[i]'(by rw [dbl_length]; omega) = l[i] := by unfold dbl; rw [List.getElem_append_left hi]
  constructor
  · rintro ⟨h, o, ho, hk, hn⟩
    rw [e] at ho
    exact ⟨hi, o, ho, hk, hn⟩
  · rintro ⟨h, o, ho, hk, hn⟩
    exact ⟨by rw [dbl_length]; omega, o, by rw [e]; exact ho, hk, hn⟩
theorem fk_right {l : List FunV} {i j : Nat} (hi : i < l.length) (hE : ∀ i j, Fk l i j → j < l.length) (hz : ∀ f ∈ l, funE l f = none) : Fk (dbl l) (l.length + i) j ↔ ∃ j', j = l.length + j' ∧ Fk l i j' := by
  have e : (dbl l)[l.length + i]'(by rw [dbl_length]; omega) = shF l.length l[i] := by
    unfold dbl
    rw [List.getElem_append_right (by omega)]
    simp
  constructor
  · rintro ⟨h, o, ho, hk, hn⟩
    rw [e] at ho
    obtain ⟨o0, ho0, rfl⟩ := List.mem_map.1 (show o ∈ l[i].ops.map _ from ho)
    rw [shO_k] at hk
    rw [shO_fork hk] at hn
    have hin := inB_iff.1 (fork_in (hz _ (List.getElem_mem hi)) ho0 hk)
    refine ⟨o0.n.toNat, by omega, hi, o0, ho0, hk, by omega⟩
  · rintro ⟨j', rfl, h, o, ho, hk, hn⟩
    refine ⟨by rw [dbl_length]; omega, shO l.length o, by rw [e]; exact List.mem_map.2 ⟨o, ho, rfl⟩, by rw [shO_k]; exact hk, by rw [shO_fork hk]; omega⟩
theorem rch_left {l : List FunV} {i j : Nat} (hi : i < l.length) (hE : ∀ i j, Fk l i j → j < l.length) : Rch (dbl l) i j ↔ Rch l i j := by
  constructor
  · intro h
    induction h with
    | one e => exact .one ((fk_left hi).1 e)
    | @more j k r e ih =>
      have hj : j < l.length := by cases ih with
        | one e => exact hE _ _ e
        | more _ e => exact hE _ _ e
      exact .more ih ((fk_left hj).1 e)
  · intro h
    induction h with
    | one e => exact .one ((fk_left hi).2 e)
    | @more j k r e ih => exact .more ih ((fk_left e.choose).2 e)
theorem rch_lt {l : List FunV} {i j : Nat} (hE : ∀ i j, Fk l i j → j < l.length) (h : Rch l i j) : j < l.length := by
  cases h with
  | one e => exact hE _ _ e
  | more _ e => exact hE _ _ e
theorem rch_right {l : List FunV} {i j : Nat} (hi : i < l.length) (hE : ∀ i j, Fk l i j → j < l.length) (hz : ∀ f ∈ l, funE l f = none) : Rch (dbl l) (l.length + i) j ↔ ∃ j', j = l.length + j' ∧ Rch l i j' := by
  constructor
  · intro h
    induction h with
    | one e =>
      obtain ⟨j', h1, h2⟩ := (fk_right hi hE hz).1 e
      exact ⟨j', h1, .one h2⟩
    | @more j k r e ih =>
      obtain ⟨j', rfl, h2⟩ := ih
      obtain ⟨k', rfl, h3⟩ := (fk_right (rch_lt hE h2) hE hz).1 e
      exact ⟨k', rfl, .more h2 h3⟩
  · rintro ⟨j', rfl, h⟩
    induction h with
    | one e => exact .one ((fk_right hi hE hz).2 ⟨_, rfl, e⟩)
    | @more j k r e ih => exact .more ih ((fk_right e.choose hE hz).2 ⟨_, rfl, e⟩)
open Classical in
theorem reachL_left {l : List FunV} {i : Nat} (hi : i < l.length) (hE : ∀ i j, Fk l i j → j < l.length) : reachL (dbl l) i = reachL l i := by
  unfold reachL
  rw [dbl_length, List.range_add, List.filter_append]
  have e2 : ((List.range l.length).map (l.length + ·)).filter (fun j => decide (Rch (dbl l) i j)) = [] := by
    rw [List.filter_eq_nil_iff]
    intro a ha
    obtain ⟨b, _, rfl⟩ := List.mem_map.1 ha
    rw [decide_eq_true_eq, rch_left hi hE]
    intro h
    have := rch_lt hE h
    omega
  rw [e2, List.append_nil]
  apply List.filter_congr
  intro j _
  rw [decide_eq_decide]
  exact rch_left hi hE
open Classical in
theorem reachL_right {l : List FunV} {i : Nat} (hi : i < l.length) (hE : ∀ i j, Fk l i j → j < l.length) (hz : ∀ f ∈ l, funE l f = none) : reachL (dbl l) (l.length + i) = (reachL l i).map (l.length + ·) := by
  unfold reachL
  rw [dbl_length, List.range_add, List.filter_append]
  have e1 : (List.range l.length).filter (fun j => decide (Rch (dbl l) (l.length + i) j)) = [] := by
    rw [List.filter_eq_nil_iff]
    intro a ha
    rw [decide_eq_true_eq, rch_right hi hE hz]
    rintro ⟨j', rfl, _⟩
    have := List.mem_range.1 ha
    omega
  rw [e1, List.nil_append, List.filter_map]
  congr 1
  apply List.filter_congr
  intro j _
  show decide _ = decide _
  rw [decide_eq_decide, rch_right hi hE hz]
  exact ⟨fun ⟨j', h1, h2⟩ => by have h1 : l.length + j = l.length + j' := h1
                                have : j = j' := by omega
                                subst this; exact h2, fun h => ⟨j, rfl, h⟩⟩
theorem reachX_at {l : List FunV} {fn op i : Nat} (h : lookE l = (0, fn, op)) (hi : i < l.length) : reachX l (i : Int) = (reachL l i).map Int.ofNat := by
  unfold reachX
  rw [if_pos ⟨by rw [h], by omega, by omega⟩, Int.toNat_natCast]
theorem reachX_left {l : List FunV} {fn op i : Nat} (h : lookE l = (0, fn, op)) (h2 : 2 * l.length ≤ 16) (hi : i < l.length) : reachX (dbl l) (i : Int) = reachX l (i : Int) := by
  have hE := edge_in h
  rw [reachX_at h hi, reachX_at (look_dbl h (by omega) h2) (by rw [dbl_length]; omega), reachL_left hi hE]
theorem reachX_right {l : List FunV} {fn op i : Nat} (h : lookE l = (0, fn, op)) (h2 : 2 * l.length ≤ 16) (hi : i < l.length) : reachX (dbl l) ((i + l.length : Nat) : Int) = (reachX l (i : Int)).map (· + (l.length : Int)) := by
  have hE := edge_in h
  rw [reachX_at h hi, reachX_at (look_dbl h (by omega) h2) (by rw [dbl_length]; omega), Nat.add_comm i, reachL_right hi hE (look_zero h).2, List.map_map, List.map_map]
  apply List.map_congr_left
  intro j _
  show ((l.length + j : Nat) : Int) = (j : Int) + (l.length : Int)
  omega
/-- What is reached by what is reached, is reached. -/
theorem reachX_mem {l : List FunV} {fn op i : Nat} (h : lookE l = (0, fn, op)) (hi : i < l.length) {x : Int} : x ∈ reachX l (i : Int) ↔ ∃ j : Nat, x = j ∧ j < l.length ∧ Rch l i j := by
  rw [reachX_at h hi, List.mem_map]
  constructor
  · rintro ⟨j, hj, rfl⟩
    obtain ⟨h1, h2⟩ := (mem_reachL l i j).1 hj
    exact ⟨j, rfl, h1, h2⟩
  · rintro ⟨j, rfl, h1, h2⟩
    exact ⟨j, (mem_reachL l i j).2 ⟨h1, h2⟩, rfl⟩
theorem reachX_closed {l : List FunV} {fn op i : Nat} (h : lookE l = (0, fn, op)) (hi : i < l.length) {x y : Int} (hx : x ∈ reachX l (i : Int)) (hy : y ∈ reachX l x) : y ∈ reachX l (i : Int) := by
  obtain ⟨j, rfl, h1, h2⟩ := (reachX_mem h hi).1 hx
  obtain ⟨k, rfl, h3, h4⟩ := (reachX_mem h h1).1 hy
  exact (reachX_mem h hi).2 ⟨k, rfl, h3, h2.trans h4⟩
theorem reachX_len {l : List FunV} {fn : Int} (h : Lim l) : (reachX l fn).length ≤ 100 := by
  unfold reachX
  split
  · rw [List.length_map]
    have : (reachL l fn.toNat).length ≤ (List.range l.length).length := by unfold reachL; exact List.length_filter_le _ _
    rw [List.length_range] at this
    have := h.1
    omega
  · simp
end Cd
end Go.Proofs.Ytpidhcogaoehhaa


/- The walk of the statements' guard: is a program more than they look at? No condition but that rows fit their type. -/
namespace Go.Proofs.Ytpidhcogaoehhaa
open Go.RowKit Cd
set_option linter.unusedVariables false
namespace Cd
def longF (l : List FunV) : Bool := l.any fun f => decide (200 < f.ops.length)
def heavyB (l : List FunV) : Bool := decide (60 < l.length) || longF l
theorem heavy_lim {l : List FunV} (h : heavyB l = false) : Lim l := by
  unfold heavyB at h
  rw [Bool.or_eq_false_iff, decide_eq_false_iff_not] at h
  refine ⟨by omega, fun f hf => ?_⟩
  have := h.2
  unfold longF at this
  rw [List.any_eq_false] at this
  have := this f hf
  simp at this; omega
theorem longF_take {l : List FunV} {i : Nat} (h : i < l.length) : longF (l.take (i + 1)) = (longF (l.take i) || decide (200 < l[i].ops.length)) := by
  unfold longF; rw [List.take_succ_eq_append_getElem h, List.any_append]; simp
theorem longF_of {l : List FunV} {i : Nat} (h : i < l.length) (e : 200 < l[i].ops.length) : longF l = true := by
  unfold longF; rw [List.any_eq_true]; exact ⟨_, List.getElem_mem h, by simpa using e⟩
end Cd
set_option maxRecDepth 100000 in
set_option maxHeartbeats 4000000 in
theorem heavy_go {l : List FunV} {W : World} {v : Value} (hv : FunsAt W v l) : Calls Try.prog 5 #[.agg #[v]] W fun e w' => ∃ r : Bool, e = .returned (.bool r) ∧ r = heavyB l ∧ Below W.heap.size W w' := by
  have HB0 := Lib.hid ((Below.refl _ W).alloc (Nat.le_refl _) (.cells #[v] 24))
  have HT1 := Lib.hid (Blk.new W 24 #[v])
  have HV := Lib.hid hv
  obtain ⟨p1, c1, rfl⟩ := hv.slice
  clear hv
  by_cases h60 : 60 < l.length
  · have h60' : (60 : Int) < (l.length : Int) := by omega
    have HE := Lib.hid (show true = heavyB l by unfold heavyB; rw [decide_eq_true h60]; rfl)
    clear h60
    go_enter Try.func5, Try.ntmps5
    go_wp2
    go_ret
    exact ⟨true, rfl, HE.out, HB0.out⟩
  · have h60' : decide ((60 : Int) < (l.length : Int)) = false := decide_eq_false (by omega)
    have HE := Lib.hid (show heavyB l = longF l by unfold heavyB; rw [decide_eq_false h60]; rfl)
    go_enter Try.func5, Try.ntmps5
    go_wp2
    have hz0 : PreRel l longF (W.alloc (.cells #[.slice p1 l.length c1] 24)) (.int .i64 0) (W.alloc (.cells #[.slice p1 l.length c1] 24)) := ⟨0, by omega, rfl, rfl, Below.refl _ _⟩
    clear h60'
    generalize W.alloc (.cells #[.slice p1 l.length c1] 24) = w0 at *
    go_loopw [3] (fun i wr => PreRel l longF w0 i wr) (fun i _ => ((l.length : Int) - intOf i).toNat)
    case atStart => exact hz0
    case round =>
      clear hz0
      obtain ⟨k, hk1, rfl, htk, hb⟩ := hrel
      have HB := Lib.hid hb
      have z0 : wr.cell? ⟨W.heap.size, 0, none⟩ = some (.slice p1 l.length c1) := (HT1.out.below hb).cell 0
      by_cases hk : k < l.length
      · obtain ⟨p1', c1', e1, hx⟩ := HV.out
        injection e1 with e1 e2 e3
        subst e1 e3
        obtain ⟨g1, o1, rfl, hg1, hx⟩ := hx (by omega)
        obtain ⟨x0, x1, vo, x2, hvo⟩ := hx k hk
        have hbW := HB0.out.trans (hb.mono HB0.out.size)
        rw [← hbW.cell (p := ⟨g1, _, none⟩) hg1] at x2
        obtain ⟨p3, c3, rfl⟩ := hvo.slice
        have htk2 := longF_take hk
        have hof := fun e => longF_of hk e
        rw [htk] at htk2
        have hki1 : (k : Int) < (l.length : Int) := by omega
        have hki0 : (0 : Int) ≤ (k : Int) := by omega
        clear hx hb htk hvo hbW x0 x1
        generalize l[k].ops.length = ol at *
        have HOF := Lib.hid hof
        by_cases h2 : 200 < ol
        · have h2' : (200 : Int) < (ol : Int) := by omega
          have HL := Lib.hid (HOF.out h2)
          clear hof htk2 h2
          go_wp2
          go_ret
          first | exact ⟨true, rfl, by rw [HE.out, HL.out], HB0.out.trans (HB.out.mono HB0.out.size)⟩ | exact .inr ⟨rfl, by rw [HE.out, HL.out], HB0.out.trans (HB.out.mono HB0.out.size)⟩
        · have h2' : (ol : Int) ≤ (200 : Int) := by omega
          rw [decide_eq_false h2] at htk2
          have HTK := Lib.hid htk2
          clear hof htk2 h2
          go_wp2
          go_roundw
          case rel => exact ⟨k + 1, by omega, rfl, by rw [HTK.out]; rfl, HB.out⟩
          case measure => simp [intOf]; omega
      · have : k = l.length := by omega
        subst this
        rw [List.take_length] at htk
        have hR := Lib.hid (show false = heavyB l by rw [HE.out, htk])
        clear htk hb
        go_wp2
        go_ret
        first | exact ⟨false, rfl, hR.out, HB0.out.trans (HB.out.mono HB0.out.size)⟩ | exact .inl ⟨rfl, hR.out.symm, HB0.out.trans (HB.out.mono HB0.out.size)⟩
theorem heavy_any {l : List FunV} {W : World} {v : Value} (hv : FunsAt W v l) : Calls Try.prog 5 #[.agg #[v]] W fun e w' => e = .returned (.bool (heavyB l)) ∧ Below W.heap.size W w' :=
  (heavy_go hv).mono fun e w' ⟨r, he, hr, hb⟩ => ⟨by rw [he, hr], hb⟩
end Go.Proofs.Ytpidhcogaoehhaa


/- A program that came in, opened out of its reading. No condition. -/
namespace Go.Proofs.Ytpidhcogaoehhaa
open Go.RowKit Go.ChangeShapes Go.WideShapes Go.Deep Cd
set_option linter.unusedVariables false
section
variable {H : Type} {enc : TypeId × Value → H} {P : Program} {w : World} {base : Nat} {held : Bool}
/-- A slice, out of the reading of its one cell. -/
theorem open_cell_rows {t e : TypeId} {v : Value} {x : DataW H × List MemPlace} {m fuel : Nat} (ht : P.underlying t = some (.slice e)) (hc : P.cellsOf e = m) (hm : 0 < m) (hf : DataW.trod enc P w base (fun _ => true) held fuel t [v] = some x) :
    ∃ p n cap, v = .slice p n cap ∧ (0 < n → ∃ g off, p = some ⟨g, off, none⟩ ∧ g < w.heap.size ∧
      ∀ i, i < n → ∃ (cs : List Value) (fuel : Nat) (x : DataW H × List MemPlace), cs.length = m ∧ (∀ j, j < m → w.cell? ⟨g, off + i * m + j, none⟩ = cs[j]?) ∧ DataW.trod enc P w base (fun _ => true) held fuel e cs = some x) := by
  obtain ⟨d, ps⟩ := x
  rcases open_slice ht hf with ⟨h1, _⟩ | ⟨a, len, cap, mm, k, D, Pl, h1, hb, hl, hmx, hmm, _, hx⟩
  · refine ⟨none, 0, 0, by simpa using h1, fun h => by omega⟩
  · refine ⟨some a, len, cap, by simpa using h1, fun h => ?_⟩
    simp only [if_true] at hmm
    have key : ∀ i, i < len → ∃ cs', cs'.length = m ∧ (∀ j, j < m → w.cell? ((a.add (i * m)).add j) = cs'[j]?) ∧ DataW.trod enc P w base (fun _ => true) held k e cs' = some (D i, Pl i) := fun i hi => by
      obtain ⟨cs', hcs, hy⟩ := hx i (by omega)
      rw [hc] at hcs
      obtain ⟨_, hlen, hcell⟩ := World.cells?_some hcs
      exact ⟨cs', hlen, hcell, hy⟩
    obtain ⟨g, off, spot⟩ := a
    have hspot : spot = none := by
      obtain ⟨cs', hlen, hcell, _⟩ := key 0 h
      have h0 := hcell 0 hm
      rw [List.getElem?_eq_getElem (by omega)] at h0
      simpa [Addr.add] using World.cell?_spot h0
    subst hspot
    have hlt : g < w.heap.size := by
      obtain ⟨cs', hlen, hcell, _⟩ := key 0 h
      have h0 := hcell 0 hm
      rw [List.getElem?_eq_getElem (by omega)] at h0
      rcases Nat.lt_or_ge g w.heap.size with h | h
      · exact h
      · simp [Addr.add, World.cell?, Array.getElem?_eq_none h] at h0
    refine ⟨g, off, rfl, hlt, fun i hi => ?_⟩
    obtain ⟨cs', hlen, hcell, hy⟩ := key i hi
    refine ⟨cs', k, _, hlen, fun j hj => ?_, hy⟩
    rw [← hcell j hj, Deep.add_add, add_plain, Nat.add_assoc]
end
section
variable {H : Type} {enc : TypeId × Value → H} {W : World} {base : Nat} {held : Bool}
set_option maxRecDepth 100000 in
theorem open_ops {v : Value} {x : DataW H × List MemPlace} {fuel : Nat} (hf : DataW.trod enc Try.prog W base (fun _ => true) held fuel 45 [v] = some x) : ∃ l, OpsAt W v l ∧ ∀ o ∈ l, OkO o := by
  obtain ⟨p, n, cap, rfl, h⟩ := open_cell_rows (e := 50) (m := 5) Try.underlying45 (by kernel_rfl) (by decide) hf
  by_cases hn : 0 < n
  · obtain ⟨g, off, rfl, hg, hx⟩ := h hn
    have key : ∀ i, i < n → ∃ s : OpV, (∀ j, j < 5 → W.cell? ⟨g, off + i * 5 + j, none⟩ = (opA s)[j]?) ∧ OkO s := by
      intro i hi
      obtain ⟨cs, fuel, x, hlen, hcell, hy⟩ := hx i hi
      have f := fun (k : Nat) (fd : Field) (hf : _) (ho : fd.offset = k) (hc : Try.prog.cellsOf fd.type = 1) (hlt : k < cs.length) => open_field (P := Try.prog) (t := 50) Try.underlying50 hy k fd hf k ho hc hlt
      obtain ⟨m0, y0, e0⟩ := f 0 _ rfl rfl (by kernel_rfl) (by omega)
      obtain ⟨m1, y1, e1⟩ := f 1 _ rfl rfl (by kernel_rfl) (by omega)
      obtain ⟨m2, y2, e2⟩ := f 2 _ rfl rfl (by kernel_rfl) (by omega)
      obtain ⟨m3, y3, e3⟩ := f 3 _ rfl rfl (by kernel_rfl) (by omega)
      obtain ⟨m4, y4, e4⟩ := f 4 _ rfl rfl (by kernel_rfl) (by omega)
      obtain ⟨n0, z0, _, w0⟩ := DataW.trod_int (k := .u8) (by kernel_rfl) e0
      obtain ⟨n1, z1, _, w1⟩ := DataW.trod_int (k := .i64) (by kernel_rfl) e1
      obtain ⟨n2, z2, _, w2⟩ := DataW.trod_int (k := .i64) (by kernel_rfl) e2
      obtain ⟨n3, z3, _, w3⟩ := DataW.trod_int (k := .i64) (by kernel_rfl) e3
      obtain ⟨n4, z4, _, w4⟩ := DataW.trod_int (k := .i64) (by kernel_rfl) e4
      have g := fun (j : Nat) (hj : j < 5) (u : Value) (hu : [cs.getD j undef] = [u]) => show W.cell? ⟨g, off + i * 5 + j, none⟩ = some u by
        rw [hcell j hj, List.getElem?_eq_getElem (by omega)]
        simp [List.getD, show j < cs.length by omega] at hu
        rw [hu]
      refine ⟨⟨n0, n1, n2, n3, n4⟩, fun j hj => ?_, ?_⟩
      · have hj' : j = 0 ∨ j = 1 ∨ j = 2 ∨ j = 3 ∨ j = 4 := by omega
        rcases hj' with rfl | rfl | rfl | rfl | rfl
        · exact g 0 (by omega) _ z0
        · exact g 1 (by omega) _ z1
        · exact g 2 (by omega) _ z2
        · exact g 3 (by omega) _ z3
        · exact g 4 (by omega) _ z4
      · have b0 := bounds_u8 w0
        have b1 := bounds_i64 w1
        have b2 := bounds_i64 w2
        have b3 := bounds_i64 w3
        have b4 := bounds_i64 w4
        exact ⟨by unfold U8; simp only; omega, by unfold I64; simp only; omega, by unfold I64; simp only; omega, by unfold I64; simp only; omega, by unfold I64; simp only; omega⟩
    obtain ⟨ax, hax⟩ := choose_fn key
    have hl : ((List.range n).map ax).length = n := by simp
    refine ⟨(List.range n).map ax, ⟨some ⟨g, off, none⟩, cap, by rw [hl], fun _ => ⟨g, off, rfl, hg, fun i hi j hj => ?_⟩⟩, fun o ho => ?_⟩
    · rw [List.getElem_map, List.getElem_range]
      exact (hax i (by omega)).1 j hj
    · obtain ⟨i, hi, rfl⟩ := List.mem_map.1 ho
      exact (hax i (List.mem_range.1 hi)).2
  · have : n = 0 := by omega
    subst this
    exact ⟨[], ⟨p, cap, rfl, fun h => by simp at h⟩, fun o h => by simp at h⟩
set_option maxRecDepth 100000 in
theorem open_funs {v : Value} {x : DataW H × List MemPlace} {fuel : Nat} (hf : DataW.trod enc Try.prog W base (fun _ => true) held fuel 22 [v] = some x) : ∃ l, FunsAt W v l ∧ OkP l := by
  obtain ⟨p, n, cap, rfl, h⟩ := open_cell_rows (e := 47) (m := 3) Try.underlying22 (by kernel_rfl) (by decide) hf
  by_cases hn : 0 < n
  · obtain ⟨g, off, rfl, hg, hx⟩ := h hn
    have key : ∀ i, i < n → ∃ s : FunV, (W.cell? ⟨g, off + i * 3, none⟩ = some (.int .i64 s.args) ∧ W.cell? ⟨g, off + i * 3 + 1, none⟩ = some (.int .i64 s.regs) ∧ ∃ vo, W.cell? ⟨g, off + i * 3 + 2, none⟩ = some vo ∧ OpsAt W vo s.ops) ∧ OkF s := by
      intro i hi
      obtain ⟨cs, fuel, x, hlen, hcell, hy⟩ := hx i hi
      have f := fun (k : Nat) (fd : Field) (hf : _) (ho : fd.offset = k) (hc : Try.prog.cellsOf fd.type = 1) (hlt : k < cs.length) => open_field (P := Try.prog) (t := 47) Try.underlying47 hy k fd hf k ho hc hlt
      obtain ⟨m0, y0, e0⟩ := f 0 _ rfl rfl (by kernel_rfl) (by omega)
      obtain ⟨m1, y1, e1⟩ := f 1 _ rfl rfl (by kernel_rfl) (by omega)
      obtain ⟨m2, y2, e2⟩ := f 2 _ rfl rfl (by kernel_rfl) (by omega)
      obtain ⟨n0, z0, _, w0⟩ := DataW.trod_int (k := .i64) (by kernel_rfl) e0
      obtain ⟨n1, z1, _, w1⟩ := DataW.trod_int (k := .i64) (by kernel_rfl) e1
      obtain ⟨lo, hlo, hok⟩ := open_ops e2
      have g := fun (j : Nat) (hj : j < 3) (u : Value) (hu : [cs.getD j undef] = [u]) => show W.cell? ⟨g, off + i * 3 + j, none⟩ = some u by
        rw [hcell j hj, List.getElem?_eq_getElem (by omega)]
        simp [List.getD, show j < cs.length by omega] at hu
        rw [hu]
      have b0 := bounds_i64 w0
      have b1 := bounds_i64 w1
      exact ⟨⟨n0, n1, lo⟩, ⟨g 0 (by omega) _ z0, g 1 (by omega) _ z1, _, g 2 (by omega) _ rfl, hlo⟩, by unfold I64; simp only; omega, by unfold I64; simp only; omega, hok⟩
    obtain ⟨ax, hax⟩ := choose_fn key
    have hl : ((List.range n).map ax).length = n := by simp
    refine ⟨(List.range n).map ax, ⟨some ⟨g, off, none⟩, cap, by rw [hl], fun _ => ⟨g, off, rfl, hg, fun i hi => ?_⟩⟩, fun o ho => ?_⟩
    · rw [List.getElem_map, List.getElem_range]
      exact (hax i (by omega)).1
    · obtain ⟨i, hi, rfl⟩ := List.mem_map.1 ho
      exact (hax i (List.mem_range.1 hi)).2
  · have : n = 0 := by omega
    subst this
    exact ⟨[], ⟨p, cap, rfl, fun h => by simp at h⟩, fun o h => by simp at h⟩
set_option maxRecDepth 100000 in
theorem open_prog {r : Reach} {b0 : Nat} {v : Value} {d : DataW H} {ps : List MemPlace} (hval : Value.okWide Try.prog W r b0 24 v) (hd : DataW.Trod enc Try.prog W base (fun _ => true) held 24 v d ps) :
    ∃ u l, v = .agg #[u] ∧ FunsAt W u l ∧ OkP l := by
  obtain ⟨cs, rfl, hsz⟩ := okWide_struct Try.underlying24 hval
  obtain ⟨fuel, hf⟩ := hd
  have hs : cs.size = 1 := by rw [hsz]; kernel_rfl
  have hl : cs.toList.length = 1 := by simpa using hs
  obtain ⟨m0, y0, e0⟩ := open_field (P := Try.prog) (t := 24) Try.underlying24 hf 0 _ rfl 0 rfl (by kernel_rfl) (by show 0 < cs.toList.length; omega)
  obtain ⟨l, h1, h2⟩ := open_funs e0
  refine ⟨_, l, ?_, h1, h2⟩
  congr 1
  apply Array.ext'
  show cs.toList = [cs.toList.getD 0 undef]
  match cs.toList, hl with
  | [x], _ => rfl
end
end Go.Proofs.Ytpidhcogaoehhaa
