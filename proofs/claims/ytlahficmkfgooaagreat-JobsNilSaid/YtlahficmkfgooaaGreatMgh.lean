import Derived.Test.YtlahficmkfgooaaGreatMgb
import Derived.Test.YtlahficmkfgooaaGreatMgc

/- Which programs can be run, in plain terms. No condition. -/
namespace Go.Proofs.YtlahficmkfgooaaGreat
open Go.RowKit Cd
set_option linter.unusedVariables false
set_option linter.unusedSimpArgs false
namespace Cd
def inB (n : Int) (m : Nat) : Bool := decide (0 ≤ n) && decide (n < m)
def argsAt (l : List FunV) (n : Int) : Int := ((l[n.toNat]?).map FunV.args).getD 0
/-- What is wrong with an op: its registers, its target, the registers of what it forks. -/
def opE (l : List FunV) (f : FunV) (o : OpV) : Int :=
  if (kd o.k && decide (f.regs ≤ o.d) || (ka o.k && !(o.k == 12)) && decide (f.regs ≤ o.a) || kb o.k && decide (f.regs ≤ o.b)) = true then 111
  else if ((o.k == 10 || o.k == 11) && !inB o.n f.ops.length) = true then 112
  else if (o.k == 12) = false then 0
  else if inB o.n l.length = false then 112
  else if 0 < argsAt l o.n ∧ f.regs < o.a + argsAt l o.n then 111 else 0
def opsE (l : List FunV) (f : FunV) : Nat → List OpV → Option (Int × Nat)
  | _, [] => none
  | k, o :: os => if opE l f o ≠ 0 then some (opE l f o, k) else opsE l f (k + 1) os
def endsB (l : List OpV) : Bool := match l.getLast? with
  | some o => o.k == 10 || o.k == 14
  | none => false
def funE (l : List FunV) (f : FunV) : Option (Int × Nat) :=
  if f.regs < f.args then some (110, 0) else match opsE l f 0 f.ops with
  | some x => some x
  | none => if endsB f.ops = true then none else some (113, f.ops.length - 1)
def funsE (l : List FunV) : Nat → List FunV → Int × Nat × Nat
  | _, [] => (0, 0, 0)
  | i, f :: fs => match funE l f with
    | some (e, k) => (e, i, k)
    | none => funsE l (i + 1) fs
def lookE (l : List FunV) : Int × Nat × Nat := if mayB l = false then (8, 0, 0) else if l = [] then (110, 0, 0) else funsE l 0 l
theorem opsE_at (l : List FunV) (f : FunV) : ∀ (os : List OpV) (b k : Nat) (h : k < os.length), (∀ j (hj : j < os.length), j < k → opE l f os[j] = 0) → opE l f os[k] ≠ 0 → opsE l f b os = some (opE l f os[k], b + k) := by
  intro os
  induction os with
  | nil => intro b k h; simp at h
  | cons o os ih =>
    intro b k h h0 h1
    cases k with
    | zero =>
      show (if opE l f o ≠ 0 then some (opE l f o, b) else _) = _
      rw [if_pos (by simpa using h1)]
      rfl
    | succ k =>
      have hz : opE l f o = 0 := h0 0 (by simp) (by omega)
      show (if opE l f o ≠ 0 then _ else opsE l f (b + 1) os) = _
      rw [if_neg (by simp [hz])]
      have := ih (b + 1) k (by simpa using h) (fun j hj hjk => by have := h0 (j + 1) (by simpa using hj) (by omega); simpa using this) (by simpa using h1)
      rw [this, List.getElem_cons_succ]
      congr 2
      omega
theorem opsE_none (l : List FunV) (f : FunV) : ∀ (os : List OpV) (b : Nat), (∀ j (hj : j < os.length), opE l f os[j] = 0) → opsE l f b os = none := by
  intro os
  induction os with
  | nil => intro b _; rfl
  | cons o os ih =>
    intro b h0
    have hz : opE l f o = 0 := h0 0 (by simp)
    show (if opE l f o ≠ 0 then _ else opsE l f (b + 1) os) = _
    rw [if_neg (by simp [hz])]
    exact ih (b + 1) (fun j hj => by have := h0 (j + 1) (by simpa using hj); simpa using this)
theorem funsE_at (l : List FunV) : ∀ (fs : List FunV) (b i : Nat) (h : i < fs.length), (∀ j (hj : j < fs.length), j < i → funE l fs[j] = none) → ∀ e k, funE l fs[i] = some (e, k) → funsE l b fs = (e, b + i, k) := by
  intro fs
  induction fs with
  | nil => intro b i h; simp at h
  | cons f fs ih =>
    intro b i h h0 e k h1
    cases i with
    | zero =>
      have h1' : funE l f = some (e, k) := by simpa using h1
      show (match funE l f with | some (e, k) => (e, b, k) | none => _) = _
      rw [h1']
      rfl
    | succ i =>
      have hz : funE l f = none := h0 0 (by simp) (by omega)
      show (match funE l f with | some (e, k) => (e, b, k) | none => funsE l (b + 1) fs) = _
      rw [hz]
      have := ih (b + 1) i (by simpa using h) (fun j hj hjk => by have := h0 (j + 1) (by simpa using hj) (by omega); simpa using this) e k (by simpa using h1)
      show funsE l (b + 1) fs = _
      rw [this]
      congr 2
      omega
theorem funsE_none (l : List FunV) : ∀ (fs : List FunV) (b : Nat), (∀ j (hj : j < fs.length), funE l fs[j] = none) → funsE l b fs = (0, 0, 0) := by
  intro fs
  induction fs with
  | nil => intro b _; rfl
  | cons f fs ih =>
    intro b h0
    have hz : funE l f = none := h0 0 (by simp)
    show (match funE l f with | some (e, k) => (e, b, k) | none => funsE l (b + 1) fs) = _
    rw [hz]
    exact ih (b + 1) (fun j hj => by have := h0 (j + 1) (by simpa using hj); simpa using this)
theorem argsAt_of {l : List FunV} {n : Int} (h : inB n l.length = true) : ∃ h' : n.toNat < l.length, argsAt l n = l[n.toNat].args ∧ 0 ≤ n ∧ n < l.length := by
  unfold inB at h
  simp only [Bool.and_eq_true, decide_eq_true_eq] at h
  have h' : n.toNat < l.length := by omega
  refine ⟨h', ?_, h.1, h.2⟩
  unfold argsAt
  rw [List.getElem?_eq_getElem h']
  rfl
theorem endsB_of {l : List OpV} (h : 0 < l.length) : endsB l = (l[l.length - 1].k == 10 || l[l.length - 1].k == 14) := by
  unfold endsB
  rw [List.getLast?_eq_getElem?, List.getElem?_eq_getElem (by omega)]
theorem endsB_nil : endsB [] = false := rfl
end Cd
end Go.Proofs.YtlahficmkfgooaaGreat


/- The walks of what looks at an op: 'must', 'below', 'right'. No condition but that the op has its form. -/
namespace Go.Proofs.YtlahficmkfgooaaGreat
open Go.RowKit Cd
set_option linter.unusedVariables false
set_option linter.unusedSimpArgs false
theorem must_no {w : World} {b : Nat} {e0 fn op e : Int} {is : Bool} (h : Blk w b 174 #[.int .i64 e0, .int .i64 fn, .int .i64 op]) (hc : e0 = 0 → is = true) :
    Calls Tryz.prog 117 #[.pointer (some ⟨b, 0, none⟩), .bool is, .int .i64 e] w fun x w' => x = .returned (.tuple #[]) ∧ w = w' := by
  have c0 : w.cell? ⟨b, 0, none⟩ = some (.int .i64 e0) := h.cell 0
  by_cases h0 : e0 = 0
  · have := hc h0
    subst h0
    subst this
    clear hc h
    go_enter Tryz.func117, Tryz.ntmps117
    go_wp2
    go_end0
    exact ⟨rfl, rfl⟩
  · have h0' : (e0 == 0) = false := by simpa using h0
    clear hc h h0
    go_enter Tryz.func117, Tryz.ntmps117
    go_wp2
    go_end0
    exact ⟨rfl, rfl⟩
theorem must_yes {w : World} {b : Nat} {fn op e : Int} (h : Blk w b 174 #[.int .i64 0, .int .i64 fn, .int .i64 op]) :
    Calls Tryz.prog 117 #[.pointer (some ⟨b, 0, none⟩), .bool false, .int .i64 e] w fun x w' => x = .returned (.tuple #[]) ∧ w.setCell ⟨b, 0, none⟩ (.int .i64 e) = w' := by
  have c0 : w.cell? ⟨b, 0, none⟩ = some (.int .i64 0) := h.cell 0
  have f0 := h.frozen
  clear h
  go_enter Tryz.func117, Tryz.ntmps117
  go_wp2
  go_end0
  exact ⟨rfl, rfl⟩
theorem below1_any {w : World} {c : Nat} {r : Int} (h : Blk w c 3 #[.int .i64 r]) (x : Int) : Calls Tryz.prog 151 #[.int .i64 x, .pointer (some ⟨c, 0, none⟩)] w fun e w' => e = .returned (.bool (decide (r ≤ x))) ∧ w = w' := by
  have c0 : w.cell? ⟨c, 0, none⟩ = some (.int .i64 r) := h.cell 0
  clear h
  by_cases hx : r ≤ x
  · have hx' : decide (r ≤ x) = true := decide_eq_true hx
    rw [hx']
    go_enter Tryz.func151, Tryz.ntmps151
    go_wp2
    go_ret
    exact ⟨by simp, rfl⟩
  · have hx' : decide (r ≤ x) = false := decide_eq_false hx
    rw [hx']
    go_enter Tryz.func151, Tryz.ntmps151
    go_wp2
    go_ret
    exact ⟨by simp, rfl⟩
def offI (r : Int) (x : Nat → Int) (n : Nat) : Bool := (List.range n).any fun i => decide (r ≤ x i)
theorem offI_succ (r : Int) (x : Nat → Int) (n : Nat) : offI r x (n + 1) = (offI r x n || decide (r ≤ x n)) := by simp [offI, List.range_succ]
theorem offI_of {r : Int} {x : Nat → Int} {n : Nat} {k : Nat} (h : k < n) (e : decide (r ≤ x k) = true) : offI r x n = true := by
  unfold offI; rw [List.any_eq_true]; exact ⟨k, List.mem_range.2 h, e⟩
set_option maxRecDepth 100000 in
set_option maxHeartbeats 1000000 in
theorem bidx_any {n : Nat} {x : Nat → Int} {w : World} {v : Value} {c : Nat} {r : Int} (hv : Slic w v n fun i => .int .i64 (x i)) (hn : n < 1099511627776) (hc : Blk w c 3 #[.int .i64 r]) :
    Calls Tryz.prog 158 #[v, .func (.func 151) #[] #[.pointer (some ⟨c, 0, none⟩)]] w fun e w' => (∃ r' : Int, e = .returned (.int .i64 r') ∧ decide (0 ≤ r') = offI r x n) ∧ w = w' := by
  obtain ⟨p, cap, rfl, hS⟩ := hv
  have HS := Lib.hid hS
  have HC := Lib.hid hc
  clear hS hc
  go_enter Tryz.func158, Tryz.ntmps158
  go_wp2
  go_loopw [8] (fun u wr => (∃ i : Nat, i ≤ n ∧ u = .int .i64 i ∧ offI r x i = false) ∧ wr = w) (fun u _ => ((n : Int) - intOf u).toNat)
  case atStart => exact ⟨⟨0, by omega, rfl, rfl⟩, rfl⟩
  case round =>
    obtain ⟨⟨k, hk1, rfl, hno⟩, rfl⟩ := hrel
    by_cases hk : k < n
    · obtain ⟨g0, off, rfl, hg, hx⟩ := HS.out (by omega)
      have x0 : wr.cell? ⟨g0, off + k, none⟩ = some (.int .i64 (x k)) := hx k hk
      have HR := Lib.hid (below1_any HC.out (x k))
      clear hx
      cases he : decide (r ≤ x k) with
      | true =>
        have hh : offI r x n = true := offI_of hk he
        rw [he] at HR
        clear he
        go_wp2_with (go_at_call 151; ((with_reducible refine HR.out.mono ?_); rintro e w' ⟨rfl, rfl⟩))
        go_ret
        exact ⟨⟨k, rfl, by rw [hh]; simp⟩, rfl⟩
      | false =>
        have hs : offI r x (k + 1) = false := by rw [offI_succ, hno, he]; rfl
        rw [he] at HR
        clear he
        go_wp2_with (go_at_call 151; ((with_reducible refine HR.out.mono ?_); rintro e w' ⟨rfl, rfl⟩))
        go_roundw
        case rel => exact ⟨⟨k + 1, by omega, rfl, hs⟩, by trivial⟩
        case measure => simp [intOf]; omega
    · have : k = n := by omega
      subst this
      go_wp2
      go_ret
      exact ⟨⟨-1, rfl, by rw [hno]; rfl⟩, rfl⟩
set_option maxHeartbeats 400000 in
theorem bcon_any {n : Nat} {x : Nat → Int} {w : World} {v : Value} {c : Nat} {r : Int} (hv : Slic w v n fun i => .int .i64 (x i)) (hn : n < 1099511627776) (hc : Blk w c 3 #[.int .i64 r]) :
    Calls Tryz.prog 147 #[v, .func (.func 151) #[] #[.pointer (some ⟨c, 0, none⟩)]] w fun e w' => e = .returned (.bool (offI r x n)) ∧ w = w' := by
  have HI := Lib.hid (bidx_any hv hn hc)
  obtain ⟨p, cap, rfl, hS⟩ := hv
  clear hS hc
  go_enter Tryz.func147, Tryz.ntmps147
  go_wp2_with (go_at_call 158; ((with_reducible refine HI.out.mono ?_); rintro e w' ⟨⟨r, rfl, hr⟩, rfl⟩))
  go_ret
  exact ⟨by show Ending.returned (.bool _) = _; rw [← hr], rfl⟩
theorem Slic.alloc' {w : World} {v : Value} {n : Nat} {x : Nat → Int} (hv : Slic w v n fun i => .int .i64 (x i)) (o : Obj) : Slic (w.alloc o) v n fun i => .int .i64 (x i) := by
  obtain ⟨p, cap, rfl, hS⟩ := hv
  refine ⟨p, cap, rfl, fun hn => ?_⟩
  obtain ⟨g, off, e, hg, hc⟩ := hS hn
  exact ⟨g, off, e, by simp; omega, fun i hi => by rw [((Below.refl _ w).alloc (Nat.le_refl _) o).cell (p := ⟨g, _, none⟩) hg]; exact hc i hi⟩
set_option maxHeartbeats 400000 in
theorem below_any {n : Nat} {x : Nat → Int} {w : World} {v : Value} {r : Int} {t : Bool} (hv : Slic w v n fun i => .int .i64 (x i)) (hn : n < 1099511627776) (ht : offI r x n = t) :
    Calls Tryz.prog 133 #[.int .i64 r, v] w fun e w' => e = .returned (.bool (!t)) ∧ Below w.heap.size w w' := by
  subst ht
  have HI := Lib.hid (bcon_any (hv.alloc' (.cells #[.int .i64 r] 3)) hn (Blk.new w 3 #[.int .i64 r]))
  have HB := Lib.hid ((Below.refl _ w).alloc (Nat.le_refl _) (.cells #[.int .i64 r] 3))
  obtain ⟨p, cap, rfl, hS⟩ := hv
  clear hS
  cases hh : offI r x n with
  | true =>
    rw [hh] at HI
    go_enter Tryz.func133, Tryz.ntmps133
    go_wp2_with (go_at_call 147; ((with_reducible refine HI.out.mono ?_); rintro e w' ⟨rfl, rfl⟩))
    go_ret
    exact ⟨rfl, HB.out⟩
  | false =>
    rw [hh] at HI
    go_enter Tryz.func133, Tryz.ntmps133
    go_wp2_with (go_at_call 147; ((with_reducible refine HI.out.mono ?_); rintro e w' ⟨rfl, rfl⟩))
    go_ret
    exact ⟨rfl, HB.out⟩
theorem below_10 {w : World} {g : Nat} {T : TypeId} {r x : Int} {t : Bool} (hb : Blk w g T #[.int .i64 x]) (ht : decide (r ≤ x) = t) :
    Calls Tryz.prog 133 #[.int .i64 r, .slice (some ⟨g, 0, none⟩) 1 1] w fun e w' => e = .returned (.bool (!t)) ∧ Below w.heap.size w w' :=
  below_any (n := 1) (x := fun _ => x) ⟨_, _, rfl, fun _ => ⟨g, 0, rfl, hb.lt, fun i hi => by
    have := hb.cell i
    rw [Nat.zero_add, this]
    have : i = 0 := by omega
    subst this; rfl⟩⟩ (by decide) (by rw [offI_succ]; show (false || _) = _; rw [Bool.false_or]; exact ht)
theorem below_20 {w : World} {g : Nat} {T : TypeId} {r x y : Int} {t : Bool} (hb : Blk w g T #[.int .i64 x, .int .i64 y]) (ht : (decide (r ≤ x) || decide (r ≤ y)) = t) :
    Calls Tryz.prog 133 #[.int .i64 r, .slice (some ⟨g, 0, none⟩) 2 2] w fun e w' => e = .returned (.bool (!t)) ∧ Below w.heap.size w w' :=
  below_any (n := 2) (x := fun i => if i = 0 then x else y) ⟨_, _, rfl, fun _ => ⟨g, 0, rfl, hb.lt, fun i hi => by
    have := hb.cell i
    rw [Nat.zero_add, this]
    have : i = 0 ∨ i = 1 := by omega
    rcases this with rfl | rfl <;> rfl⟩⟩ (by decide) (by rw [offI_succ, offI_succ]; show ((false || _) || _) = _; rw [Bool.false_or]; exact ht)
theorem below_30 {w : World} {g : Nat} {T : TypeId} {r x y z : Int} {t : Bool} (hb : Blk w g T #[.int .i64 x, .int .i64 y, .int .i64 z]) (ht : (decide (r ≤ x) || decide (r ≤ y) || decide (r ≤ z)) = t) :
    Calls Tryz.prog 133 #[.int .i64 r, .slice (some ⟨g, 0, none⟩) 3 3] w fun e w' => e = .returned (.bool (!t)) ∧ Below w.heap.size w w' :=
  below_any (n := 3) (x := fun i => if i = 0 then x else if i = 1 then y else z) ⟨_, _, rfl, fun _ => ⟨g, 0, rfl, hb.lt, fun i hi => by
    have := hb.cell i
    rw [Nat.zero_add, this]
    have : i = 0 ∨ i = 1 ∨ i = 2 := by omega
    rcases this with rfl | rfl | rfl <;> rfl⟩⟩ (by decide) (by rw [offI_succ, offI_succ, offI_succ]; show (((false || _) || _) || _) = _; rw [Bool.false_or]; exact ht)
theorem below_1 {w : World} {g : Nat} {T : TypeId} {r x : Int} {t : Bool} (hb : Blk w g T #[.int .i64 x]) (ht : decide (r ≤ x) = !t) :
    Calls Tryz.prog 133 #[.int .i64 r, .slice (some ⟨g, 0, none⟩) 1 1] w fun e w' => e = .returned (.bool t) ∧ Below w.heap.size w w' :=
  (below_10 hb ht).mono fun e w' ⟨h, hb⟩ => ⟨by rw [h, Bool.not_not], hb⟩
theorem below_2 {w : World} {g : Nat} {T : TypeId} {r x y : Int} {t : Bool} (hb : Blk w g T #[.int .i64 x, .int .i64 y]) (ht : (decide (r ≤ x) || decide (r ≤ y)) = !t) :
    Calls Tryz.prog 133 #[.int .i64 r, .slice (some ⟨g, 0, none⟩) 2 2] w fun e w' => e = .returned (.bool t) ∧ Below w.heap.size w w' :=
  (below_20 hb ht).mono fun e w' ⟨h, hb⟩ => ⟨by rw [h, Bool.not_not], hb⟩
theorem below_3 {w : World} {g : Nat} {T : TypeId} {r x y z : Int} {t : Bool} (hb : Blk w g T #[.int .i64 x, .int .i64 y, .int .i64 z]) (ht : (decide (r ≤ x) || decide (r ≤ y) || decide (r ≤ z)) = !t) :
    Calls Tryz.prog 133 #[.int .i64 r, .slice (some ⟨g, 0, none⟩) 3 3] w fun e w' => e = .returned (.bool t) ∧ Below w.heap.size w w' :=
  (below_30 hb ht).mono fun e w' ⟨h, hb⟩ => ⟨by rw [h, Bool.not_not], hb⟩
end Go.Proofs.YtlahficmkfgooaaGreat
