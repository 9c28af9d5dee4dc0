import Derived.Test.YtpidhcogaoehhaaChkG
import Derived.Test.YtpidhcogaoehhaaMgb

/- Rows of numbers as results; 'same' at the same ones; the document's 'Input'. No condition but that rows are not too long and numbers fit their kinds. -/
namespace Go.Proofs.Ytpidhcogaoehhaa
open Go.RowKit Cd
set_option linter.unusedVariables false
set_option linter.unusedSimpArgs false
def IntsAt (w : World) (v : Value) (l : List Int) : Prop :=
  ∃ p cap, v = .slice p l.length cap ∧ (0 < l.length → ∃ g off, p = some ⟨g, off, none⟩ ∧ g < w.heap.size ∧ ∀ i (h : i < l.length), w.cell? ⟨g, off + i, none⟩ = some (.int .i64 l[i]))
theorem IntsAt.below {w w' : World} {v : Value} {l : List Int} (h : IntsAt w v l) (hb : Below w.heap.size w w') : IntsAt w' v l := by
  obtain ⟨p, cap, rfl, hx⟩ := h
  refine ⟨p, cap, rfl, fun hl => ?_⟩
  obtain ⟨g, off, rfl, hg, hc⟩ := hx hl
  exact ⟨g, off, rfl, Nat.lt_of_lt_of_le hg hb.size, fun i hi => by rw [hb.cell (p := ⟨g, _, none⟩) hg]; exact hc i hi⟩
theorem IntsAt.slice {w : World} {v : Value} {l : List Int} (h : IntsAt w v l) : ∃ p cap, v = .slice p l.length cap := by obtain ⟨p, cap, e, _⟩ := h; exact ⟨p, cap, e⟩
theorem IntsAt.of {w : World} {B : Nat} {T : TypeId} {v : Value} {l : List Int} (h : w.ownsRow B T 1 v l.length (l.map (Value.int .i64))) : IntsAt w v l := by
  obtain ⟨hl, ⟨rfl, h0⟩ | ⟨g, cap, cur, rfl, hb, hg, h1, h2, h3, h4⟩⟩ := h
  · exact ⟨none, 0, by rw [h0], fun h => by omega⟩
  · refine ⟨_, cap, rfl, fun _ => ⟨g, 0, rfl, (Array.getElem?_eq_some_iff.1 hg).1, fun i hi => ?_⟩⟩
    rw [Nat.zero_add, (show Blk w g T cur from hg).cell i, ← Array.getElem?_toList]
    have e3 : cur.toList[i]? = (cur.toList.take (l.length * 1))[i]? := by rw [List.getElem?_take, if_pos (by omega)]
    rw [e3, h4, List.getElem?_map, List.getElem?_eq_getElem hi]
    rfl
set_option maxRecDepth 100000 in
set_option maxHeartbeats 2000000 in
theorem same_t {W : World} {v u : Value} {l : List Int} (hv : IntsAt W v l) (hu : IntsAt W u l) (hl : l.length ≤ 100) : Calls Try.prog 11 #[v, u] W fun e w' => e = .returned (.bool true) ∧ Below W.heap.size W w' := by
  obtain ⟨p1, c1, rfl, h1⟩ := hv
  obtain ⟨p2, c2, rfl, h2⟩ := hu
  have H1 := Lib.hid h1
  have H2 := Lib.hid h2
  clear h1 h2
  go_enter Try.func11, Try.ntmps11
  go_wp2
  go_loopw [5] (fun u wr => ∃ i : Nat, i ≤ l.length ∧ u = .int .i64 i ∧ Below W.heap.size W wr) (fun u _ => ((l.length : Int) - intOf u).toNat)
  case atStart => exact ⟨0, by omega, rfl, Below.refl _ _⟩
  case round =>
    obtain ⟨k, hk1, rfl, hb⟩ := hrel
    by_cases hk : k < l.length
    · obtain ⟨g1, o1, rfl, hg1, hx⟩ := H1.out (by omega)
      obtain ⟨g2, o2, rfl, hg2, hy⟩ := H2.out (by omega)
      have x0 := hx k hk
      have y0 := hy k hk
      rw [← hb.cell (p := ⟨g1, _, none⟩) hg1] at x0
      rw [← hb.cell (p := ⟨g2, _, none⟩) hg2] at y0
      have hkk : (k : Int) < (l.length : Int) := by omega
      have hkk0 : (0 : Int) ≤ (k : Int) := by omega
      have HB := Lib.hid hb
      clear hx hy hb
      generalize l[k] = z at *
      go_upto_region 6 with fail
      go_region
      all_goals go_wp2_with fail
      all_goals go_roundw
      all_goals first
        | (case rel => exact ⟨k + 1, by omega, rfl, HB.out.drew⟩)
        | (case measure => simp [intOf]; omega)
        | skip
    · have : k = l.length := by omega
      subst this
      go_wp2
      go_ret
      exact ⟨rfl, hb⟩
set_option maxRecDepth 100000 in
set_option maxHeartbeats 2000000 in
theorem rinput11_any {W : World} {x : Value} {l : List FunV} {q : Option Addr} {m cq : Nat} (hx : FunsAt W x l) (hl : Lim l) (ho : OkP l) : Calls Try.prog 10 #[.agg #[x], .slice q m cq] W fun e w' => ∃ r : Int, e = .returned (.int .i64 r) ∧ r = inE l m ∧ Below W.heap.size W w' := by
  have HB := Lib.hid ((Below.refl _ W).alloc (Nat.le_refl _) (.cells #[x] 24))
  have HK := Lib.hid (rmay11_any (hx.alloc (.cells #[x] 24)) hl ho)
  have HT := Lib.hid (Blk.new W 24 #[x])
  have HV := Lib.hid hx
  obtain ⟨p, cap, rfl⟩ := hx.slice
  clear hx hl ho
  go_enter Try.func10, Try.ntmps10
  go_upto_region 2 with (go_at_call 8; ((with_reducible refine HK.out.mono ?_); rintro e w2 ⟨c, fn, op, rfl, hE, b1⟩; have HB2 := Lib.hid (HB.out.step b1); have HT1 := Lib.hid (HT.out.below b1); have HE := Lib.hid hE; have t0 : w2.cell? ⟨W.heap.size, 0, none⟩ = some (.slice p l.length cap) := HT1.out.cell 0; clear b1 hE))
  clear HB HK HT HT1
  by_cases hc : c = 0
  · subst hc
    have hlp := look_cons HE.out
    obtain ⟨p', c', e1, hy⟩ := HV.out
    injection e1 with e1 _ e3
    subst e1 e3
    obtain ⟨g, off, rfl, hg, hy⟩ := hy hlp
    have x0 := (hy 0 hlp).1
    rw [← HB2.out.cell (p := ⟨g, _, none⟩) hg] at x0
    have hA : argsAt l 0 = l[0].args := by unfold argsAt; rw [show (0 : Int).toNat = 0 from rfl, List.getElem?_eq_getElem hlp]; rfl
    have hin : inE l m = if (m : Int) ≠ l[0].args then 114 else 0 := by unfold inE; rw [HE.out, hA]; rfl
    rw [Nat.zero_mul, Nat.add_zero] at x0
    clear hy hA
    generalize l[0].args = A at *
    by_cases hm : (m : Int) = A
    · have hr : inE l m = 0 := by rw [hin, if_neg (by simp [hm])]
      have hm' : ((m : Int) == A) = true := by simpa using hm
      have HR := Lib.hid hr
      clear hin hm hr
      go_wp2_with fail
      go_ret
      exact ⟨_, rfl, HR.out.symm, HB2.out⟩
    · have hr : inE l m = 114 := by rw [hin, if_pos hm]
      have hm' : ((m : Int) == A) = false := by simpa using hm
      have HR := Lib.hid hr
      clear hin hm hr
      go_wp2_with fail
      go_ret
      exact ⟨_, rfl, HR.out.symm, HB2.out⟩
  · have hc' : (c == 0) = false := by simpa using hc
    have hr : inE l m = c := by unfold inE; rw [HE.out, if_pos hc]
    have HR := Lib.hid hr
    clear hr hc
    go_wp2_with fail
    go_ret
    exact ⟨_, rfl, HR.out.symm, HB2.out⟩
end Go.Proofs.Ytpidhcogaoehhaa


/- Which functions reach which, in plain terms. No condition. -/
namespace Go.Proofs.Ytpidhcogaoehhaa
open Go.RowKit Cd
set_option linter.unusedVariables false
set_option linter.unusedSimpArgs false
namespace Cd
/-- A function forks another one. -/
def Fk (l : List FunV) (i j : Nat) : Prop := ∃ h : i < l.length, ∃ o ∈ l[i].ops, o.k = 12 ∧ o.n = (j : Int)
inductive Rch (l : List FunV) : Nat → Nat → Prop
  | one {i j : Nat} : Fk l i j → Rch l i j
  | more {i j k : Nat} : Rch l i j → Fk l j k → Rch l i k
theorem Rch.cons {l : List FunV} {i j k : Nat} (h : Fk l i j) (r : Rch l j k) : Rch l i k := by
  induction r with
  | one e => exact .more (.one h) e
  | more r e ih => exact .more ih e
/-- A set that holds what a function forks, and what those fork that it holds. -/
def Clos (l : List FunV) (fn : Nat) (M : Nat → Prop) : Prop := (∀ j, Fk l fn j → M j) ∧ ∀ i j, M i → Fk l i j → M j
theorem Clos.all {l : List FunV} {fn : Nat} {M : Nat → Prop} (h : Clos l fn M) {j : Nat} (r : Rch l fn j) : M j := by
  induction r with
  | one e => exact h.1 _ e
  | more r e ih => exact h.2 _ _ ih e
theorem clos_iff {l : List FunV} {fn : Nat} {M : Nat → Prop} (h : Clos l fn M) (hs : ∀ j, M j → Rch l fn j) (j : Nat) : M j ↔ Rch l fn j := ⟨hs j, fun r => h.all r⟩
open Classical in
/-- What a function reaches, by rising numbers. -/
noncomputable def reachL (l : List FunV) (fn : Nat) : List Nat := (List.range l.length).filter fun j => decide (Rch l fn j)
theorem reachL_of {l : List FunV} {fn : Nat} {p : Nat → Bool} (h : ∀ j, j < l.length → (p j = true ↔ Rch l fn j)) : (List.range l.length).filter p = reachL l fn := by
  unfold reachL
  apply List.filter_congr
  intro j hj
  have := h j (List.mem_range.1 hj)
  by_cases hr : Rch l fn j
  · rw [this.2 hr]; simp [hr]
  · have hp : p j = false := by cases hp : p j with
      | true => exact absurd (this.1 hp) hr
      | false => rfl
    rw [hp]; simp [hr]
/-! ### A function's search, depth first -/
/-- From a set C, a search at v that began with M: what its first ops fork is there; what has come is reached by v, and what it forks is there. -/
structure Dfs (l : List FunV) (v : Nat) (M C : Nat → Prop) : Prop where
  sub : ∀ u, M u → C u
  new : ∀ u, C u → ¬ M u → Rch l v u ∧ ∀ j, Fk l u j → C j
theorem Dfs.refl (l : List FunV) (v : Nat) (M : Nat → Prop) : Dfs l v M M := ⟨fun _ h => h, fun u h h2 => absurd h h2⟩
/-- One more is met, and searched. -/
theorem Dfs.step {l : List FunV} {v n : Nat} {M C D : Nat → Prop} (h : Dfs l v M C) (he : Fk l v n) (hd : Dfs l n (fun u => C u ∨ u = n) D) (hs : ∀ j, Fk l n j → D j) : Dfs l v M D := by
  have hCD : ∀ u, C u → D u := fun u hu => hd.sub u (.inl hu)
  refine ⟨fun u hu => hCD u (h.sub u hu), fun u hu hm => ?_⟩
  by_cases hc : C u
  · obtain ⟨h1, h2⟩ := h.new u hc hm
    exact ⟨h1, fun j hj => hCD j (h2 j hj)⟩
  · by_cases hn : u = n
    · subst hn
      exact ⟨.one he, hs⟩
    · obtain ⟨h1, h2⟩ := hd.new u hu (fun h => h.elim hc hn)
      exact ⟨.cons he h1, h2⟩
theorem Dfs.clos {l : List FunV} {v : Nat} {C : Nat → Prop} (h : Dfs l v (fun _ => False) C) (hs : ∀ j, Fk l v j → C j) : (∀ j, C j → Rch l v j) ∧ Clos l v C :=
  ⟨fun j hj => (h.new j hj (fun f => f)).1, hs, fun i j hi => (h.new i hi (fun f => f)).2 j⟩
/-! ### The document's rounds -/
def cnt (m : List Bool) : Nat := (m.filter id).length
theorem cnt_le (m : List Bool) : cnt m ≤ m.length := List.length_filter_le _ _
theorem cnt_set {m : List Bool} {j : Nat} (h : j < m.length) : cnt m ≤ cnt (m.set j true) ∧ (m[j] = false → cnt (m.set j true) = cnt m + 1) := by
  induction m generalizing j with
  | nil => simp at h
  | cons b m ih =>
    cases j with
    | zero => cases b <;> simp [cnt]
    | succ j =>
      have := ih (j := j) (by simpa using h)
      cases b <;> simp [cnt] at this ⊢ <;> exact this
def Mt (m : List Bool) (j : Nat) : Prop := m[j]? = some true
theorem met_set {m : List Bool} {j k : Nat} (h : j < m.length) : Mt (m.set j true) k ↔ k = j ∨ Mt m k := by
  unfold Mt
  rw [List.getElem?_set]
  by_cases e : j = k
  · subst e; simp [h]
  · simp [e]
    intro h; exact absurd h.symm e
theorem cnt_all {m : List Bool} (h : m.length ≤ cnt m) (j : Nat) (hj : j < m.length) : Mt m j := by
  induction m generalizing j with
  | nil => simp at hj
  | cons b m ih =>
    have hc := cnt_le m
    cases b with
    | false =>
      have : cnt (false :: m) = cnt m := rfl
      rw [this] at h
      simp at h
      omega
    | true =>
      have e : cnt (true :: m) = cnt m + 1 := rfl
      rw [e] at h
      cases j with
      | zero => rfl
      | succ j => exact ih (by simpa using h) j (by simpa using hj)
/-- In a round: begun with m, c by now; the functions before i are looked through. -/
structure Rnd (l : List FunV) (fn : Nat) (m c : List Bool) (i : Nat) : Prop where
  len : c.length = l.length
  sub : ∀ j, Mt m j → Mt c j
  sound : ∀ j, Mt c j → Rch l fn j
  done : ∀ i', i' < i → i' = fn ∨ Mt m i' → ∀ j, Fk l i' j → Mt c j
  cnt : c = m ∨ cnt m < cnt c
/-- Behind r rounds. -/
structure Rds (l : List FunV) (fn : Nat) (m : List Bool) (r : Nat) : Prop where
  len : m.length = l.length
  sound : ∀ j, Mt m j → Rch l fn j
  clos : Clos l fn (Mt m) ∨ r ≤ cnt m
theorem Rds.start (l : List FunV) (fn : Nat) : Rds l fn (List.replicate l.length false) 0 := ⟨by simp, fun j h => by
  unfold Mt at h
  rw [List.getElem?_replicate] at h
  split at h <;> simp at h, .inr (Nat.zero_le _)⟩
theorem Rds.round {l : List FunV} {fn : Nat} {m : List Bool} {r : Nat} (h : Rds l fn m r) : Rnd l fn m m 0 := ⟨h.len, fun _ h => h, h.sound, fun i' h => absurd h (Nat.not_lt_zero _), .inl rfl⟩
theorem Rnd.set {l : List FunV} {fn : Nat} {m c : List Bool} {i j : Nat} (h : Rnd l fn m c i) (hj : j < l.length) (hr : Rch l fn j) : Rnd l fn m (c.set j true) i := by
  have hjc : j < c.length := by rw [h.len]; exact hj
  refine ⟨by rw [List.length_set]; exact h.len, fun k hk => (met_set hjc).2 (.inr (h.sub k hk)), fun k hk => ?_, fun i' hi he k hk => (met_set hjc).2 (.inr (h.done i' hi he k hk)), ?_⟩
  · rcases (met_set hjc).1 hk with rfl | hk
    · exact hr
    · exact h.sound k hk
  · have hc := cnt_set hjc
    cases hb : c[j] with
    | true =>
      have e : c.set j true = c := by
        apply List.ext_getElem?
        intro k
        rw [List.getElem?_set]
        by_cases e : j = k
        · subst e; simp [hjc, hb]
        · simp [e]
      rw [e]; exact h.cnt
    | false =>
      have := hc.2 hb
      rcases h.cnt with rfl | h2
      · exact .inr (by omega)
      · exact .inr (by omega)
theorem Rnd.next {l : List FunV} {fn : Nat} {m c : List Bool} {i : Nat} (h : Rnd l fn m c i) (hd : i = fn ∨ Mt m i → ∀ j, Fk l i j → Mt c j) : Rnd l fn m c (i + 1) :=
  ⟨h.len, h.sub, h.sound, fun i' hi he j hj => by
    rcases Nat.lt_or_ge i' i with h2 | h2
    · exact h.done i' h2 he j hj
    · have : i' = i := by omega
      subst this; exact hd he j hj, h.cnt⟩
theorem Rds.next {l : List FunV} {fn : Nat} {m c : List Bool} {r : Nat} (h : Rds l fn m r) (hc : Rnd l fn m c l.length) : Rds l fn c (r + 1) := by
  refine ⟨hc.len, hc.sound, ?_⟩
  rcases h.clos with h1 | h1
  · refine .inl ⟨fun j hj => hc.sub j (h1.1 j hj), fun i j hi hj => hc.sub j (h1.all (.more (hc.sound i hi) hj))⟩
  · rcases hc.cnt with rfl | h2
    · exact .inl ⟨fun j hj => hc.done fn hj.choose (.inl rfl) j hj, fun i j hi hj => hc.done i hj.choose (.inr hi) j hj⟩
    · exact .inr (by omega)
theorem Rds.end {l : List FunV} {fn : Nat} {m : List Bool} (h : Rds l fn m l.length) (hE : ∀ i j, Fk l i j → j < l.length) (j : Nat) : Mt m j ↔ Rch l fn j := by
  rcases h.clos with h1 | h1
  · exact clos_iff h1 h.sound j
  · have hall : ∀ j, j < l.length → Mt m j := fun j hj => cnt_all (by rw [h.len]; exact h1) j (by rw [h.len]; exact hj)
    exact clos_iff ⟨fun j hj => hall j (hE _ _ hj), fun i j _ hj => hall j (hE _ _ hj)⟩ h.sound j
/-! ### What a program that can be run forks is there -/
theorem opsE_ne {l : List FunV} {f : FunV} : ∀ (os : List OpV) (b : Nat) {e : Int} {k : Nat}, opsE l f b os = some (e, k) → e ≠ 0 := by
  intro os
  induction os with
  | nil => intro b e k h; cases h
  | cons o os ih =>
    intro b e k h
    have h' : (if opE l f o ≠ 0 then some (opE l f o, b) else opsE l f (b + 1) os) = some (e, k) := h
    by_cases hz : opE l f o ≠ 0
    · rw [if_pos hz] at h'
      injection h' with h'
      injection h' with h1 _
      rw [← h1]; exact hz
    · rw [if_neg hz] at h'
      exact ih _ h'
theorem opsE_zero {l : List FunV} {f : FunV} : ∀ (os : List OpV) (b : Nat), opsE l f b os = none → ∀ o ∈ os, opE l f o = 0 := by
  intro os
  induction os with
  | nil => intro b _ o h; simp at h
  | cons o os ih =>
    intro b h o' ho'
    have h' : (if opE l f o ≠ 0 then some (opE l f o, b) else opsE l f (b + 1) os) = none := h
    by_cases hz : opE l f o ≠ 0
    · rw [if_pos hz] at h'; cases h'
    · rw [if_neg hz] at h'
      rcases List.mem_cons.1 ho' with rfl | ho'
      · exact Decidable.not_not.1 hz
      · exact ih _ h' o' ho'
theorem funE_ne {l : List FunV} {f : FunV} {e : Int} {k : Nat} (h : funE l f = some (e, k)) : e ≠ 0 := by
  unfold funE at h
  by_cases ha : f.regs < f.args
  · rw [if_pos ha] at h
    injection h with h
    injection h with h1 _
    rw [← h1]; decide
  · rw [if_neg ha] at h
    cases ho : opsE l f 0 f.ops with
    | some x =>
      obtain ⟨e', k'⟩ := x
      rw [ho] at h
      have h' : some (e', k') = some (e, k) := h
      injection h' with h'
      injection h' with h1 _
      rw [← h1]; exact opsE_ne _ _ ho
    | none =>
      rw [ho] at h
      have h' : (if endsB f.ops = true then none else some ((113 : Int), f.ops.length - 1)) = some (e, k) := h
      by_cases he : endsB f.ops = true
      · rw [if_pos he] at h'; cases h'
      · rw [if_neg he] at h'
        injection h' with h'
        injection h' with h1 _
        rw [← h1]; decide
theorem funE_zero {l : List FunV} {f : FunV} (h : funE l f = none) : ∀ o ∈ f.ops, opE l f o = 0 := by
  unfold funE at h
  by_cases ha : f.regs < f.args
  · rw [if_pos ha] at h; cases h
  · rw [if_neg ha] at h
    cases ho : opsE l f 0 f.ops with
    | some x => rw [ho] at h; cases h
    | none => exact opsE_zero _ _ ho
theorem funsE_zero {l : List FunV} : ∀ (fs : List FunV) (b : Nat) {fn op : Nat}, funsE l b fs = (0, fn, op) → ∀ f ∈ fs, funE l f = none := by
  intro fs
  induction fs with
  | nil => intro b fn op _ f h; simp at h
  | cons f fs ih =>
    intro b fn op h f' hf'
    have h' : (match funE l f with | some (e, k) => (e, b, k) | none => funsE l (b + 1) fs) = (0, fn, op) := h
    cases hf : funE l f with
    | some x =>
      obtain ⟨e, k⟩ := x
      rw [hf] at h'
      injection h' with h1 _
      exact absurd h1 (funE_ne hf)
    | none =>
      rw [hf] at h'
      rcases List.mem_cons.1 hf' with rfl | hf'
      · exact hf
      · exact ih _ h' f' hf'
theorem look_zero {l : List FunV} {fn op : Nat} (h : lookE l = (0, fn, op)) : mayB l = true ∧ ∀ f ∈ l, funE l f = none := by
  unfold lookE at h
  cases hm : mayB l with
  | false => rw [hm, if_pos rfl] at h; injection h with h _; exact absurd h (by decide)
  | true =>
    rw [hm, if_neg (by decide)] at h
    by_cases hn : l = []
    · rw [if_pos hn] at h; injection h with h _; exact absurd h (by decide)
    · rw [if_neg hn] at h
      exact ⟨rfl, funsE_zero l 0 h⟩
theorem fork_in {l : List FunV} {f : FunV} (h : funE l f = none) {o : OpV} (ho : o ∈ f.ops) (hk : o.k = 12) : inB o.n l.length = true := by
  have h0 := funE_zero h o ho
  unfold opE at h0
  split at h0
  · exact absurd h0 (by decide)
  · split at h0
    · exact absurd h0 (by decide)
    · rw [hk] at h0
      simp only [BEq.rfl, Bool.true_eq_false, if_false] at h0
      cases hi : inB o.n l.length with
      | true => rfl
      | false => rw [hi, if_pos rfl] at h0; exact absurd h0 (by decide)
theorem edge_in {l : List FunV} {fn op : Nat} (h : lookE l = (0, fn, op)) (i j : Nat) (e : Fk l i j) : j < l.length := by
  obtain ⟨hi, o, ho, hk, hn⟩ := e
  have := fork_in ((look_zero h).2 _ (List.getElem_mem hi)) ho hk
  rw [hn] at this
  unfold inB at this
  simp only [Bool.and_eq_true, decide_eq_true_eq] at this
  omega
/-- What 'Reaches' answers. -/
noncomputable def reachX (l : List FunV) (fn : Int) : List Int := if (lookE l).1 = 0 ∧ 0 ≤ fn ∧ fn < l.length then (reachL l fn.toNat).map Int.ofNat else []
end Cd
end Go.Proofs.Ytpidhcogaoehhaa
