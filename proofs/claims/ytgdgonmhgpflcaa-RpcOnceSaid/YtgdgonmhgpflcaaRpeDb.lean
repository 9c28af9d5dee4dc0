import Derived.Test.YtgdgonmhgpflcaaMgk

/- What the document's Answer finds, and what it forgets, as data. No program in sight. -/
namespace Go.Proofs.Ytgdgonmhgpflcaa
open Go.RowKit Go.Maps Wire Rp
set_option linter.unusedVariables false
set_option linter.unusedSimpArgs false
namespace Rp
/-- The place of the call that is not done, among the first; -1: none. -/
def KInv (L : List He) (sq : Int) (j : Nat) (z : Int) : Prop :=
  (z = -1 ∧ ∀ i (hi : i < L.length), i < j → ¬ (L[i].seq = sq ∧ L[i].dn = false)) ∨ ∃ i, ∃ hi : i < L.length, i < j ∧ (L[i].seq = sq ∧ L[i].dn = false) ∧ z = (i : Int)
theorem KInv.start (L : List He) (sq : Int) : KInv L sq 0 (-1) := .inl ⟨rfl, fun i _ h => by omega⟩
theorem KInv.hit {L : List He} {sq : Int} {j : Nat} (hj : j < L.length) (h : L[j].seq = sq ∧ L[j].dn = false) : KInv L sq (j + 1) (j : Int) := .inr ⟨j, hj, Nat.lt_succ_self _, h, rfl⟩
theorem KInv.miss {L : List He} {sq : Int} {j : Nat} {z : Int} (k : KInv L sq j z) (hj : j < L.length) (h : ¬ (L[j].seq = sq ∧ L[j].dn = false)) : KInv L sq (j + 1) z := by
  rcases k with ⟨e, k⟩ | ⟨i, hi, h1, h2, e⟩
  · refine .inl ⟨e, fun i hi hij => ?_⟩
    rcases Nat.lt_or_ge i j with h' | h'
    · exact k i hi h'
    · obtain rfl : i = j := by omega
      exact h
  · exact .inr ⟨i, hi, by omega, h2, e⟩
theorem KInv.none {L : List He} {sq z : Int} (k : KInv L sq L.length z) (hz : z < 0) {h : He} (hh : lookH L sq = some h) : h.dn = true := by
  rcases k with ⟨e, k⟩ | ⟨i, hi, h1, h2, e⟩
  · obtain ⟨hm, hs⟩ := lookH_some hh
    obtain ⟨i, hi, rfl⟩ := List.mem_iff_getElem.1 hm
    have := k i hi hi
    cases hd : L[i].dn with
    | true => rfl
    | false => exact absurd ⟨hs, hd⟩ this
  · omega
theorem KInv.some {L : List He} {sq z : Int} (k : KInv L sq L.length z) (hz : ¬ z < 0) (hd : L.Pairwise fun a b => a.seq ≠ b.seq) : ∃ i, ∃ hi : i < L.length, z = (i : Int) ∧ L[i].seq = sq ∧ L[i].dn = false ∧ lookH L sq = some L[i] := by
  rcases k with ⟨e, k⟩ | ⟨i, hi, h1, h2, e⟩
  · omega
  · refine ⟨i, hi, e, h2.1, h2.2, lookH_at hi ?_ h2.1⟩
    rw [List.any_eq_false]
    intro y hy
    obtain ⟨m, hm, rfl⟩ := List.mem_iff_getElem.1 hy
    rw [List.length_take] at hm
    rw [List.getElem_take]
    rw [List.pairwise_iff_getElem] at hd
    have := hd m i (by omega) hi (by omega)
    simpa [h2.1] using this
theorem setH_at {L : List He} {h : He} {i : Nat} (hi : i < L.length) (hs : L[i].seq = h.seq) (hd : L.Pairwise fun a b => a.seq ≠ b.seq) : setH L h = L.set i h := by
  unfold setH
  apply List.ext_getElem
  · simp
  · intro j h1 h2
    simp only [List.length_map] at h1
    simp only [List.getElem_map, List.getElem_set]
    rw [List.pairwise_iff_getElem] at hd
    split
    · rename_i e
      rw [if_pos]
      rcases Nat.lt_trichotomy i j with h' | h' | h'
      · exact absurd (hs.trans e.symm) (hd i j hi h1 h')
      · exact h'
      · exact absurd (e.trans hs.symm) (hd j i h1 hi h')
    · rename_i e
      rw [if_neg]
      intro h'
      subst h'
      exact e hs
/-- The place of the least that is done, among the first; -1: none. -/
def LInv (L : List He) (j : Nat) (z : Int) : Prop :=
  (z = -1 ∧ ∀ i (hi : i < L.length), i < j → L[i].dn = false) ∨ ∃ i, ∃ hi : i < L.length, i < j ∧ L[i].dn = true ∧ z = (i : Int) ∧ ∀ m (hm : m < L.length), m < j → L[m].dn = true → L[i].seq ≤ L[m].seq
theorem LInv.start (L : List He) : LInv L 0 (-1) := .inl ⟨rfl, fun i _ h => by omega⟩
theorem LInv.skip {L : List He} {j : Nat} {z : Int} (k : LInv L j z) (hj : j < L.length) (h : L[j].dn = false) : LInv L (j + 1) z := by
  rcases k with ⟨e, k⟩ | ⟨i, hi, h1, h2, e, k⟩
  · refine .inl ⟨e, fun i hi hij => ?_⟩
    rcases Nat.lt_or_ge i j with h' | h'
    · exact k i hi h'
    · obtain rfl : i = j := by omega
      exact h
  · refine .inr ⟨i, hi, by omega, h2, e, fun m hm hmj hd => ?_⟩
    rcases Nat.lt_or_ge m j with h' | h'
    · exact k m hm h' hd
    · obtain rfl : m = j := by omega
      rw [h] at hd; cases hd
theorem LInv.first {L : List He} {j : Nat} {z : Int} (k : LInv L j z) (hz : z < 0) (hj : j < L.length) (h : L[j].dn = true) : LInv L (j + 1) (j : Int) := by
  rcases k with ⟨e, k⟩ | ⟨i, hi, h1, h2, e, k⟩
  · refine .inr ⟨j, hj, by omega, h, rfl, fun m hm hmj hd => ?_⟩
    rcases Nat.lt_or_ge m j with h' | h'
    · have := k m hm h'; rw [this] at hd; cases hd
    · obtain rfl : m = j := by omega
      exact Int.le_refl _
  · omega
theorem LInv.less {L : List He} {j i : Nat} (k : LInv L j (i : Int)) (hi : i < L.length) (hj : j < L.length) (h : L[j].dn = true) (hl : L[j].seq < L[i].seq) : LInv L (j + 1) (j : Int) := by
  rcases k with ⟨e, k⟩ | ⟨i', hi', h1, h2, e, k⟩
  · omega
  · obtain rfl : i = i' := by omega
    refine .inr ⟨j, hj, by omega, h, rfl, fun m hm hmj hd => ?_⟩
    rcases Nat.lt_or_ge m j with h' | h'
    · have := k m hm h' hd; omega
    · obtain rfl : m = j := by omega
      exact Int.le_refl _
theorem LInv.more {L : List He} {j i : Nat} (k : LInv L j (i : Int)) (hi : i < L.length) (hj : j < L.length) (hl : ¬ L[j].seq < L[i].seq) : LInv L (j + 1) (i : Int) := by
  rcases k with ⟨e, k⟩ | ⟨i', hi', h1, h2, e, k⟩
  · omega
  · obtain rfl : i = i' := by omega
    refine .inr ⟨i, hi, by omega, h2, rfl, fun m hm hmj hd => ?_⟩
    rcases Nat.lt_or_ge m j with h' | h'
    · exact k m hm h' hd
    · obtain rfl : m = j := by omega
      omega
theorem LInv.lt {L : List He} {j : Nat} {z : Int} (k : LInv L j z) (hz : ¬ z < 0) : ∃ i, ∃ hi : i < L.length, i < j ∧ z = (i : Int) := by
  rcases k with ⟨e, k⟩ | ⟨i, hi, h1, h2, e, k⟩
  · omega
  · exact ⟨i, hi, h1, e⟩
theorem cntT_take {L : List He} {j : Nat} (hj : j < L.length) : cntD true (L.take (j + 1)) = cntD true (L.take j) + (if L[j].dn then 1 else 0) := by
  unfold cntD
  rw [List.take_succ_eq_append_getElem hj, List.countP_append]
  congr 1
  cases h : L[j].dn <;> simp [List.countP_cons, h]
theorem eraseH {L : List He} (hd : L.Pairwise fun a b => a.seq ≠ b.seq) {i : Nat} (hi : i < L.length) : delH L L[i].seq = L.eraseIdx i := by
  unfold delH
  induction L generalizing i with
  | nil => cases hi
  | cons a L ih =>
    rw [List.pairwise_cons] at hd
    cases i with
    | zero =>
      simp only [List.getElem_cons_zero, List.filter_cons, beq_self_eq_true, Bool.not_true, Bool.false_eq_true, if_false, List.eraseIdx_zero, List.tail_cons]
      rw [List.filter_eq_self]
      intro x hx
      have := hd.1 x hx
      simpa using fun e => this e.symm
    | succ i =>
      simp only [List.length_cons] at hi
      have hi' : i < L.length := by omega
      have hne : a.seq ≠ L[i].seq := hd.1 _ (List.getElem_mem hi')
      simp only [List.getElem_cons_succ, List.filter_cons, List.eraseIdx_cons_succ]
      rw [if_pos (by simpa using hne), ih hd.2 hi']
/-- What is forgotten of more than 64 that are done. -/
theorem forget_at {p : Pe} (hd : p.L.Pairwise fun a b => a.seq ≠ b.seq) (hk : ∀ h ∈ p.L, hOk h) {z : Int} (k : LInv p.L p.L.length z) (h : ¬ cntD true p.L ≤ 64) :
    ∃ i, ∃ hi : i < p.L.length, z = (i : Int) ∧ forgetP p = { p with L := p.L.eraseIdx i, floor := max p.floor p.L[i].seq } := by
  rcases k with ⟨e, k⟩ | ⟨i, hi, h1, h2, e, k⟩
  · exfalso
    apply h
    have : cntD true p.L = 0 := by
      unfold cntD
      rw [List.countP_eq_zero]
      intro x hx
      obtain ⟨m, hm, rfl⟩ := List.mem_iff_getElem.1 hx
      rw [k m hm hm]; simp
    omega
  · refine ⟨i, hi, e, ?_⟩
    have hl : p.L[i].seq = leastD p.L := least_uniq ⟨fun g hg hgd => by
      obtain ⟨m, hm, rfl⟩ := List.mem_iff_getElem.1 hg
      exact k m hm hm hgd, .inr ⟨_, List.getElem_mem hi, h2, rfl⟩, by have := hk _ (List.getElem_mem hi); unfold hOk at this; omega⟩
    unfold forgetP
    rw [if_neg h, ← hl, eraseH hd hi]
theorem forget_not {p : Pe} (h : cntD true p.L ≤ 64) : forgetP p = p := if_pos h
theorem LB.set {L : List He} (h : LB L) {g : He} (hg : hOk g) {i : Nat} (hi : i < L.length) (hs : L[i].seq = g.seq) : LB (L.set i g) := by
  have e : L.set i g = setH L g := (setH_at hi hs h.2.2).symm
  refine ⟨by rw [List.length_set]; exact h.1, fun x hx => ?_, ?_⟩
  · rcases List.mem_or_eq_of_mem_set hx with e | e
    · exact h.2.1 x e
    · rw [e]; exact hg
  · rw [e]
    unfold setH
    rw [List.pairwise_map]
    refine h.2.2.imp fun {a b} hab => ?_
    have e1 : (if a.seq = g.seq then g else a).seq = a.seq := by split <;> simp_all
    have e2 : (if b.seq = g.seq then g else b).seq = b.seq := by split <;> simp_all
    rw [e1, e2]; exact hab
theorem rowsHe_len (l : List He) : (rowsHe l).length = l.length * 3 := by
  unfold rowsHe
  induction l with
  | nil => rfl
  | cons a l ih => rw [List.flatMap_cons, List.length_append, ih]; show 3 + _ = _; rw [List.length_cons]; omega
theorem rowsHe_app (l m : List He) : rowsHe (l ++ m) = rowsHe l ++ rowsHe m := by unfold rowsHe; rw [List.flatMap_append]
theorem rowsHe_one (L : List He) : ∀ u ∈ rowsHe L, u.oneCell' = true := by
  intro u hu
  unfold rowsHe at hu
  obtain ⟨h, _, hu⟩ := List.mem_flatMap.1 hu
  unfold hcells at hu
  simp at hu
  rcases hu with rfl | rfl | rfl <;> rfl
theorem rowsHe_split (l : List He) (i : Nat) : rowsHe l = rowsHe (l.take i) ++ rowsHe (l.drop i) := by rw [← rowsHe_app, List.take_append_drop]
end Rp
end Go.Proofs.Ytgdgonmhgpflcaa
