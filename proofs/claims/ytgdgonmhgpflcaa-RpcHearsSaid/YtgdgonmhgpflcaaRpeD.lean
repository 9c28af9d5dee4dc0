import Derived.Test.YtgdgonmhgpflcaaRpeC

/- The document's peers with the values of their rows, beside the peers as data. No program in sight. -/
namespace Go.Proofs.Ytgdgonmhgpflcaa
open Go.RowKit Go.Maps Wire Rp
set_option linter.unusedVariables false
set_option linter.unusedSimpArgs false
namespace Rp
def peV (l : List PeV) : List Pe := l.map (·.1)
theorem lookP_map (l : List PeV) (fr : Int) : lookP (peV l) fr = (l.find? (fun x => x.1.fr == fr)).map (·.1) := by
  unfold lookP peV; rw [List.find?_map]; rfl
theorem incV_eq (l : List PeV) (fr : Int) : incV l fr = incD (peV l) fr := by
  unfold incV incD
  rw [lookP_map]
  cases l.find? (fun x => x.1.fr == fr) <;> rfl
theorem map_add (l : List PeV) (fr : Int) : peV (addV l fr) = addP (peV l) fr := by
  unfold addV addP
  have e : (lookP (peV l) fr).isSome = l.any (fun x => x.1.fr == fr) := by
    rw [lookP_map]
    cases h : l.find? (fun x => x.1.fr == fr) with
    | none =>
      have h1 := List.find?_eq_none.1 h
      symm
      show l.any _ = false
      rw [List.any_eq_false]
      exact fun x hx => h1 x hx
    | some x =>
      symm
      show l.any _ = true
      rw [List.any_eq_true]
      exact ⟨x, List.mem_of_find?_eq_some h, by have h2 := List.find?_some h; exact h2⟩
  rw [e]
  split
  · rfl
  · unfold peV newV newP; simp
theorem look_at {l : List PeV} (hd : l.Pairwise fun x y => x.1.fr ≠ y.1.fr) {i : Nat} (hi : i < l.length) {fr : Int} (h : l[i].1.fr = fr) : lookP (peV l) fr = some l[i].1 := by
  rw [lookP_map]
  have : l.find? (fun x => x.1.fr == fr) = some l[i] := by
    rw [List.find?_eq_some_iff_getElem]
    refine ⟨beq_iff_eq.2 h, i, hi, rfl, fun j hj => ?_⟩
    rw [List.pairwise_iff_getElem] at hd
    have := hd j i (by omega) hi hj
    rw [h] at this
    simpa using this
  rw [this]; rfl
theorem set_at {l : List PeV} (hd : l.Pairwise fun x y => x.1.fr ≠ y.1.fr) {i : Nat} (hi : i < l.length) {y : PeV} (h : y.1.fr = l[i].1.fr) : peV (l.set i y) = setPe (peV l) y.1 := by
  unfold setPe
  rw [look_at hd hi h.symm]
  simp only [Option.isSome_some, if_true]
  unfold peV
  rw [List.map_map]
  apply List.ext_getElem
  · simp
  · intro j h1 h2
    simp only [List.length_map, List.length_set] at h1
    simp only [List.getElem_map, List.getElem_set, Function.comp]
    rw [List.pairwise_iff_getElem] at hd
    split
    · rename_i e
      subst e
      rw [if_pos h.symm]
    · rename_i e
      rw [if_neg]
      intro e2
      have e3 := e2.trans h
      rcases Nat.lt_or_ge j i with hh | hh
      · exact hd j i h1 hi hh e3
      · exact hd i j hi h1 (by omega) e3.symm
theorem lookH_at {L : List He} {x : Int} {j : Nat} (hj : j < L.length) (h0 : (L.take j).any (fun h => h.seq == x) = false) (h : L[j].seq = x) : lookH L x = some L[j] := by
  unfold lookH
  rw [List.find?_eq_some_iff_getElem]
  refine ⟨beq_iff_eq.2 h, j, hj, rfl, fun k hk => ?_⟩
  rw [List.any_eq_false] at h0
  simpa using h0 _ (List.mem_iff_getElem.2 ⟨k, by rw [List.length_take]; omega, by rw [List.getElem_take]⟩)
theorem lookH_no {L : List He} {x : Int} (h0 : L.any (fun h => h.seq == x) = false) : lookH L x = none := by
  unfold lookH
  rw [List.find?_eq_none]
  rw [List.any_eq_false] at h0
  intro y hy
  simpa using h0 y hy
theorem cnt_take {L : List He} {j : Nat} (hj : j < L.length) : cntD false (L.take (j + 1)) = cntD false (L.take j) + (if L[j].dn then 0 else 1) := by
  unfold cntD
  rw [List.take_succ_eq_append_getElem hj, List.countP_append]
  congr 1
  cases h : L[j].dn <;> simp [List.countP_cons, h]
end Rp
end Go.Proofs.Ytgdgonmhgpflcaa
