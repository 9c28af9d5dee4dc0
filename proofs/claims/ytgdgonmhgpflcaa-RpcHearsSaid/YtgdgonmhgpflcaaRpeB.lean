import Derived.Test.YtgdgonmhgpflcaaRpeA

/- A peer of the document's Called stored anew. No condition. -/
namespace Go.Proofs.Ytgdgonmhgpflcaa
open Go.RowKit Go.Maps Wire Rp
set_option linter.unusedVariables false
set_option linter.unusedSimpArgs false
theorem owns_set {w : World} {base size n cap g : Nat} {e : TypeId} {xs : List Value} (h : w.ownsRow base e size (.slice (some ⟨g, 0, none⟩) n cap) n xs) (j : Nat) (u : Value) :
    (w.setCell ⟨g, j, none⟩ u).ownsRow base e size (.slice (some ⟨g, 0, none⟩) n cap) n (xs.set j u) := by
  obtain ⟨hl, h0 | ⟨g', cap', cur, e1, hb, hg, h1, h2, h3, h4⟩⟩ := h
  · cases h0.1
  · injection e1 with e1 e2 e3
    injection e1 with e1
    injection e1 with e1
    subst e1 e3
    refine ⟨by simpa using hl, .inr ⟨g, cap, cur.setIfInBounds j u, rfl, hb, Blk.set (A := cur) hg j u, h1, h2, by simpa using h3, ?_⟩⟩
    rw [Array.toList_setIfInBounds, List.take_set, h4]
namespace Rp
theorem rowsP_len (l : List PeV) : (rowsP l).length = l.length * 4 := by
  unfold rowsP
  induction l with
  | nil => rfl
  | cons a l ih => rw [List.flatMap_cons, List.length_append, ih]; show 4 + _ = _; rw [List.length_cons]; omega
theorem rowsP_set {l : List PeV} {i : Nat} (hi : i < l.length) (y : PeV) : ((((rowsP l).set (i * 4) (.int .i64 y.1.fr)).set (i * 4 + 1) (.int .u64 y.1.inc)).set (i * 4 + 2) (.int .u64 y.1.floor)).set (i * 4 + 3) y.2 = rowsP (l.set i y) := by
  have e0 : l = l.take i ++ l[i] :: l.drop (i + 1) := by rw [← List.drop_eq_getElem_cons hi, List.take_append_drop]
  have e1 : l.set i y = l.take i ++ y :: l.drop (i + 1) := by rw [List.set_eq_take_append_cons_drop, if_pos hi]
  have h1 : rowsP l = rowsP (l.take i) ++ (prow l[i] ++ rowsP (l.drop (i + 1))) := by
    conv => lhs; rw [e0]
    unfold rowsP; rw [List.flatMap_append, List.flatMap_cons]
  have h2 : rowsP (l.set i y) = rowsP (l.take i) ++ (prow y ++ rowsP (l.drop (i + 1))) := by
    rw [e1]; unfold rowsP; rw [List.flatMap_append, List.flatMap_cons]
  have hl : (rowsP (l.take i)).length = i * 4 := by rw [rowsP_len, List.length_take]; congr 1; omega
  rw [h1, h2]
  rw [List.set_append_right _ _ (by omega), List.set_append_right _ _ (by omega), List.set_append_right _ _ (by omega), List.set_append_right _ _ (by omega), hl]
  congr 1
  rw [show i * 4 - i * 4 = 0 by omega, show i * 4 + 1 - i * 4 = 1 by omega, show i * 4 + 2 - i * 4 = 2 by omega, show i * 4 + 3 - i * 4 = 3 by omega]
  rfl
end Rp
section
variable {w w' w1 : World} {B0 r : Nat} {l : List PeV}
/-- The four stores of a peer. -/
theorem RD.store {g cap : Nat} (c : RD w B0 r (.slice (some ⟨g, 0, none⟩) l.length cap) l) {i : Nat} (hi : i < l.length) (y : PeV) (hy : w.ownsRow B0 134 3 y.2 y.1.L.length (rowsHe y.1.L)) (hf : y.1.fr = l[i].1.fr)
    (ha : ∀ x ∈ l, x.1.fr ≠ y.1.fr → ∀ g, x.2.ownBlock = some g → y.2.ownBlock ≠ some g) :
    RD ((((w.setCell ⟨g, i * 4, none⟩ (.int .i64 y.1.fr)).setCell ⟨g, i * 4 + 1, none⟩ (.int .u64 y.1.inc)).setCell ⟨g, i * 4 + 2, none⟩ (.int .u64 y.1.floor)).setCell ⟨g, i * 4 + 3, none⟩ y.2) B0 r (.slice (some ⟨g, 0, none⟩) l.length cap) (l.set i y) ∧
    OnR B0 r w ((((w.setCell ⟨g, i * 4, none⟩ (.int .i64 y.1.fr)).setCell ⟨g, i * 4 + 1, none⟩ (.int .u64 y.1.inc)).setCell ⟨g, i * 4 + 2, none⟩ (.int .u64 y.1.floor)).setCell ⟨g, i * 4 + 3, none⟩ y.2) := by
  have o : Only (· = g) w ((((w.setCell ⟨g, i * 4, none⟩ (.int .i64 y.1.fr)).setCell ⟨g, i * 4 + 1, none⟩ (.int .u64 y.1.inc)).setCell ⟨g, i * 4 + 2, none⟩ (.int .u64 y.1.floor)).setCell ⟨g, i * 4 + 3, none⟩ y.2) := (((Only.refl (· = g) w).set1).set1.set1).set1
  have hrow := owns_set (owns_set (owns_set (owns_set c.row (i * 4) (.int .i64 y.1.fr)) (i * 4 + 1) (.int .u64 y.1.inc)) (i * 4 + 2) (.int .u64 y.1.floor)) (i * 4 + 3) y.2
  rw [rowsP_set hi] at hrow
  obtain ⟨A, hA, hge, _⟩ := owns_type c.row (g := g) rfl
  have hbg : Blk w g 132 A := hA
  have hrg : ¬ r = g := fun e => by have h := c.blk; rw [e] at h; exact absurd (blk_ne h hbg) (by decide)
  have hH : ∀ {v : Value} {n : Nat} {xs : List Value}, w.ownsRow B0 134 3 v n xs → ∀ k, v.ownBlock = some k → ¬ k = g := fun h k hk => owns_ne h hbg (by decide) k hk
  have hmem : ∀ x ∈ l.set i y, x = y ∨ (x ∈ l ∧ x.1.fr ≠ y.1.fr) := fun x hx => by
    obtain ⟨j, hj, e⟩ := List.mem_iff_getElem.1 hx
    rw [List.length_set] at hj
    rw [List.getElem_set] at e
    split at e
    · exact .inl e.symm
    · rename_i hij
      refine .inr ⟨e ▸ List.getElem_mem hj, ?_⟩
      rw [← e, hf]
      have hd := c.dis
      rw [List.pairwise_iff_getElem] at hd
      rcases Nat.lt_or_ge j i with h | h
      · exact hd j i hj hi h
      · exact fun e2 => hd i j hi hj (by omega) e2.symm
  refine ⟨⟨c.blk.only o hrg, by rw [List.length_set]; exact hrow, fun x hx => ?_, ?_, ?_, c.ge⟩, o.mono fun k _ e => by have e' : k = g := e; subst e'; exact .inr (.inl ⟨hge, A, hbg⟩)⟩
  · rcases hmem x hx with rfl | ⟨hx, _⟩
    · exact owns_only hy o (hH hy)
    · exact owns_only (c.he x hx) o (hH (c.he x hx))
  · have hp := c.apart
    rw [List.pairwise_iff_getElem] at hp ⊢
    have hd := c.dis
    rw [List.pairwise_iff_getElem] at hd
    intro j k hj hk hjk
    rw [List.length_set] at hj hk
    rw [List.getElem_set, List.getElem_set]
    split
    · rename_i e
      subst e
      rw [if_neg (by omega)]
      intro g' hg' e2
      exact ha _ (List.getElem_mem hk) (by rw [hf]; exact fun e3 => hd i k hj hk hjk e3.symm) g' e2 hg'
    · split
      · rename_i e
        subst e
        exact ha _ (List.getElem_mem hj) (by rw [hf]; exact hd j i hj hk hjk)
      · exact hp j k hj hk hjk
  · have hd := c.dis
    rw [List.pairwise_iff_getElem] at hd ⊢
    intro j k hj hk hjk
    rw [List.length_set] at hj hk
    rw [List.getElem_set, List.getElem_set]
    split
    · rename_i e
      subst e
      rw [if_neg (by omega), hf]
      exact hd i k hj hk hjk
    · split
      · rename_i e
        subst e
        rw [hf]
        exact hd j i hj hk hjk
      · exact hd j k hj hk hjk
end
end Go.Proofs.Ytgdgonmhgpflcaa
