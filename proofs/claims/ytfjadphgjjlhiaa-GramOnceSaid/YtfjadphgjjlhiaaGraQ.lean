
/- The walk of the document's net's gone. No condition but that the rows are not too long. -/
import Derived.Test.YtfjadphgjjlhiaaGraP
namespace Go.Proofs.Ytfjadphgjjlhiaa
open Go.RowKit Go.Maps Gr Sok
set_option linter.unusedVariables false
set_option linter.unusedSimpArgs false
namespace Gr
theorem rowsG_len (L : List G) : (rowsG L).length = L.length * 4 := by
  unfold rowsG
  induction L with
  | nil => rfl
  | cons a l ih => rw [List.flatMap_cons, List.length_append, ih, gcells_len, List.length_cons]; omega
theorem rowsG_split (L : List G) (i : Nat) : rowsG L = rowsG (L.take i) ++ rowsG (L.drop i) := by
  unfold rowsG; rw [← List.flatMap_append, List.take_append_drop]
theorem rowsG_one (L : List G) : ∀ u ∈ rowsG L, u.oneCell' = true := by
  intro u hu
  unfold rowsG at hu
  obtain ⟨g, _, hg⟩ := List.mem_flatMap.1 hu
  unfold gcells at hg
  simp at hg
  rcases hg with rfl | rfl | rfl | rfl <;> rfl
end Gr
theorem own_cap {w : World} {base size : Nat} {e : TypeId} {v : Value} {n : Nat} {xs : List Value} (h : w.ownsRow base e size v n xs) {p : Option Addr} {c : Nat} (hv : v = .slice p n c) : n ≤ c := by
  subst hv
  obtain ⟨hl, ⟨h1, h2⟩ | ⟨g, cap, cur, h1, hb, hg, h3, h4, h5, h6⟩⟩ := h
  · omega
  · injection h1 with _ _ h1; omega
section
variable {w w' : World} {B r : Nat} {vL vC : Value} {last : Int} {L : List G} {Cs : List (Int × Int)}
/-- A call that leaves the net with other messages, in a new row; nothing else turns. -/
def GoneP (w : World) (B r : Nat) (vC : Value) (last : Int) (L : List G) (Cs : List (Int × Int)) (v : Value) (e : Ending) (w' : World) : Prop :=
  e = .returned v ∧ ∃ vL', RW w' B r vL' vC last L Cs ∧ Only (· = r) w w' ∧ ∀ g, vL'.ownBlock = some g → w.heap.size ≤ g
set_option maxRecDepth 100000 in
set_option maxHeartbeats 1000000 in
theorem gone_any (h : RW w B r vL vC last L Cs) (hL : L.length ≤ 100000) {i : Nat} (hi : i < L.length) :
    Calls Try.prog 35 #[.pointer (some ⟨r, 0, none⟩), .int .i64 i] w (GoneP w B r vC last (L.eraseIdx i) Cs (.tuple #[])) := by
  have HR := Lib.hid h
  have HL := Lib.hid (And.intro hL hi)
  have c1 := h.c1
  obtain ⟨g, cap, cur, ev, hbg, hblk, hcur⟩ := owns_blk h.row (by omega)
  have hcap := own_cap h.row ev
  subst ev
  have HC1 : Hid (∀ (w : World), Blk w g 33 cur → ∀ j u, (rowsG (L.take i))[j]? = some u → w.cell? ⟨g, 0 + j, none⟩ = some u) := Lib.hid fun w hw j u hj => by
    have hjl : j < i * 4 := by
      rcases Nat.lt_or_ge j (i * 4) with h | h
      · exact h
      · rw [List.getElem?_eq_none (by rw [rowsG_len, List.length_take]; omega)] at hj; cases hj
    rw [Nat.zero_add, hw.cell j, hcur j (by omega), ← hj, rowsG_split L i, List.getElem?_append_left (by rw [rowsG_len, List.length_take]; omega)]
  have HC2 : Hid (∀ (w : World), Blk w g 33 cur → ∀ j u, (rowsG (L.drop (i + 1)))[j]? = some u → w.cell? ⟨g, (i + 1) * 4 + j, none⟩ = some u) := Lib.hid fun w hw j u hj => by
    have hjl : j < (L.length - (i + 1)) * 4 := by
      rcases Nat.lt_or_ge j ((L.length - (i + 1)) * 4) with h | h
      · exact h
      · rw [List.getElem?_eq_none (by rw [rowsG_len, List.length_drop]; omega)] at hj; cases hj
    rw [hw.cell _, hcur _ (by omega), ← hj, rowsG_split L (i + 1), List.getElem?_append_right (by rw [rowsG_len, List.length_take]; omega)]
    congr 1
    rw [rowsG_len, List.length_take]; omega
  have HG := Lib.hid hblk
  have HNIL := Lib.hid (World.ownsRow_nil w w.heap.size 33 4)
  have hgr : g ≠ r := owns_ne h.row h.blk (by decide) g rfl
  have HGR := Lib.hid hgr
  have k1 : (i : Int) ≤ (cap : Int) := by omega
  have k2 : (0 : Int) ≤ (i : Int) := by omega
  have k3 : wrap64 ((i : Int) + 1) = ((i + 1 : Nat) : Int) := Sou.w64n rfl (by omega)
  have k4 : (((i + 1 : Nat)) : Int) ≤ (L.length : Int) := by omega
  clear h hL hcur hblk hgr
  go_enter Try.func35, Try.ntmps35
  go_upto_region 2 with (at_builtin; refine wpl_append_cells (ys := rowsG (L.take i)) rfl rfl rfl rfl Try.underlying36 info_gram rfl (by decide) (by decide) HNIL.out (by rw [rowsG_len, List.length_take]; have := HL.out; omega) (HC1.out _ HG.out) (rowsG_one _) (by have := HL.out; omega) (Nat.le_refl _) ?_; intro v5 w5 h5 o5)
  have B5 : Below w.heap.size w w5 := o5.below (Nat.le_refl _) (fun k hk => absurd (show (Value.slice none 0 0).ownBlock = some k from hk) (by simp [Value.ownBlock]))
  have HB5 := Lib.hid B5
  rw [Nat.zero_add, List.nil_append] at h5
  have H5 := Lib.hid h5
  have HG5 := Lib.hid (HG.out.below B5)
  have d1 : w5.cell? ⟨r, 1, none⟩ = some (.slice (some ⟨g, 0, none⟩) L.length cap) := by rw [(HR.out.blk.below B5).cell 1]; rfl
  have HRB := Lib.hid (HR.out.blk.below B5)
  clear o5 h5 B5 c1 HC1 HNIL
  obtain ⟨p5, q5, rfl⟩ := owns_slice H5.out
  have HERA : Hid (rowsG (L.take i) ++ rowsG (L.drop (i + 1)) = rowsG (L.eraseIdx i) ∧ i + (L.length - (i + 1)) = (L.eraseIdx i).length) := Lib.hid ⟨by
    rw [List.eraseIdx_eq_take_drop_succ]; unfold rowsG; rw [List.flatMap_append], by rw [List.length_eraseIdx_of_lt HL.out.2]; have := HL.out; omega⟩
  have HFIN : Hid (∀ v6 w6, w6.ownsRow w.heap.size 33 4 v6 (i + (L.length - (i + 1))) (rowsG (L.take i) ++ rowsG (L.drop (i + 1))) → Only (fun k => (Value.slice p5 i q5).ownBlock = some k) w5 w6 → Blk w6 r 45 #[.int .u64 last, .slice (some ⟨g, 0, none⟩) L.length cap, vC] ∧ GoneP w B r vC last (L.eraseIdx i) Cs (.tuple #[]) (.returned (.tuple #[])) (w6.setCell ⟨r, 1, none⟩ v6)) := Lib.hid fun v6 w6 h6 o6 => by
    have hS : ∀ k, (Value.slice p5 i q5).ownBlock = some k → w.heap.size ≤ k := fun k hk => (owns_type H5.out hk).choose_spec.2.1
    have hr := HR.out.blk.lt
    have b6 := HRB.out.only o6 (fun e => by have := hS _ e; omega)
    have hB6 : Below w.heap.size w w6 := HB5.out.trans (o6.below (B := w.heap.size) HB5.out.size hS)
    rw [HERA.out.1, HERA.out.2] at h6
    have hBw : B ≤ w.heap.size := by have := HR.out.ge; omega
    have hR6 := HR.out.below hB6
    have oS := (Only.refl (· = r) w6).set1 (o := 1) (v := v6)
    refine ⟨b6, rfl, v6, ⟨b6.set 1 _, owns_ge (owns_only h6 oS (owns_ne h6 b6 (by decide))) hBw, owns_only hR6.cuts oS (owns_ne hR6.cuts b6 (by decide)), HR.out.ge⟩, ?_⟩
    exact ⟨(Only.of_below (S := (· = r)) hB6).set1, fun g hg => (owns_type h6 hg).choose_spec.2.1⟩
  have HROW := Lib.hid (show (rowsG (L.drop (i + 1))).length = (L.length - (i + 1)) * 4 by rw [rowsG_len, List.length_drop])
  have HH : Hid (i + (L.length - (i + 1)) < 2147483648) := Lib.hid (by have := HL.out; omega)
  clear HRB HERA HG
  by_cases hcc : cap = i + 1
  · have HC3 : Hid (∀ j u, (rowsG (L.drop (i + 1)))[j]? = some u → w5.cell? ⟨g, 0 + j, none⟩ = some u) := Lib.hid fun j u hj => by
      rw [List.getElem?_eq_none (by rw [HROW.out]; have := HL.out; omega)] at hj; cases hj
    clear HC2 hcap HG5
    subst hcc
    go_wp2_with (at_builtin; refine wpl_append_cells (off := 0) (ys := rowsG (L.drop (i + 1))) rfl rfl rfl rfl Try.underlying36 info_gram rfl (by decide) (by decide) H5.out HROW.out HC3.out (rowsG_one _) HH.out HB5.out.size ?_; intro v6 w6 h6 o6; obtain ⟨p6, c6, rfl⟩ := owns_slice h6; obtain ⟨b6, hf⟩ := HFIN.out _ w6 h6 o6; have HF := Lib.hid hf; have d2 : w6.cell? ⟨r, 1, none⟩ = some (.slice (some ⟨g, 0, none⟩) L.length (i + 1)) := (by rw [b6.cell 1]; rfl); have f2 := b6.frozen 1; clear h6 o6 hf b6 d1)
    go_end0
    exact HF.out
  · clear hcap
    go_wp2_with (at_builtin; refine wpl_append_cells (off := (i + 1) * 4) (ys := rowsG (L.drop (i + 1))) rfl rfl rfl rfl Try.underlying36 info_gram rfl (by decide) (by decide) H5.out HROW.out (HC2.out _ HG5.out) (rowsG_one _) HH.out HB5.out.size ?_; intro v6 w6 h6 o6; obtain ⟨p6, c6, rfl⟩ := owns_slice h6; obtain ⟨b6, hf⟩ := HFIN.out _ w6 h6 o6; have HF := Lib.hid hf; have d2 : w6.cell? ⟨r, 1, none⟩ = some (.slice (some ⟨g, 0, none⟩) L.length cap) := (by rw [b6.cell 1]; rfl); have f2 := b6.frozen 1; clear h6 o6 hf b6 d1)
    go_end0
    exact HF.out
end
end Go.Proofs.Ytfjadphgjjlhiaa
