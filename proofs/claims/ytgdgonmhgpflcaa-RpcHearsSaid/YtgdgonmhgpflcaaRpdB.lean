import Derived.Test.YtgdgonmhgpflcaaRpdA

/- The walks of the document's Place, Time, due, gone, NewCaller. No condition but that the caller's rows are not too long. -/
namespace Go.Proofs.Ytgdgonmhgpflcaa
open Go.RowKit Go.Maps Wire Rp
set_option linter.unusedVariables false
set_option linter.unusedSimpArgs false
set_option maxRecDepth 100000 in
theorem rplace_any (n : Int) (w : World) : Calls Try.prog 59 #[.int .i64 n] w fun e w' => e = .returned (.bool (placeB n)) ∧ w' = w := by
  unfold placeB
  by_cases h1 : 0 ≤ n
  · by_cases h2 : n < 1024
    · simp only [h1, h2, decide_true, Bool.and_self]
      go_enter Try.func59, Try.ntmps59
      go_wp2_with fail
      go_ret
      exact ⟨rfl, rfl⟩
    · simp only [h1, h2, decide_true, decide_false, Bool.and_false]
      go_enter Try.func59, Try.ntmps59
      go_wp2_with fail
      go_ret
      exact ⟨rfl, rfl⟩
  · simp only [h1, decide_false, Bool.false_and]
    go_enter Try.func59, Try.ntmps59
    go_wp2_with fail
    go_ret
    exact ⟨rfl, rfl⟩
set_option maxRecDepth 100000 in
theorem rtime_any (n : Int) (w : World) : Calls Try.prog 70 #[.int .i64 n] w fun e w' => e = .returned (.bool (timeB n)) ∧ w' = w := by
  unfold timeB
  by_cases h1 : 0 ≤ n
  · by_cases h2 : n ≤ 17592186044416
    · simp only [h1, h2, decide_true, Bool.and_self]
      go_enter Try.func70, Try.ntmps70
      go_wp2_with fail
      go_ret
      exact ⟨rfl, rfl⟩
    · simp only [h1, h2, decide_true, decide_false, Bool.and_false]
      go_enter Try.func70, Try.ntmps70
      go_wp2_with fail
      go_ret
      exact ⟨rfl, rfl⟩
  · simp only [h1, decide_false, Bool.false_and]
    go_enter Try.func70, Try.ntmps70
    go_wp2_with fail
    go_ret
    exact ⟨rfl, rfl⟩
set_option maxRecDepth 100000 in
set_option maxHeartbeats 1000000 in
theorem rnewc_bad {inc wait most tries : Int} (h : confB inc wait most tries = false) (w : World) : Calls Try.prog 34 #[.int .u64 inc, .agg #[.int .i64 wait, .int .i64 most, .int .i64 tries]] w fun e w' => e = .returned (.pointer none) ∧ Below w.heap.size w w' := by
  have HB := Lib.hid ((Below.refl _ w).alloc (Nat.le_refl _) (.cells #[.int .i64 wait, .int .i64 most, .int .i64 tries] 73))
  unfold confB at h
  by_cases h1 : 1 ≤ inc
  · by_cases h2 : inc ≤ 4611686018427387904
    · by_cases h3 : 1 ≤ wait
      · by_cases h4 : wait ≤ 4294967296
        · by_cases h5 : wait ≤ most
          · by_cases h6 : most ≤ 4294967296
            · by_cases h7 : 1 ≤ tries
              · by_cases h8 : tries ≤ 64
                · simp [h1, h2, h3, h4, h5, h6, h7, h8] at h
                · (clear h; go_enter Try.func34, Try.ntmps34; go_wp2_with fail; go_ret; exact ⟨rfl, HB.out⟩)
              · (clear h; go_enter Try.func34, Try.ntmps34; go_wp2_with fail; go_ret; exact ⟨rfl, HB.out⟩)
            · (clear h; go_enter Try.func34, Try.ntmps34; go_wp2_with fail; go_ret; exact ⟨rfl, HB.out⟩)
          · (clear h; go_enter Try.func34, Try.ntmps34; go_wp2_with fail; go_ret; exact ⟨rfl, HB.out⟩)
        · (clear h; go_enter Try.func34, Try.ntmps34; go_wp2_with fail; go_ret; exact ⟨rfl, HB.out⟩)
      · (clear h; go_enter Try.func34, Try.ntmps34; go_wp2_with fail; go_ret; exact ⟨rfl, HB.out⟩)
    · (clear h; go_enter Try.func34, Try.ntmps34; go_wp2_with fail; go_ret; exact ⟨rfl, HB.out⟩)
  · (clear h; go_enter Try.func34, Try.ntmps34; go_wp2_with fail; go_ret; exact ⟨rfl, HB.out⟩)
def RNewPost (w : World) (B0 : Nat) (s : St) (e : Ending) (w' : World) : Prop := ∃ r, e = .returned (.pointer (some ⟨r, 0, none⟩)) ∧ RC w' B0 w.heap.size w.heap.size r (.slice none 0 0) (.slice none 0 0) (.slice none 0 0) s ∧ Below w.heap.size w w' ∧ w.heap.size ≤ r
set_option maxRecDepth 100000 in
set_option maxHeartbeats 1000000 in
theorem rnewc_any {inc wait most tries : Int} (hc : confB inc wait most tries = true) (w : World) {B0 : Nat} (hB : B0 ≤ w.heap.size) : Calls Try.prog 34 #[.int .u64 inc, .agg #[.int .i64 wait, .int .i64 most, .int .i64 tries]] w (RNewPost w B0 ⟨inc, wait, most, tries, 0, [], [], []⟩) := by
  have HV := Lib.hid (confB_ok hc)
  have HB := Lib.hid hB
  unfold confB at hc
  simp only [Bool.and_eq_true, decide_eq_true_eq] at hc
  obtain ⟨h1, h2, h3, h4, h5, h6, h7, h8⟩ := hc
  clear hB
  go_enter Try.func34, Try.ntmps34
  go_upto_region 3 with fail
  clear h1 h2 h3 h4 h5 h6 h7 h8
  go_wp2_with fail
  go_ret
  refine ⟨w.heap.size + 1, rfl, ⟨?_, World.ownsRow_nil _ _ _ _, World.ownsRow_nil _ _ _ _, World.ownsRow_nil _ _ _ _, ?_, ?_, HV.out⟩, ?_, by omega⟩
  · have := Blk.new (w.alloc (.cells #[.int .i64 wait, .int .i64 most, .int .i64 tries] 73)) 97 #[.int .u64 inc, .int .i64 wait, .int .i64 most, .int .i64 tries, .int .u64 0, .slice none 0 0, .slice none 0 0, .slice none 0 0]
    simpa using this
  · have := HB.out; omega
  · simp; omega
  · exact ((Below.refl _ _).alloc (Nat.le_refl _) _).alloc (by simp) _
section
variable {w w' w1 : World} {B0 bD bO r : Nat} {vL vD vO : Value} {s : St}
/-- A call that leaves the caller with other calls, in a new row; nothing else turns. -/
def GoneP (w : World) (B0 bD bO r : Nat) (vD vO : Value) (s : St) (e : Ending) (w' : World) : Prop :=
  e = .returned (.tuple #[]) ∧ ∃ vL', RC w' B0 bD bO r vL' vD vO s ∧ Only (· = r) w w'
set_option maxRecDepth 100000 in
set_option maxHeartbeats 1000000 in
theorem gone_any (c : RC w B0 bD bO r vL vD vO s) {i : Nat} (hi : i < s.L.length) :
    Calls Try.prog 73 #[.pointer (some ⟨r, 0, none⟩), .int .i64 i] w (GoneP w B0 bD bO r vD vO { s with L := s.L.filter (fun c => !(c.seq == s.L[i].seq)) }) := by
  rw [← erase_filter c.inv.ris hi]
  have HSI : Hid (SInv { s with L := s.L.eraseIdx i }) := Lib.hid (by rw [erase_filter c.inv.ris hi]; exact c.inv.filt _ s.du s.ov)
  have HR := Lib.hid c
  have HL : Hid (s.L.length ≤ 64 ∧ i < s.L.length) := Lib.hid ⟨c.inv.len, hi⟩
  have hL := c.inv.len
  have c5 := c.c5
  obtain ⟨g, cap, cur, ev, hbg, hblk, hcur⟩ := owns_blk c.row (by omega)
  have hcap : s.L.length ≤ cap := by
    have h := c.row
    rw [ev] at h
    obtain ⟨hl, ⟨h1, h2⟩ | ⟨g, cap, cur, h1, hb, hg, h3, h4, h5, h6⟩⟩ := h
    · omega
    · injection h1 with _ _ h1; omega
  subst ev
  have HC1 : Hid (∀ (w : World), Blk w g 99 cur → ∀ j u, (rowsK (s.L.take i))[j]? = some u → w.cell? ⟨g, 0 + j, none⟩ = some u) := Lib.hid fun w hw j u hj => by
    have hjl : j < i * 6 := by
      rcases Nat.lt_or_ge j (i * 6) with h | h
      · exact h
      · rw [List.getElem?_eq_none (by rw [rowsK_len, List.length_take]; omega)] at hj; cases hj
    rw [Nat.zero_add, hw.cell j, hcur j (by omega), ← hj, rowsK_split s.L i, List.getElem?_append_left (by rw [rowsK_len, List.length_take]; omega)]
  have HC2 : Hid (∀ (w : World), Blk w g 99 cur → ∀ j u, (rowsK (s.L.drop (i + 1)))[j]? = some u → w.cell? ⟨g, (i + 1) * 6 + j, none⟩ = some u) := Lib.hid fun w hw j u hj => by
    have hjl : j < (s.L.length - (i + 1)) * 6 := by
      rcases Nat.lt_or_ge j ((s.L.length - (i + 1)) * 6) with h | h
      · exact h
      · rw [List.getElem?_eq_none (by rw [rowsK_len, List.length_drop]; omega)] at hj; cases hj
    rw [hw.cell _, hcur _ (by omega), ← hj, rowsK_split s.L (i + 1), List.getElem?_append_right (by rw [rowsK_len, List.length_take]; omega)]
    congr 1
    rw [rowsK_len, List.length_take]; omega
  have HG := Lib.hid hblk
  have HNIL := Lib.hid (World.ownsRow_nil w w.heap.size 99 6)
  have hgr : g ≠ r := owns_ne c.row c.blk (by decide) g rfl
  have k1 : (i : Int) ≤ (cap : Int) := by omega
  have k2 : (0 : Int) ≤ (i : Int) := by omega
  have k3 : wrap64 ((i : Int) + 1) = ((i + 1 : Nat) : Int) := Sou.w64n rfl (by omega)
  have k4 : (((i + 1 : Nat)) : Int) ≤ (s.L.length : Int) := by omega
  clear c hL hcur hblk hgr
  go_enter Try.func73, Try.ntmps73
  go_upto_region 2 with (at_builtin; refine wpl_append_cells (ys := rowsK (s.L.take i)) rfl rfl rfl rfl Try.underlying95 info_call rfl (by decide) (by decide) HNIL.out (by rw [rowsK_len, List.length_take]; have := HL.out; omega) (HC1.out _ HG.out) (rowsK_one _) (by have := HL.out; omega) (Nat.le_refl _) ?_; intro v5 w5 h5 o5)
  have B5 : Below w.heap.size w w5 := o5.below (Nat.le_refl _) (fun k hk => absurd (show (Value.slice none 0 0).ownBlock = some k from hk) (by simp [Value.ownBlock]))
  have HB5 := Lib.hid B5
  rw [Nat.zero_add, List.nil_append] at h5
  have H5 := Lib.hid h5
  have HG5 := Lib.hid (HG.out.below B5)
  have d1 : w5.cell? ⟨r, 5, none⟩ = some (.slice (some ⟨g, 0, none⟩) s.L.length cap) := by rw [(HR.out.blk.below B5).cell 5]; rfl
  have HRB := Lib.hid (HR.out.blk.below B5)
  clear o5 h5 B5 c5 HC1 HNIL
  obtain ⟨p5, q5, rfl⟩ := owns_slice H5.out
  have HERA : Hid (rowsK (s.L.take i) ++ rowsK (s.L.drop (i + 1)) = rowsK (s.L.eraseIdx i) ∧ i + (s.L.length - (i + 1)) = (s.L.eraseIdx i).length) := Lib.hid ⟨by
    rw [List.eraseIdx_eq_take_drop_succ]; unfold rowsK; rw [List.flatMap_append], by rw [List.length_eraseIdx_of_lt HL.out.2]; have := HL.out; omega⟩
  have HFIN : Hid (∀ v6 w6, w6.ownsRow w.heap.size 99 6 v6 (i + (s.L.length - (i + 1))) (rowsK (s.L.take i) ++ rowsK (s.L.drop (i + 1))) → Only (fun k => (Value.slice p5 i q5).ownBlock = some k) w5 w6 → Blk w6 r 97 #[.int .u64 s.inc, .int .i64 s.wait, .int .i64 s.most, .int .i64 s.tries, .int .u64 s.last, .slice (some ⟨g, 0, none⟩) s.L.length cap, vD, vO] ∧ GoneP w B0 bD bO r vD vO { s with L := s.L.eraseIdx i } (.returned (.tuple #[])) (w6.setCell ⟨r, 5, none⟩ v6)) := Lib.hid fun v6 w6 h6 o6 => by
    have hS : ∀ k, (Value.slice p5 i q5).ownBlock = some k → w.heap.size ≤ k := fun k hk => (owns_type H5.out hk).choose_spec.2.1
    have hr := HR.out.blk.lt
    have b6 := HRB.out.only o6 (fun e => by have := hS _ e; omega)
    have hB6 : Below w.heap.size w w6 := HB5.out.trans (o6.below (B := w.heap.size) HB5.out.size hS)
    rw [HERA.out.1, HERA.out.2] at h6
    have hBw : B0 ≤ w.heap.size := by have := HR.out.ge; omega
    have hR6 := HR.out.below hB6
    have oS := (Only.refl (· = r) w6).set1 (o := 5) (v := v6)
    have hsz := setCell_size w6 ⟨r, 5, none⟩ v6
    refine ⟨b6, rfl, v6, ⟨b6.set 5 _, owns_ge (owns_only h6 oS (owns_ne h6 b6 (by decide))) hBw, owns_only hR6.du oS (owns_ne hR6.du b6 (by decide)), owns_only hR6.ov oS (owns_ne hR6.ov b6 (by decide)), HR.out.ge, ⟨by rw [hsz]; exact hR6.sz.1, by rw [hsz]; exact hR6.sz.2⟩, HSI.out⟩, ?_⟩
    exact (Only.of_below (S := (· = r)) hB6).set1
  have HROW := Lib.hid (show (rowsK (s.L.drop (i + 1))).length = (s.L.length - (i + 1)) * 6 by rw [rowsK_len, List.length_drop])
  have HH : Hid (i + (s.L.length - (i + 1)) < 2147483648) := Lib.hid (by have := HL.out; omega)
  clear HRB HERA HG
  by_cases hcc : cap = i + 1
  · have HC3 : Hid (∀ j u, (rowsK (s.L.drop (i + 1)))[j]? = some u → w5.cell? ⟨g, 0 + j, none⟩ = some u) := Lib.hid fun j u hj => by
      rw [List.getElem?_eq_none (by rw [HROW.out]; have := HL.out; omega)] at hj; cases hj
    clear HC2 hcap HG5
    subst hcc
    go_wp2_with (at_builtin; refine wpl_append_cells (off := 0) (ys := rowsK (s.L.drop (i + 1))) rfl rfl rfl rfl Try.underlying95 info_call rfl (by decide) (by decide) H5.out HROW.out HC3.out (rowsK_one _) HH.out HB5.out.size ?_; intro v6 w6 h6 o6; obtain ⟨p6, c6, rfl⟩ := owns_slice h6; obtain ⟨b6, hf⟩ := HFIN.out _ w6 h6 o6; have HF := Lib.hid hf; have d2 : w6.cell? ⟨r, 5, none⟩ = some (.slice (some ⟨g, 0, none⟩) s.L.length (i + 1)) := (by rw [b6.cell 5]; rfl); have f2 := b6.frozen 5; clear h6 o6 hf b6 d1)
    go_end0
    exact HF.out
  · clear hcap
    go_wp2_with (at_builtin; refine wpl_append_cells (off := (i + 1) * 6) (ys := rowsK (s.L.drop (i + 1))) rfl rfl rfl rfl Try.underlying95 info_call rfl (by decide) (by decide) H5.out HROW.out (HC2.out _ HG5.out) (rowsK_one _) HH.out HB5.out.size ?_; intro v6 w6 h6 o6; obtain ⟨p6, c6, rfl⟩ := owns_slice h6; obtain ⟨b6, hf⟩ := HFIN.out _ w6 h6 o6; have HF := Lib.hid hf; have d2 : w6.cell? ⟨r, 5, none⟩ = some (.slice (some ⟨g, 0, none⟩) s.L.length cap) := (by rw [b6.cell 5]; rfl); have f2 := b6.frozen 5; clear h6 o6 hf b6 d1)
    go_end0
    exact HF.out
end
end Go.Proofs.Ytgdgonmhgpflcaa
