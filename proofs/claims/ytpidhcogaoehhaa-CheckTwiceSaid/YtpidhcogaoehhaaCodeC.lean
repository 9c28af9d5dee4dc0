import Derived.Test.YtpidhcogaoehhaaCodeB

/- The walk of the program's copy of a program: 'Copy'. No condition but that rows are not too long. -/
namespace Go.Proofs.Ytpidhcogaoehhaa
open Go.RowKit Cd
set_option linter.unusedVariables false
theorem owns_set {w : World} {B size : Nat} {e : TypeId} {G cap n : Nat} {xs : List Value} (h : w.ownsRow B e size (.slice (some ⟨G, 0, none⟩) n cap) n xs) (k : Nat) (u : Value) : (w.setCell ⟨G, k, none⟩ u).ownsRow B e size (.slice (some ⟨G, 0, none⟩) n cap) n (xs.set k u) := by
  obtain ⟨hl, ⟨h0, _⟩ | ⟨g, cap', cur, hv, hb, hg, h1, h2, h3, h4⟩⟩ := h
  · cases h0
  · cases hv
    refine ⟨by rw [List.length_set]; exact hl, .inr ⟨G, cap, cur.setIfInBounds k u, rfl, hb, Blk.set hg k u, h1, h2, by simpa using h3, ?_⟩⟩
    rw [Array.toList_setIfInBounds, List.take_set, h4]
theorem rowsF_set {l : List FunV} {vs : List Value} (h : vs.length = l.length) {i : Nat} (hi : i < l.length) (x : Value) : rowsF l (vs.set i x) = (rowsF l vs).set (i * 3 + 2) x := by
  have hz : i < (l.zip vs).length := by rw [List.length_zip]; omega
  have := Lea.flat_set (fun p : FunV × Value => ([.int .i64 p.1.args, .int .i64 p.1.regs, p.2] : List Value)) 3 (fun o => rfl) (l.zip vs) i 2 hz x (l[i], x) (by omega) (by rw [List.getElem_zip]; rfl)
  unfold rowsF
  rw [this]
  congr 1
  apply List.ext_getElem
  · simp [List.length_zip]
  · intro j h1 h2
    rw [List.getElem_zip, List.getElem_set, List.getElem_set]
    split
    · subst_vars; rfl
    · rw [List.getElem_zip]
/-- Behind i functions of the copy. -/
structure CpW (W : World) (l : List FunV) (v : Value) (i : Nat) (vs : List Value) (wr : World) : Prop where
  t1 : Blk wr W.heap.size 24 #[v]
  t2 : Blk wr (W.heap.size + 1) 24 #[.slice none 0 0]
  len : vs.length = l.length
  row : wr.ownsRow W.heap.size 47 3 v l.length (rowsF l vs)
  done : ∀ (j : Nat) (h : j < l.length) (h' : j < vs.length), j < i → wr.ownsRow W.heap.size 50 5 vs[j] l[j].ops.length (rowsO l[j].ops)
  rest : ∀ (j : Nat) (h : j < l.length) (h' : j < vs.length), i ≤ j → OpsAt W vs[j] l[j].ops
  bel : Below W.heap.size W wr
def CpRel (W : World) (l : List FunV) (v : Value) (u : Value) (wr : World) : Prop := ∃ i vs, i ≤ l.length ∧ u = .int .i64 (i : Nat) ∧ CpW W l v i vs wr
def CopyPost (W : World) (l : List FunV) (e : Ending) (w' : World) : Prop := ∃ v, e = .returned (.agg #[v]) ∧ FunsRow w' W.heap.size v l ∧ Below W.heap.size W w'
theorem opsAt_xs {w : World} {v : Value} {l : List OpV} {p : Option Addr} {cap : Nat} (h : OpsAt w v l) (hv : v = .slice p l.length cap) : 0 < l.length → ∃ g off, p = some ⟨g, off, none⟩ ∧ g < w.heap.size ∧ ∀ j u, (rowsO l)[j]? = some u → w.cell? ⟨g, off + j, none⟩ = some u := by
  intro hl
  obtain ⟨p', cap', e, hx⟩ := h
  rw [hv] at e
  injection e with e _ _
  subst e
  obtain ⟨g, off, rfl, hg, hc⟩ := hx hl
  refine ⟨g, off, rfl, hg, fun j u hj => ?_⟩
  have hlt : j < (rowsO l).length := (List.getElem?_eq_some_iff.1 hj).1
  have hlen : (rowsO l).length = l.length * 5 := Lea.flat_len (fun o : OpV => (opA o).toList) 5 (fun o => rfl) l
  have hq : j / 5 < l.length := by omega
  have e2 : (rowsO l)[j / 5 * 5 + j % 5]? = (opA l[j / 5]).toList[j % 5]? := Lea.flat_get (fun o : OpV => (opA o).toList) 5 (fun o => rfl) l (j / 5) (j % 5) hq (by omega)
  have ej : j / 5 * 5 + j % 5 = j := by omega
  rw [ej, hj] at e2
  have := hc (j / 5) hq (j % 5) (by omega)
  rw [show off + j / 5 * 5 + j % 5 = off + j from by omega] at this
  rw [this, ← Array.getElem?_toList, ← e2]
theorem rowsO_one (l : List OpV) : ∀ u ∈ rowsO l, u.oneCell' = true := by
  intro u hu
  obtain ⟨o, _, ho⟩ := List.mem_flatMap.1 hu
  simp only [opA, List.mem_cons, List.mem_nil_iff, or_false] at ho
  rcases ho with rfl | rfl | rfl | rfl | rfl <;> rfl
theorem rowsF_xs {w : World} {v : Value} {l : List FunV} {p : Option Addr} {cap : Nat} (h : FunsAt w v l) (hv : v = .slice p l.length cap) : ∃ vs : List Value, vs.length = l.length ∧ (∀ (j : Nat) (h : j < l.length) (h' : j < vs.length), OpsAt w vs[j] l[j].ops) ∧
    (0 < l.length → ∃ g off, p = some ⟨g, off, none⟩ ∧ g < w.heap.size ∧ ∀ j u, (rowsF l vs)[j]? = some u → w.cell? ⟨g, off + j, none⟩ = some u) ∧ ∀ u ∈ rowsF l vs, u.oneCell' = true := by
  obtain ⟨p', cap', e, hx⟩ := h
  rw [hv] at e
  injection e with e _ _
  subst e
  rcases Nat.eq_zero_or_pos l.length with h0 | h0
  · have : l = [] := List.eq_nil_of_length_eq_zero h0
    subst this
    exact ⟨[], rfl, fun j h => by simp at h, fun h => by simp at h, fun u hu => by simp [rowsF] at hu⟩
  · obtain ⟨g, off, rfl, hg, hc⟩ := hx h0
    have hch : ∀ i, ∃ vo, i < l.length → ∃ h : i < l.length, w.cell? ⟨g, off + i * 3 + 2, none⟩ = some vo ∧ OpsAt w vo l[i].ops := by
      intro i
      by_cases hi : i < l.length
      · obtain ⟨_, _, vo, h1, h2⟩ := hc i hi
        exact ⟨vo, fun _ => ⟨hi, h1, h2⟩⟩
      · exact ⟨.nilFunc, fun h => absurd h hi⟩
    refine ⟨(List.range l.length).map fun i => Classical.choose (hch i), by simp, fun j hj hj' => ?_, fun _ => ⟨g, off, rfl, hg, fun j u hu => ?_⟩, fun u hu => ?_⟩
    · simp only [List.getElem_map, List.getElem_range]
      exact (Classical.choose_spec (hch j) hj).2.2
    · have hlt := (List.getElem?_eq_some_iff.1 hu).1
      have hz : ∀ vs : List Value, vs.length = l.length → (rowsF l vs).length = l.length * 3 := fun vs hvs => by
        unfold rowsF
        rw [Lea.flat_len (fun p : FunV × Value => ([.int .i64 p.1.args, .int .i64 p.1.regs, p.2] : List Value)) 3 (fun o => rfl), List.length_zip]
        rw [hvs, Nat.min_self]
      rw [hz _ (by simp)] at hlt
      have hq : j / 3 < l.length := by omega
      have hzq : j / 3 < (l.zip ((List.range l.length).map fun i => Classical.choose (hch i))).length := by rw [List.length_zip]; simp; exact hq
      have e2 : (rowsF l ((List.range l.length).map fun i => Classical.choose (hch i)))[j / 3 * 3 + j % 3]? = _ := Lea.flat_get (fun p : FunV × Value => ([.int .i64 p.1.args, .int .i64 p.1.regs, p.2] : List Value)) 3 (fun o => rfl) (l.zip ((List.range l.length).map fun i => Classical.choose (hch i))) (j / 3) (j % 3) hzq (by omega)
      rw [show j / 3 * 3 + j % 3 = j from by omega, hu, List.getElem_zip] at e2
      simp only [List.getElem_map, List.getElem_range] at e2
      obtain ⟨h1, h2, _⟩ := hc (j / 3) hq
      have h3 := (Classical.choose_spec (hch (j / 3)) hq).2.1
      have hm : j % 3 = 0 ∨ j % 3 = 1 ∨ j % 3 = 2 := by omega
      rcases hm with hm | hm | hm
      · rw [hm] at e2; rw [show off + j = off + j / 3 * 3 from by omega, h1, e2]; rfl
      · rw [hm] at e2; rw [show off + j = off + j / 3 * 3 + 1 from by omega, h2, e2]; rfl
      · rw [hm] at e2; rw [show off + j = off + j / 3 * 3 + 2 from by omega, h3, e2]; rfl
    · obtain ⟨⟨f, vo⟩, hp, ho⟩ := List.mem_flatMap.1 hu
      simp only [List.mem_cons, List.mem_nil_iff, or_false] at ho
      rcases ho with rfl | rfl | rfl
      · rfl
      · rfl
      · have hm := (List.of_mem_zip hp).2
        obtain ⟨i, hi, rfl⟩ := List.mem_map.1 hm
        obtain ⟨_, _, h2⟩ := Classical.choose_spec (hch i) (List.mem_range.1 hi)
        obtain ⟨p3, c3, e⟩ := h2.slice
        rw [e]; rfl
end Go.Proofs.Ytpidhcogaoehhaa
