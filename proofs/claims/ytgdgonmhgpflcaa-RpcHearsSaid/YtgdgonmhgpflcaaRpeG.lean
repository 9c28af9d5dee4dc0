import Derived.Test.YtgdgonmhgpflcaaRpeF
import Derived.Test.YtgdgonmhgpflcaaRpdG

/- The script of RpcHears, opened out of its reading; what the document's peers keep. No condition. -/
namespace Go.Proofs.Ytgdgonmhgpflcaa
open Go.RowKit Go.Maps Wire Rp
set_option linter.unusedVariables false
set_option linter.unusedSimpArgs false
namespace Rp
structure HdR where
  an : Bool
  fr : Int
  p : Pk
instance : Inhabited HdR := ⟨⟨false, 0, ⟨false, 0, 0, ⟨#[]⟩⟩⟩⟩
def hdA (s : HdR) : Array Value := #[.bool s.an, .int .i64 s.fr, .bool s.p.an, .int .u64 s.p.inc, .int .u64 s.p.seq, .string s.p.body]
end Rp
def HdAt (W : World) (g o : Nat) (s : HdR) : Prop :=
  W.cell? ⟨g, o, none⟩ = some (.bool s.an) ∧ W.cell? ⟨g, o + 1, none⟩ = some (.int .i64 s.fr) ∧
    W.cell? ⟨g, o + 2, none⟩ = some (.bool s.p.an) ∧ W.cell? ⟨g, o + 3, none⟩ = some (.int .u64 s.p.inc) ∧ W.cell? ⟨g, o + 4, none⟩ = some (.int .u64 s.p.seq) ∧ W.cell? ⟨g, o + 5, none⟩ = some (.string s.p.body)
def HdOk (s : HdR) : Prop := I64 s.fr ∧ U64 s.p.inc ∧ U64 s.p.seq ∧ s.p.body.size ≤ maxLen
def HearsR (W : World) (v : Value) (n : Nat) (sx : Nat → HdR) : Prop :=
  ∃ p cap, v = .slice p n cap ∧ (0 < n → ∃ g off, p = some ⟨g, off, none⟩ ∧ g < W.heap.size ∧ ∀ i, i < n → HdAt W g (off + i * 6) (sx i) ∧ HdOk (sx i))
theorem HdAt.below {W w' : World} {g o : Nat} {s : HdR} (h : HdAt W g o s) (hb : Below W.heap.size W w') (hg : g < W.heap.size) : HdAt w' g o s := by
  unfold HdAt at *
  rw [hb.cell (p := ⟨g, o, none⟩) hg, hb.cell (p := ⟨g, o + 1, none⟩) hg, hb.cell (p := ⟨g, o + 2, none⟩) hg, hb.cell (p := ⟨g, o + 3, none⟩) hg, hb.cell (p := ⟨g, o + 4, none⟩) hg, hb.cell (p := ⟨g, o + 5, none⟩) hg]
  exact h
theorem HearsR.below {W w' : World} {v : Value} {n : Nat} {sx : Nat → HdR} (h : HearsR W v n sx) (hb : Below W.heap.size W w') : HearsR w' v n sx := by
  obtain ⟨p, cap, e, h⟩ := h
  exact ⟨p, cap, e, fun hn => by
    obtain ⟨g, off, e, hg, hx⟩ := h hn
    exact ⟨g, off, e, Nat.lt_of_lt_of_le hg hb.size, fun i hi => ⟨(hx i hi).1.below hb hg, (hx i hi).2⟩⟩⟩
section
open Go.ChangeShapes Go.WideShapes Go.Deep
variable {H : Type} {enc : TypeId × Value → H} {W : World} {base : Nat} {held : Bool}
set_option maxRecDepth 100000 in
theorem open_hears {r : Reach} {b0 : Nat} {v : Value} {d : DataW H} {ps : List MemPlace} (hval : Value.okWide Try.prog W r b0 36 v) (hd : DataW.Trod enc Try.prog W base (fun _ => true) held 36 v d ps) :
    ∃ n sx, HearsR W v n sx := by
  obtain ⟨p, n, cap, rfl, h⟩ := open_rows (e := 38) (m := 6) Try.underlying36 (by kernel_rfl) (by decide) hval hd
  by_cases hn : 0 < n
  · obtain ⟨g, off, rfl, hg, hx⟩ := h hn
    have key : ∀ i, i < n → ∃ s : HdR, HdAt W g (off + i * 6) s ∧ HdOk s := by
      intro i hi
      obtain ⟨cs, fuel, x, hlen, hcell, hy⟩ := hx i hi
      have f := fun (k : Nat) (fd : Field) (hf : _) (ho : fd.offset = k) (hc : Try.prog.cellsOf fd.type = 1) (hlt : k < cs.length) => open_field (P := Try.prog) (t := 38) Try.underlying38 hy k fd hf k ho hc hlt
      obtain ⟨m0, y0, e0⟩ := f 0 _ rfl rfl (by kernel_rfl) (by omega)
      obtain ⟨m1, y1, e1⟩ := f 1 _ rfl rfl (by kernel_rfl) (by omega)
      obtain ⟨m6, y6, e6⟩ := open_part (P := Try.prog) (t := 38) Try.underlying38 hy 2 _ rfl 2 rfl (k := 4) (by kernel_rfl)
      obtain ⟨n0, z0, _⟩ := DataW.trod_bool (by kernel_rfl) e0
      obtain ⟨n1, z1, _, w1⟩ := DataW.trod_int (k := .i64) (by kernel_rfl) e1
      obtain ⟨pk, z6, v1, v2, v3⟩ := open_pk (cs := (cs.drop 2).take 4) (by rw [List.length_take, List.length_drop]; omega) e6
      have g := fun (j : Nat) (hj : j < 6) (u : Value) (hu : [cs.getD j undef] = [u]) => show W.cell? ⟨g, off + i * 6 + j, none⟩ = some u by
        rw [hcell j hj, List.getElem?_eq_getElem (by omega)]
        simp only [List.getD, List.getElem?_eq_getElem (show j < cs.length by omega), Option.getD_some, List.cons.injEq, and_true] at hu
        rw [hu]
      have q := fun (j : Nat) (hj : j < 4) => show W.cell? ⟨_, off + i * 6 + (2 + j), none⟩ = (pcells pk).toList[j]? by
        rw [hcell (2 + j) (by omega), ← z6, List.getElem?_take_of_lt hj, List.getElem?_drop]
      exact ⟨⟨n0, n1, pk⟩, ⟨g 0 (by omega) _ z0, g 1 (by omega) _ z1, q 0 (by omega), q 1 (by omega), q 2 (by omega), q 3 (by omega)⟩, i64_of w1, v1, v2, v3⟩
    obtain ⟨sx, hsx⟩ := choose_fn key
    exact ⟨n, sx, _, cap, rfl, fun _ => ⟨g, off, rfl, hg, hsx⟩⟩
  · exact ⟨n, fun _ => default, p, cap, rfl, fun h => absurd h hn⟩
end
/-! ### What the document's peers keep -/
def LD (n : Nat) (d : List Pe) : Prop := d.length ≤ n ∧ ∀ x ∈ d, x.L.length ≤ n ∧ (∀ h ∈ x.L, hOk h) ∧ x.L.Pairwise (fun a b => a.seq ≠ b.seq)
namespace Rp
theorem LD.mono {n m : Nat} {d : List Pe} (h : LD n d) (hm : n ≤ m) : LD m d := ⟨Nat.le_trans h.1 hm, fun x hx => ⟨Nat.le_trans (h.2 x hx).1 hm, (h.2 x hx).2⟩⟩
theorem LD.add {n : Nat} {d : List Pe} (h : LD n d) (fr : Int) : LD (n + 1) (addP d fr) := by
  unfold addP
  split
  · exact LD.mono h (Nat.le_succ _)
  · refine ⟨by rw [List.length_append]; have := h.1; simp; omega, fun x hx => ?_⟩
    rcases List.mem_append.1 hx with hx | hx
    · exact ⟨Nat.le_succ_of_le (h.2 x hx).1, (h.2 x hx).2⟩
    · simp at hx
      subst hx
      exact ⟨Nat.zero_le _, (fun h hh => by cases hh), List.Pairwise.nil⟩
theorem LD.set {n : Nat} {d : List Pe} (h : LD n d) {x : Pe} (hl : (lookP d x.fr).isSome = true) (hx : x.L.length ≤ n ∧ (∀ h ∈ x.L, hOk h) ∧ x.L.Pairwise (fun a b => a.seq ≠ b.seq)) : LD n (setPe d x) := by
  refine ⟨by rw [setPe_some hl, List.length_map]; exact h.1, fun y hy => ?_⟩
  rcases mem_setPe hy with rfl | ⟨hy, _⟩
  · exact hx
  · exact h.2 y hy
theorem may_ok {p : Pk} (h : mayP p = true) : hOk ⟨p.seq, false, ⟨#[]⟩⟩ := by
  unfold mayP at h
  simp only [Bool.and_eq_true, decide_eq_true_eq] at h
  exact ⟨h.2.2.1, h.2.2.2.1, Nat.zero_le _⟩
theorem LD.take {n : Nat} {d : List Pe} (h : LD n d) (fr : Int) (p : Pk) : LD (n + 1) (takeR d fr p).2 := by
  unfold takeR
  by_cases hb : (placeB fr && mayP p && !p.an) = false
  · rw [if_pos hb]; exact LD.mono h (Nat.le_succ _)
  · rw [if_neg hb]
    unfold takeD
    rw [if_neg hb]
    have hmy : mayP p = true := by
      simp only [Bool.not_eq_false, Bool.and_eq_true] at hb
      exact hb.1.2
    have ha : lookP (addP d fr) fr = some ((lookP d fr).getD (newP fr)) := by rw [lookP_add, if_pos rfl]
    have hd := LD.add h fr
    have hc : (curPe (lookP (addP d fr) fr) fr p).L.length ≤ n ∧ (∀ h ∈ (curPe (lookP (addP d fr) fr) fr p).L, hOk h) ∧ (curPe (lookP (addP d fr) fr) fr p).L.Pairwise (fun a b => a.seq ≠ b.seq) := by
      have h0 : ((lookP d fr).getD (newP fr)).L.length ≤ n ∧ (∀ h ∈ ((lookP d fr).getD (newP fr)).L, hOk h) ∧ ((lookP d fr).getD (newP fr)).L.Pairwise (fun a b => a.seq ≠ b.seq) := by
        cases hl : lookP d fr with
        | none => exact ⟨Nat.zero_le _, (fun h hh => by cases hh), List.Pairwise.nil⟩
        | some x => exact h.2 x (lookP_some hl).1
      rw [ha]
      unfold curPe
      dsimp only
      split
      · exact ⟨Nat.zero_le _, (fun h hh => by cases hh), List.Pairwise.nil⟩
      · exact h0
    have hf := curPe_fr (addP d fr) fr p
    generalize hcp : curPe (lookP (addP d fr) fr) fr p = x at *
    refine LD.set hd ?_ ?_
    · have : (hear x p).2.fr = fr := by unfold hear; repeat' split
                                        all_goals exact hf
      rw [this, ha]; rfl
    · unfold hear
      split
      · exact ⟨Nat.le_succ_of_le hc.1, hc.2⟩
      · split
        · split <;> exact ⟨Nat.le_succ_of_le hc.1, hc.2⟩
        · rename_i hl
          split
          · exact ⟨Nat.le_succ_of_le hc.1, hc.2⟩
          · refine ⟨by dsimp only; rw [List.length_append]; have := hc.1; simp; omega, fun g hg => ?_, ?_⟩
            · rcases List.mem_append.1 hg with hg | hg
              · exact hc.2.1 g hg
              · simp at hg; subst hg; exact may_ok hmy
            · refine List.pairwise_append.2 ⟨hc.2.2, List.pairwise_singleton _ _, fun a ha b hb => ?_⟩
              simp at hb
              subst hb
              exact lookH_none hl a ha
theorem LD.ans {n : Nat} {d : List Pe} (h : LD n d) (fr inc sq : Int) (body : ByteArray) : LD (n + 1) (ansR d fr inc sq body).2 := by
  have h1 := LD.mono h (Nat.le_succ n)
  have h2 := LD.add h fr
  unfold ansR
  by_cases h3 : placeB fr = false
  · rw [if_pos h3]; exact h1
  · rw [if_neg h3]
    by_cases h4 : 8192 < body.size
    · rw [if_pos h4]; exact h1
    · rw [if_neg h4]
      by_cases h5 : inc = 0
      · rw [if_pos h5]; exact h2
      · rw [if_neg h5]
        unfold ansD
        rw [if_neg h3, if_neg h4]
        cases hx : lookP (addP d fr) fr with
        | none => exact h2
        | some x =>
          dsimp only
          by_cases hi : x.inc = inc
          · rw [if_pos hi]
            cases hg : lookH x.L sq with
            | none => exact h2
            | some g =>
              dsimp only
              cases hdn : g.dn with
              | true => exact h2
              | false =>
                simp only [Bool.false_eq_true, if_false]
                obtain ⟨hm, hfr⟩ := lookP_some hx
                obtain ⟨hgm, hgs⟩ := lookH_some hg
                have hxx := h2.2 x hm
                have hok : hOk ⟨sq, true, body⟩ := by
                  have := hxx.2.1 g hgm
                  unfold hOk at *
                  dsimp only
                  omega
                have hs : (setH x.L ⟨sq, true, body⟩).length ≤ n + 1 ∧ (∀ h ∈ setH x.L ⟨sq, true, body⟩, hOk h) ∧ (setH x.L ⟨sq, true, body⟩).Pairwise (fun a b => a.seq ≠ b.seq) := by
                  refine ⟨by unfold setH; rw [List.length_map]; exact hxx.1, fun y hy => ?_, ?_⟩
                  · unfold setH at hy
                    obtain ⟨a, ha, rfl⟩ := List.mem_map.1 hy
                    split
                    · exact hok
                    · exact hxx.2.1 a ha
                  · unfold setH
                    rw [List.pairwise_map]
                    refine hxx.2.2.imp fun {a b} hab => ?_
                    have e1 : (if a.seq = sq then (⟨sq, true, body⟩ : He) else a).seq = a.seq := by split <;> simp_all
                    have e2 : (if b.seq = sq then (⟨sq, true, body⟩ : He) else b).seq = b.seq := by split <;> simp_all
                    show (if a.seq = sq then (⟨sq, true, body⟩ : He) else a).seq ≠ (if b.seq = sq then (⟨sq, true, body⟩ : He) else b).seq
                    rw [e1, e2]; exact hab
                refine LD.set h2 ?_ ?_
                · have : (forgetP { x with L := setH x.L ⟨sq, true, body⟩ }).fr = fr := by unfold forgetP; split <;> exact hfr
                  rw [this, hx]; rfl
                · unfold forgetP
                  split
                  · exact hs
                  · refine ⟨Nat.le_trans (List.length_filter_le _ _) hs.1, fun y hy => hs.2.1 y (List.mem_filter.1 hy).1, hs.2.2.filter _⟩
          · rw [if_neg hi]; exact h2
end Rp
theorem LD.lb {n : Nat} {l : List PeV} (h : LD n (peV l)) (hn : n ≤ 1000) : l.length ≤ 1000 ∧ ∀ x ∈ l, LB x.1.L :=
  ⟨by have := h.1; unfold peV at this; rw [List.length_map] at this; omega, fun x hx => by
    have := h.2 x.1 (List.mem_map.2 ⟨x, hx, rfl⟩)
    exact ⟨by omega, this.2⟩⟩
end Go.Proofs.Ytgdgonmhgpflcaa
