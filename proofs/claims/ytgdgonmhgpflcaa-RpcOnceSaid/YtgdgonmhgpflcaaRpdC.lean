import Derived.Test.YtgdgonmhgpflcaaMgk
import Derived.Test.YtgdgonmhgpflcaaMge

/- The walks of the document's due, Take, Stop. No condition but that the caller's rows are not too long. -/
namespace Go.Proofs.Ytgdgonmhgpflcaa
open Go.RowKit Go.Maps Wire Rp
set_option linter.unusedVariables false
set_option linter.unusedSimpArgs false
section
variable {w w' w1 : World} {B0 bD bO r : Nat} {vL vD vO : Value} {s : St}
def RDueP (w : World) (B0 bD bO r : Nat) (vL vO : Value) (s : St) (e : Ending) (w' : World) : Prop := e = .returned (.tuple #[]) ∧ ∃ vD', RC w' B0 bD bO r vL vD' vO s ∧ OnK B0 bD bO r w w' ∧ ∀ k A, Blk w k 99 A → Blk w' k 99 A
/-- What the append turns: the row's own block. -/
def DuG (N0 bD : Nat) (v : Value) (w w' : World) : Prop := Only (fun k => v.ownBlock = some k) w w' ∧ ∀ k, v.ownBlock = some k → k < N0 ∧ bD ≤ k ∧ ∃ A, Blk w k 101 A
structure DuI (X : World) (B0 bD bO r Q : Nat) (vL vD vO : Value) (s : St) (qa : Array Value) (w : World) : Prop where
  blk : Blk w r 97 #[.int .u64 s.inc, .int .i64 s.wait, .int .i64 s.most, .int .i64 s.tries, .int .u64 s.last, vL, vD, vO]
  qb : Blk w Q 99 qa
  row : w.ownsRow B0 99 6 vL s.L.length (rowsK s.L)
  ov : w.ownsRow bO 83 4 vO s.ov.length (rowsO s.ov)
  on : OnK B0 bD bO r X w
  kt : ∀ k A, Blk X k 99 A → Blk w k 99 A
theorem DuI.below {X : World} {Q : Nat} {qa : Array Value} (h : DuI X B0 bD bO r Q vL vD vO s qa w) (hb : Below w.heap.size w w') : DuI X B0 bD bO r Q vL vD vO s qa w' := ⟨h.blk.below hb, h.qb.below hb, owns_below h.row hb, owns_below h.ov hb, h.on.step hb, fun k A hk => (h.kt k A hk).below hb⟩
theorem DuI.drew {X : World} {Q : Nat} {qa : Array Value} (h : DuI X B0 bD bO r Q vL vD vO s qa w) : DuI X B0 bD bO r Q vL vD vO s qa w.drew := h.below (Below.refl _ w).drew
theorem DuG.keep {N0 : Nat} {v : Value} (h : DuG N0 bD v w w') {g : Nat} (hg : N0 ≤ g) {T : TypeId} {A : Array Value} (hk : Blk w g T A) : Blk w' g T A := hk.only h.1 fun e => by have := (h.2 g e).1; omega
theorem DuI.turn {X : World} {Q N0 : Nat} {qa : Array Value} {v : Value} (h : DuI X B0 bD bO r Q vL vD vO s qa w) (g : DuG N0 bD v w w') : DuI X B0 bD bO r Q vL vD vO s qa w' := by
  have key : ∀ {k : Nat} {T : TypeId} {A : Array Value}, Blk w k T A → T ≠ 101 → ¬ v.ownBlock = some k := fun hk ht e => by
    obtain ⟨_, _, A', hA⟩ := g.2 _ e
    exact ht (blk_ne hk hA)
  refine ⟨h.blk.only g.1 (key h.blk (by decide)), h.qb.only g.1 (key h.qb (by decide)), owns_only h.row g.1 fun k hk => ?_, owns_only h.ov g.1 fun k hk => ?_, h.on.trans (g.1.mono fun k _ e => ?_), fun k A hk => (h.kt k A hk).only g.1 (key (h.kt k A hk) (by decide))⟩
  · obtain ⟨A, hA, _⟩ := owns_type h.row hk; exact key hA (by decide)
  · obtain ⟨A, hA, _⟩ := owns_type h.ov hk; exact key hA (by decide)
  · obtain ⟨_, h2, h3⟩ := g.2 k e
    exact .inr (.inr (.inl ⟨h2, h3⟩))
set_option maxRecDepth 100000 in
set_option maxHeartbeats 2000000 in
theorem rdue_any (c : RC w B0 bD bO r vL vD vO s) (x : C0) (hx : U64 x.seq) (hb : x.body.size ≤ 1048576) (hn : s.du.length < 2147483648) :
    Calls Try.prog 71 #[.pointer (some ⟨r, 0, none⟩), .agg (kcells x).toArray] w (RDueP w B0 bD bO r vL vO { s with du := s.du ++ [mkDue s x] }) := by
  have HBY := Lib.hid (fun w => rbytes_any ⟨false, s.inc, x.seq, x.body⟩ (by have := c.inv.inc; unfold U64; dsimp only; omega) hx hb w)
  unfold mkDue
  have hc := c.alloc (.cells (kcells x).toArray 99)
  have HC := Lib.hid hc
  have HX := Lib.hid (Blk.new w 99 (kcells x).toArray)
  have HN := Lib.hid hn
  have HBW : Hid (OnK B0 bD bO r w (w.alloc (.cells (kcells x).toArray 99))) := Lib.hid (OnK.of_below ((Below.refl _ _).alloc (Nat.le_refl _) _))
  have HBK : Hid (∀ k A, Blk w k 99 A → Blk (w.alloc (.cells (kcells x).toArray 99)) k 99 A) := Lib.hid fun k A hk => hk.alloc _
  have HRB := Lib.hid c.blk
  obtain ⟨pd, cd, rfl⟩ := c.dslice
  clear c hc hx hb hn
  unfold BsPost pv pcells at HBY
  dsimp only at HBY
  generalize pkS _ = T at *
  obtain ⟨sq, wh, body, tries, tm, wt⟩ := x
  unfold kcells at *
  dsimp only at *
  go_enter Try.func71, Try.ntmps71
  go_upto_region 1 with fail
  generalize w.alloc (.cells _ 99) = X at *
  generalize w.heap.size = Q at *
  have HI0 : Hid (DuI X B0 bD bO r Q vL (.slice pd s.du.length cd) vO s #[.int .u64 sq, .int .i64 wh, .string body, .int .i64 tries, .int .i64 tm, .int .i64 wt] X) := Lib.hid ⟨HC.out.blk, HX.out, HC.out.row, HC.out.ov, OnK.refl _ _ _ _ _, fun _ _ h => h⟩
  have HROW : Hid (X.drew.ownsRow bD 101 2 (.slice pd s.du.length cd) s.du.length (rowsD s.du) ∧ bD ≤ X.drew.heap.size) := Lib.hid ⟨HC.out.drew.du, HC.out.sz.1⟩
  have HLT : Hid (∀ k, (Value.slice pd s.du.length cd).ownBlock = some k → k < X.heap.size) := Lib.hid fun k hk => by obtain ⟨A, hA, _⟩ := HC.out.ty.2.1 hk; exact hA.lt
  refine Reg.wp_rely 22 (fun w => DuI X B0 bD bO r Q vL (.slice pd s.du.length cd) vO s #[.int .u64 sq, .int .i64 wh, .string body, .int .i64 tries, .int .i64 tm, .int .i64 wt] w) (by kernel_rfl) (Reg.relyOk_of (by kernel_rfl)) HI0.out.drew (fun w w' h hI => hI.below h) ?_
  refine Reg.rely_plain (.pointer (some ⟨r, 0, none⟩)) rfl (fun a w hI hF => by
      have f1 : a.tmps.getD 0 undef = .pointer (some ⟨r, 0, none⟩) := hF 0 (Reg.looksB (by kernel_rfl))
      clear hF hI
      simp only [Array.getD_eq_getD_getElem?] at f1
      simp only [execOp]; go_simp) ?_
  refine Reg.rely_plain (.pointer (some ⟨r, 0, none⟩)) rfl (fun a w hI hF => by
      have f1 : a.tmps.getD 0 undef = .pointer (some ⟨r, 0, none⟩) := hF 0 (Reg.looksB (by kernel_rfl))
      clear hF hI
      simp only [Array.getD_eq_getD_getElem?] at f1
      simp only [execOp]; go_simp) ?_
  refine Reg.rely_plain (.pointer (some ⟨r, 0, none⟩)) rfl (fun a w hI hF => by
      have f1 : a.tmps.getD 5 undef = .pointer (some ⟨r, 0, none⟩) := hF 5 (Reg.looksB (by kernel_rfl))
      clear hF hI
      simp only [Array.getD_eq_getD_getElem?] at f1
      simp only [execOp]; go_simp) ?_
  refine Reg.rely_plain (.pointer (some ⟨r, 6, none⟩)) rfl (fun a w hI hF => by
      have f1 : a.tmps.getD 6 undef = .pointer (some ⟨r, 0, none⟩) := hF 6 (Reg.looksB (by kernel_rfl))
      clear hF hI
      simp only [Array.getD_eq_getD_getElem?] at f1
      simp only [execOp]; go_simp) ?_
  refine Reg.rely_plain (.slice pd s.du.length cd) rfl (fun a w hI hF => by
      have f1 : a.tmps.getD 7 undef = .pointer (some ⟨r, 6, none⟩) := hF 7 (Reg.looksB (by kernel_rfl))
      have hc : w.cell? ⟨r, 6, none⟩ = some (.slice pd s.du.length cd) := by rw [hI.blk.cell 6]; rfl
      clear hF hI
      simp only [Array.getD_eq_getD_getElem?] at f1
      simp only [execOp]; go_simp) ?_
  refine Reg.rely_plain (.pointer (some ⟨Q, 1, none⟩)) rfl (fun a w hI hF => by
      have f1 : a.tmps.getD 3 undef = .pointer (some ⟨Q, 0, none⟩) := hF 3 (Reg.looksB (by kernel_rfl))
      clear hF hI
      simp only [Array.getD_eq_getD_getElem?] at f1
      simp only [execOp]; go_simp) ?_
  refine Reg.rely_plain (.int .i64 wh) rfl (fun a w hI hF => by
      have f1 : a.tmps.getD 9 undef = .pointer (some ⟨Q, 1, none⟩) := hF 9 (Reg.looksB (by kernel_rfl))
      have hc : w.cell? ⟨Q, 1, none⟩ = some (.int .i64 wh) := by rw [hI.qb.cell 1]; rfl
      clear hF hI
      simp only [Array.getD_eq_getD_getElem?] at f1
      simp only [execOp]; go_simp) ?_
  refine Reg.rely_plain (.pointer (some ⟨r, 0, none⟩)) rfl (fun a w hI hF => by
      have f1 : a.tmps.getD 0 undef = .pointer (some ⟨r, 0, none⟩) := hF 0 (Reg.looksB (by kernel_rfl))
      clear hF hI
      simp only [Array.getD_eq_getD_getElem?] at f1
      simp only [execOp]; go_simp) ?_
  refine Reg.rely_plain (.pointer (some ⟨r, 0, none⟩)) rfl (fun a w hI hF => by
      have f1 : a.tmps.getD 11 undef = .pointer (some ⟨r, 0, none⟩) := hF 11 (Reg.looksB (by kernel_rfl))
      clear hF hI
      simp only [Array.getD_eq_getD_getElem?] at f1
      simp only [execOp]; go_simp) ?_
  refine Reg.rely_plain (.pointer (some ⟨r, 0, none⟩)) rfl (fun a w hI hF => by
      have f1 : a.tmps.getD 12 undef = .pointer (some ⟨r, 0, none⟩) := hF 12 (Reg.looksB (by kernel_rfl))
      clear hF hI
      simp only [Array.getD_eq_getD_getElem?] at f1
      simp only [execOp]; go_simp) ?_
  refine Reg.rely_plain (.int .u64 s.inc) rfl (fun a w hI hF => by
      have f1 : a.tmps.getD 13 undef = .pointer (some ⟨r, 0, none⟩) := hF 13 (Reg.looksB (by kernel_rfl))
      have hc : w.cell? ⟨r, 0, none⟩ = some (.int .u64 s.inc) := by rw [hI.blk.cell 0]; rfl
      clear hF hI
      simp only [Array.getD_eq_getD_getElem?] at f1
      simp only [execOp]; go_simp) ?_
  refine Reg.rely_plain (.pointer (some ⟨Q, 0, none⟩)) rfl (fun a w hI hF => by
      have f1 : a.tmps.getD 3 undef = .pointer (some ⟨Q, 0, none⟩) := hF 3 (Reg.looksB (by kernel_rfl))
      clear hF hI
      simp only [Array.getD_eq_getD_getElem?] at f1
      simp only [execOp]; go_simp) ?_
  refine Reg.rely_plain (.int .u64 sq) rfl (fun a w hI hF => by
      have f1 : a.tmps.getD 15 undef = .pointer (some ⟨Q, 0, none⟩) := hF 15 (Reg.looksB (by kernel_rfl))
      have hc : w.cell? ⟨Q, 0, none⟩ = some (.int .u64 sq) := by rw [hI.qb.cell 0]; rfl
      clear hF hI
      simp only [Array.getD_eq_getD_getElem?] at f1
      simp only [execOp]; go_simp) ?_
  refine Reg.rely_plain (.pointer (some ⟨Q, 2, none⟩)) rfl (fun a w hI hF => by
      have f1 : a.tmps.getD 3 undef = .pointer (some ⟨Q, 0, none⟩) := hF 3 (Reg.looksB (by kernel_rfl))
      clear hF hI
      simp only [Array.getD_eq_getD_getElem?] at f1
      simp only [execOp]; go_simp) ?_
  refine Reg.rely_plain (.string body) rfl (fun a w hI hF => by
      have f1 : a.tmps.getD 17 undef = .pointer (some ⟨Q, 2, none⟩) := hF 17 (Reg.looksB (by kernel_rfl))
      have hc : w.cell? ⟨Q, 2, none⟩ = some (.string body) := by rw [hI.qb.cell 2]; rfl
      clear hF hI
      simp only [Array.getD_eq_getD_getElem?] at f1
      simp only [execOp]; go_simp) ?_
  refine Reg.rely_plain (.agg #[.bool false, .int .u64 s.inc, .int .u64 sq, .string body]) rfl (fun a w hI hF => by
      have f1 : a.tmps.getD 14 undef = .int .u64 s.inc := hF 14 (Reg.looksB (by kernel_rfl))
      have f2 : a.tmps.getD 16 undef = .int .u64 sq := hF 16 (Reg.looksB (by kernel_rfl))
      have f3 : a.tmps.getD 18 undef = .string body := hF 18 (Reg.looksB (by kernel_rfl))
      clear hF hI
      simp only [Array.getD_eq_getD_getElem?] at f1 f2 f3
      simp only [execOp]; go_simp) ?_
  refine Reg.rely_call0 (Reg.Is (.string T)) (Reg.stab_is _ _) (fun G hG => by cases hG) rfl (fun a w hI hF => by
    have f1 : a.tmps.getD 19 undef = .agg #[.bool false, .int .u64 s.inc, .int .u64 sq, .string body] := hF 19 (Reg.looksB (by kernel_rfl))
    refine ⟨14, #[.agg #[.bool false, .int .u64 s.inc, .int .u64 sq, .string body]], ?_, (HBY.out w).mono fun e w' h => ⟨_, h.1, rfl, h.2⟩⟩
    clear hF hI
    simp only [Array.getD_eq_getD_getElem?] at f1
    simp only [execOp]; go_simp) ?_
  refine Reg.rely_plain (.agg #[.int .i64 wh, .string T]) rfl (fun a w hI hF => by
      have f1 : a.tmps.getD 10 undef = .int .i64 wh := hF 10 (Reg.looksB (by kernel_rfl))
      have f2 : a.tmps.getD 20 undef = .string T := hF 20 (Reg.looksB (by kernel_rfl))
      clear hF hI
      simp only [Array.getD_eq_getD_getElem?] at f1 f2
      simp only [execOp]; go_simp) ?_
  refine Reg.rely_rel (fun v w => ∃ g, v = .slice (some ⟨g, 0, none⟩) 1 1 ∧ X.heap.size ≤ g ∧ Blk w g 101 #[.int .i64 wh, .string T]) (fun v w w' h hS => by obtain ⟨g, h1, h2, h3⟩ := hS; exact ⟨g, h1, h2, h3.below h⟩) (fun G hG => by cases hG) rfl (fun a w hI hF => by
    have f1 : a.tmps.getD 21 undef = .agg #[.int .i64 wh, .string T] := hF 21 (Reg.looksB (by kernel_rfl))
    have hK := Lib.hid (Blk.new w 101 #[.int .i64 wh, .string T])
    have hQ := Lib.hid hI.on.size
    have hW := Lib.hid (show Reg.Grow w (w.alloc (.cells #[.int .i64 wh, .string T] 101)) from (Below.refl _ w).alloc (Nat.le_refl _) _)
    clear hF hI
    simp only [Array.getD_eq_getD_getElem?] at f1
    unfold Oper.wp
    simp only [execOp]
    go_simp
    exact ⟨_, rfl, ⟨_, rfl, hQ.out, hK.out⟩, hW.out⟩) ?_
  refine Reg.rely_turn (fun v w => w.ownsRow bD 101 2 v (s.du.length + 1) (rowsD s.du ++ dcells (wh, T))) (DuG X.heap.size bD (.slice pd s.du.length cd)) (fun w => w.ownsRow bD 101 2 (.slice pd s.du.length cd) s.du.length (rowsD s.du) ∧ bD ≤ w.heap.size) (fun v w w' h hS => owns_below hS h) (fun G hG => by cases hG) (fun w w' h hI => hI.turn h) ?_ rfl (fun w w' h hJ => ⟨owns_below hJ.1 h, Nat.le_trans hJ.2 h.size⟩) ⟨HROW.out.1, HROW.out.2⟩ (fun G hG => by cases hG) (fun G hG => by cases hG) (fun a w hI hJ hF => ?_) ?_
  · intro p hp
    repeat (rcases List.mem_cons.1 hp with rfl | hp; first | exact Reg.stab_is _ _ | exact fun v w w' h hS => by obtain ⟨g, h1, h2, h3⟩ := hS; exact ⟨g, h1, h2, h.keep h2 h3⟩)
    cases hp
  · have f1 : a.tmps.getD 8 undef = .slice pd s.du.length cd := hF 8 (Reg.looksB (by kernel_rfl))
    obtain ⟨g, f2, hg1, hg⟩ : ∃ g, a.tmps.getD 22 undef = .slice (some ⟨g, 0, none⟩) 1 1 ∧ X.heap.size ≤ g ∧ Blk w g 101 #[.int .i64 wh, .string T] := hF 22 (Reg.looksB (by kernel_rfl))
    obtain ⟨i, hi1, hi2, hi3, hi4⟩ := info_parts info_due
    refine wp_append_own _ (.tmp 8) (.tmp 22) 78 rfl bD 101 i _ 2 24 Try.underlying78 hi1 hi2 hi3 hi4 rfl (by decide) (.slice pd s.du.length cd) s.du.length (rowsD s.du) f1 hJ.1 ⟨g, 0, none⟩ 1 1 (dcells (wh, T)) f2 rfl ?_ ?_ (by have := HN.out; unfold maxLen; omega) (by have := HN.out; omega) hJ.2 ?_
    · intro j u hj
      have e : (⟨g, 0, none⟩ : Addr).add j = ⟨g, j, none⟩ := by unfold Addr.add; split <;> simp_all
      rw [e, hg.cell j]; simpa [dcells] using hj
    · intro u hu
      simp [dcells] at hu
      rcases hu with rfl | rfl <;> rfl
    · intro v' w' h1 h2 _
      refine ⟨v', rfl, h1, ⟨h2.os, h2.tape, h2.output, h2.size, fun k hk hne => h2.block k hk (fun e => hne e.symm)⟩, fun k hk => ?_⟩
      obtain ⟨A, hA, hb, _⟩ := owns_type hJ.1 hk
      exact ⟨HLT.out k hk, hb, A, hA⟩
  refine Reg.rely_is (.pointer (some ⟨r, 0, none⟩)) (fun a w hI hF => Reg.det_plain rfl ?_) ?_
  · have f1 : a.tmps.getD 4 undef = .pointer (some ⟨r, 0, none⟩) := hF 4 (Reg.looksB (by kernel_rfl))
    clear hF hI
    simp only [Array.getD_eq_getD_getElem?] at f1
    simp only [execOp]; go_simp
  refine Reg.rely_is (.pointer (some ⟨r, 6, none⟩)) (fun a w hI hF => Reg.det_plain rfl ?_) ?_
  · have f1 : a.tmps.getD 24 undef = .pointer (some ⟨r, 0, none⟩) := hF 24 (Reg.looksB (by kernel_rfl))
    clear hF hI
    simp only [Array.getD_eq_getD_getElem?] at f1
    simp only [execOp]; go_simp
  refine Reg.rely_nil ?_
  refine Reg.final_is ?_
  refine Reg.final_is ?_
  refine Reg.final_rel (fun v19 => ?_)
  refine Reg.final_rel (fun v18 => ?_)
  refine Reg.final_is ?_
  refine Reg.final_is ?_
  refine Reg.final_is ?_
  refine Reg.final_is ?_
  refine Reg.final_is ?_
  refine Reg.final_is ?_
  refine Reg.final_is ?_
  refine Reg.final_is ?_
  refine Reg.final_is ?_
  refine Reg.final_is ?_
  refine Reg.final_is ?_
  refine Reg.final_is ?_
  refine Reg.final_is ?_
  refine Reg.final_is ?_
  refine Reg.final_is ?_
  refine Reg.final_is ?_
  refine Reg.final_is ?_
  refine Reg.final_is ?_
  refine Reg.final_nil (fun w9 hF => ?_)
  have HI9 := Lib.hid hF.1.1
  have HS9 := Lib.hid hF.1.2
  clear hF
  simp only [List.drop_succ_cons, List.drop_zero]
  go_simp
  have d1 : w9.cell? ⟨r, 6, none⟩ = some (.slice pd s.du.length cd) := by rw [HI9.out.blk.cell 6]; rfl
  have f1 := HI9.out.blk.frozen 6
  obtain ⟨p9, c9, rfl⟩ := owns_slice HS9.out
  go_wp2_with fail
  refine Reg.fin (by kernel_rfl) ?_
  go_wp2_with fail
  go_end0
  have o7 : Only (· = r) w9 (w9.setCell ⟨r, 6, none⟩ (.slice p9 (s.du.length + 1) c9)) := (Only.refl _ w9).set1
  have hs2 := setCell_size w9 ⟨r, 6, none⟩ (.slice p9 (s.du.length + 1) c9)
  have hne : ∀ {base size n : Nat} {e : TypeId} {v : Value} {xs : List Value}, w9.ownsRow base e size v n xs → 97 ≠ e → ∀ g, v.ownBlock = some g → ¬ g = r := fun h ht g hg => owns_ne h HI9.out.blk ht g hg
  refine ⟨rfl, .slice p9 (s.du.length + 1) c9, ⟨?_, owns_only HI9.out.row o7 (hne HI9.out.row (by decide)), ?_, owns_only HI9.out.ov o7 (hne HI9.out.ov (by decide)), HC.out.ge, ⟨by have := HC.out.sz; have := HI9.out.on.size; rw [hs2]; omega, by have := HC.out.sz; have := HI9.out.on.size; rw [hs2]; omega⟩, HC.out.inv.rows _ s.ov⟩, HBW.out.trans (HI9.out.on.trans (o7.mono fun k _ e => .inl e)), fun k A hk => (HI9.out.kt k A (HBK.out k A hk)).only o7 fun e => by rw [show k = r from e] at hk; exact absurd (blk_ne HRB.out hk) (by decide)⟩
  · have := HI9.out.blk.set 6 (.slice p9 (s.du.length + 1) c9)
    rwa [setIf6] at this
  · have h8 := owns_only HS9.out o7 (hne HS9.out (by decide))
    simpa [rowsD] using h8
end
end Go.Proofs.Ytgdgonmhgpflcaa
