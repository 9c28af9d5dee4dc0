import Derived.Test.YtgdgonmhgpflcaaRpdE

/- The walk of the document's Tick. No condition but that the caller's rows are not too long. -/
namespace Go.Proofs.Ytgdgonmhgpflcaa
open Go.RowKit Go.Maps Wire Rp
set_option linter.unusedVariables false
set_option linter.unusedSimpArgs false
namespace Rp
def tdo (s : St) (now : Int) (i : Nat) : St := { s with du := s.du ++ (s.L.take i).filterMap (tkD s now), ov := s.ov ++ (s.L.take i).filterMap (tkO s now) }
def tkl (s : St) (now : Int) (i : Nat) : List C0 := (s.L.take i).filterMap (tkL s now)
section
variable {s : St} {now : Int} {i : Nat}
theorem td_keep (hi : i < s.L.length) (h : now < s.L[i].tm) : tdo s now (i + 1) = tdo s now i ∧ tkl s now (i + 1) = tkl s now i ++ [s.L[i]] := by
  unfold tdo tkl
  rw [List.take_succ_eq_append_getElem hi, List.filterMap_append, List.filterMap_append, List.filterMap_append]
  simp [tkL, tkD, tkO, h]
theorem td_late (hi : i < s.L.length) (h : ¬ now < s.L[i].tm) (h2 : s.tries ≤ s.L[i].tries) : tdo s now (i + 1) = { tdo s now i with ov := (tdo s now i).ov ++ [⟨s.L[i].seq, s.L[i].wh, ⟨#[]⟩, 270⟩] } ∧ tkl s now (i + 1) = tkl s now i := by
  unfold tdo tkl
  rw [List.take_succ_eq_append_getElem hi, List.filterMap_append, List.filterMap_append, List.filterMap_append]
  simp [tkL, tkD, tkO, h, h2]
theorem td_fire (hi : i < s.L.length) (h : ¬ now < s.L[i].tm) (h2 : ¬ s.tries ≤ s.L[i].tries) : tdo s now (i + 1) = { tdo s now i with du := (tdo s now i).du ++ [mkDue (tdo s now i) (nextC s now s.L[i])] } ∧ tkl s now (i + 1) = tkl s now i ++ [nextC s now s.L[i]] := by
  unfold tdo tkl
  rw [List.take_succ_eq_append_getElem hi, List.filterMap_append, List.filterMap_append, List.filterMap_append]
  simp [tkL, tkD, tkO, h, h2, mkDue, nextC]
theorem td_zero (s : St) (now : Int) : tdo s now 0 = s ∧ tkl s now 0 = [] := by unfold tdo tkl; simp
theorem td_len (s : St) (now : Int) (i : Nat) (hi : i ≤ s.L.length) : (tdo s now i).du.length ≤ s.du.length + i ∧ (tdo s now i).ov.length ≤ s.ov.length + i ∧ (tkl s now i).length ≤ i := by
  have h1 := List.length_filterMap_le (tkD s now) (s.L.take i)
  have h2 := List.length_filterMap_le (tkO s now) (s.L.take i)
  have h3 := List.length_filterMap_le (tkL s now) (s.L.take i)
  rw [List.length_take] at h1 h2 h3
  unfold tdo tkl
  dsimp only
  rw [List.length_append, List.length_append]
  omega
theorem td_all (hv : SInv s) (ht : timeB now = true) : { tdo s now s.L.length with L := tkl s now s.L.length } = tickAt s now s.L.length ∧ SInv (tickAt s now s.L.length) := by
  have e : { tdo s now s.L.length with L := tkl s now s.L.length } = tickAt s now s.L.length := by
    unfold tdo tkl tickAt; simp
  refine ⟨e, ?_⟩
  rw [← e]
  unfold tdo tkl
  rw [List.take_length]
  refine hv.ofL ⟨rfl, rfl, rfl, rfl, rfl⟩ ?_ ?_ fun z hz => ?_
  · have := List.length_filterMap_le (tkL s now) s.L; have := hv.len; dsimp only; omega
  · dsimp only
    rw [List.pairwise_filterMap]
    refine hv.ris.imp fun {a b} hab y hy z hz => ?_
    have h1 : ∀ {c d : C0}, tkL s now c = some d → d.seq = c.seq := fun {c d} h => by
      unfold tkL at h
      split at h
      · injection h with h; rw [h]
      · split at h
        · cases h
        · injection h with h; rw [← h]; rfl
    rw [h1 hy, h1 hz]
    exact hab
  · obtain ⟨c, hc, e2⟩ := List.mem_filterMap.1 hz
    have hk := hv.ok c hc
    unfold tkL at e2
    split at e2
    · injection e2 with e2; rw [← e2]; exact hk
    · split at e2
      · cases e2
      · injection e2 with e2; rw [← e2]; exact next_ok hv hk ht (by assumption)
end
end Rp
section
variable {w w' w1 : World} {B0 bD bO r : Nat} {vL vD vO : Value} {s : St} {N0 n : Nat} {vl : Value} {xs : List Value}
/-- Turning the row that Tick lays leaves the caller. -/
theorem RC.keepl (c : RC w B0 bD bO r vL vD vO s) (hr : w.ownsRow N0 99 6 vl n xs) (hN : B0 ≤ N0) (hL : ∀ k, vL.ownBlock = some k → k < N0) (o : Only (fun k => vl.ownBlock = some k) w w') : RC w' B0 bD bO r vL vD vO s ∧ OnK B0 bD bO r w w' :=
  ⟨c.only o (fun e => owns_ne hr c.blk (by decide) _ e rfl) (fun g hg e => by have := hL g hg; obtain ⟨_, _, h, _⟩ := owns_type hr e; omega)
    (fun g hg e => by obtain ⟨A, hA, _⟩ := c.ty.2.1 hg; exact owns_ne hr hA (by decide) _ e rfl) (fun g hg e => by obtain ⟨A, hA, _⟩ := c.ty.2.2 hg; exact owns_ne hr hA (by decide) _ e rfl),
   o.mono fun k _ e => by obtain ⟨A, hA, h, _⟩ := owns_type hr e; exact .inr (.inl ⟨by omega, A, hA⟩)⟩
theorem row_kt (hr : w.ownsRow N0 99 6 vl n xs) (hk : ∀ k A, Blk w k 99 A → Blk w' k 99 A) (o : OnK B0 bD bO r w w') : w'.ownsRow N0 99 6 vl n xs := by
  have o2 : Only (fun k => ¬ vl.ownBlock = some k) w w' := ⟨o.os, o.tape, o.output, o.size, fun k hk2 hne => by
    have hv : vl.ownBlock = some k := Classical.byContradiction fun h => hne h
    obtain ⟨A, hA, _⟩ := owns_type hr hv
    rw [show w'.heap[k]? = _ from hk k A hA, hA]⟩
  exact owns_only hr o2 fun g hg e => e hg
/-- At the end the row is the caller's. -/
theorem RC.store (c : RC w B0 bD bO r vL vD vO s) {L : List C0} (hr : w.ownsRow N0 99 6 vl L.length (rowsK L)) (hN : B0 ≤ N0) (hv : SInv { s with L := L }) : RC (w.setCell ⟨r, 5, none⟩ vl) B0 bD bO r vl vD vO { s with L := L } := by
  have o7 : Only (· = r) w (w.setCell ⟨r, 5, none⟩ vl) := (Only.refl _ w).set1
  have hs2 := setCell_size w ⟨r, 5, none⟩ vl
  have hne : ∀ {base size n : Nat} {e : TypeId} {v : Value} {xs : List Value}, w.ownsRow base e size v n xs → 97 ≠ e → ∀ g, v.ownBlock = some g → ¬ g = r := fun h ht g hg => owns_ne h c.blk ht g hg
  refine ⟨?_, owns_ge (owns_only hr o7 (hne hr (by decide))) hN, owns_only c.du o7 (hne c.du (by decide)), owns_only c.ov o7 (hne c.ov (by decide)), c.ge, ⟨by rw [hs2]; exact c.sz.1, by rw [hs2]; exact c.sz.2⟩, hv⟩
  have := c.blk.set 5 vl
  rwa [RC.setF5] at this
theorem row_o (hr : w.ownsRow N0 99 6 vl n xs) (c : RC w B0 bD bO r vL vD vO s) (o6 : Only (fun k => vO.ownBlock = some k) w w') (v : Value) : (w'.setCell ⟨r, 7, none⟩ v).ownsRow N0 99 6 vl n xs := by
  have h6 := owns_only hr o6 fun g hg e => by obtain ⟨A, hA, _⟩ := c.ty.2.2 e; exact owns_ne hr hA (by decide) _ hg rfl
  have b6 := c.blk.only o6 fun e => by obtain ⟨A, hA, _⟩ := c.ty.2.2 e; exact absurd (blk_ne hA c.blk) (by decide)
  exact owns_only h6 ((Only.refl (· = r) w').set1 (o := 7) (v := v)) fun g hg e => owns_ne h6 b6 (by decide) _ hg e
theorem RC.setq {Q : Nat} {A : Array Value} (c : RC w B0 bD bO r vL vD vO s) (hx : Blk w Q 99 A) (hQ : ∀ k, vL.ownBlock = some k → k < Q) (hB : B0 ≤ Q) (o : Only (· = Q) w w') : RC w' B0 bD bO r vL vD vO s ∧ OnK B0 bD bO r w w' :=
  ⟨c.only o (fun e => by rw [e] at c; exact absurd (blk_ne hx c.blk) (by decide)) (fun g hg e => by have := hQ g hg; omega)
    (fun g hg e => by obtain ⟨A, hA, _⟩ := c.ty.2.1 hg; subst e; exact absurd (blk_ne hA hx) (by decide)) (fun g hg e => by obtain ⟨A, hA, _⟩ := c.ty.2.2 hg; subst e; exact absurd (blk_ne hA hx) (by decide)),
   o.mono fun k _ e => by have e' : k = Q := e; subst e'; exact .inr (.inl ⟨hB, A, hx⟩)⟩
theorem kF3 (a0 a1 a2 a3 a4 a5 v : Value) : (#[a0, a1, a2, a3, a4, a5] : Array Value).setIfInBounds 3 v = #[a0, a1, a2, v, a4, a5] := rfl
theorem kF4 (a0 a1 a2 a3 a4 a5 v : Value) : (#[a0, a1, a2, a3, a4, a5] : Array Value).setIfInBounds 4 v = #[a0, a1, a2, a3, v, a5] := rfl
theorem kF5 (a0 a1 a2 a3 a4 a5 v : Value) : (#[a0, a1, a2, a3, a4, a5] : Array Value).setIfInBounds 5 v = #[a0, a1, a2, a3, a4, v] := rfl
def RTickP (w : World) (B0 bD bO r : Nat) (q : Int × St) (e : Ending) (w' : World) : Prop := e = .returned (.int .i64 q.1) ∧ ∃ vL' vD' vO', RC w' B0 bD bO r vL' vD' vO' q.2 ∧ OnK B0 bD bO r w w'
def TdR (w : World) (B0 bD bO r : Nat) (vL : Value) (s : St) (now : Int) (vl u : Value) (wr : World) : Prop :=
  ∃ (i : Nat) (vD' vO' : Value), i ≤ s.L.length ∧ u = .int .i64 i ∧ RC wr B0 bD bO r vL vD' vO' (tdo s now i) ∧ wr.ownsRow w.heap.size 99 6 vl (tkl s now i).length (rowsK (tkl s now i)) ∧ OnK B0 bD bO r w wr
set_option maxRecDepth 100000 in
set_option maxHeartbeats 4000000 in
theorem rtick_any (c : RC w B0 bD bO r vL vD vO s) {now : Int} (hn : s.du.length ≤ 1000000 ∧ s.ov.length ≤ 1000000) :
    Calls Try.prog 38 #[.pointer (some ⟨r, 0, none⟩), .int .i64 now] w (RTickP w B0 bD bO r (tickS s now)) := by
  have HC := Lib.hid c
  have HTM := Lib.hid (rtime_any now w)
  have HN := Lib.hid hn
  unfold tickS
  clear hn
  cases htm : timeB now with
  | false =>
    rw [htm] at HTM
    simp only [Bool.false_eq_true, if_false]
    clear htm c
    go_enter Try.func38, Try.ntmps38
    go_wp2_with (go_at_call 70; ((with_reducible refine HTM.out.mono ?_); rintro e w9 ⟨rfl, hw9⟩; have hw9 := hw9.symm; subst hw9))
    go_ret
    exact ⟨rfl, _, _, _, HC.out, OnK.refl _ _ _ _ _⟩
  | true =>
    have HTV := Lib.hid htm
    rw [htm] at HTM
    simp only [if_true]
    have HBW : Hid (B0 ≤ w.heap.size) := Lib.hid (by have := c.ge; have := c.blk.lt; omega)
    have HVL : Hid (∀ k, vL.ownBlock = some k → k < w.heap.size) := Lib.hid fun k hk => by obtain ⟨A, hA, _⟩ := c.ty.1 hk; exact hA.lt
    have HIV := Lib.hid c.inv
    have HAL := Lib.hid (td_all c.inv htm)
    obtain ⟨pL, cL, rfl⟩ := c.lslice
    clear htm c
    go_enter Try.func38, Try.ntmps38
    go_wp2_with (go_at_call 70; ((with_reducible refine HTM.out.mono ?_); rintro e w9 ⟨rfl, hw9⟩; have hw9 := hw9.symm; subst hw9))
    go_loopw [5, 6] (fun vl u wr => TdR w B0 bD bO r (.slice pL s.L.length cL) s now vl u wr) (fun _ u _ => ((s.L.length : Int) - intOf u).toNat)
    case atStart => exact ⟨0, _, _, Nat.zero_le _, rfl, by rw [(td_zero s now).1]; exact HC.out, by rw [(td_zero s now).2]; exact World.ownsRow_nil w w.heap.size 99 6, OnK.refl _ _ _ _ _⟩
    case round =>
      obtain ⟨i, vD', vO', hi, rfl, hcw, hrow, hon⟩ := hrel
      have HCW := Lib.hid hcw
      have HON := Lib.hid hon
      have HROW := Lib.hid hrow
      have c5 := hcw.c5
      obtain ⟨p0, c0, rfl⟩ := owns_slice hrow
      by_cases hil : i < s.L.length
      · have hil' : (i : Int) < (s.L.length : Int) := by omega
        have hi0 : (0 : Int) ≤ (i : Int) := by omega
        obtain ⟨g, cap, ev, _, hg, hgr, _, hz⟩ := hcw.call (i := i) hil
        injection ev with e1 e2 e3
        subst e1 e3
        have z0 : wr.cell? ⟨g, i * 6, none⟩ = some (.int .u64 s.L[i].seq) := hz 0 (by decide)
        have z1 : wr.cell? ⟨g, i * 6 + 1, none⟩ = some (.int .i64 s.L[i].wh) := hz 1 (by decide)
        have z2 : wr.cell? ⟨g, i * 6 + 2, none⟩ = some (.string s.L[i].body) := hz 2 (by decide)
        have z3 : wr.cell? ⟨g, i * 6 + 3, none⟩ = some (.int .i64 s.L[i].tries) := hz 3 (by decide)
        have z4 : wr.cell? ⟨g, i * 6 + 4, none⟩ = some (.int .i64 s.L[i].tm) := hz 4 (by decide)
        have z5 : wr.cell? ⟨g, i * 6 + 5, none⟩ = some (.int .i64 s.L[i].wt) := hz 5 (by decide)
        have HE : Hid (wrap64 ((i : Int) + 1) = ((i + 1 : Nat) : Int)) := Lib.hid (Sou.w64n rfl (by have := HIV.out.len; omega))
        have HIM := Lib.hid hil
        have HK := Lib.hid (td_keep (s := s) (now := now) hil)
        have HLT := Lib.hid (td_late (s := s) (now := now) hil)
        have HF := Lib.hid (td_fire (s := s) (now := now) hil)
        have HTL := Lib.hid (td_len s now i (Nat.le_of_lt hil))
        have HXK := Lib.hid (HIV.out.ok s.L[i] (List.getElem_mem hil))
        have HZ : Hid (∀ (vl' : Value) (w5 : World) (vD5 vO5 : Value), RC w5 B0 bD bO r (.slice (some ⟨g, 0, none⟩) s.L.length cL) vD5 vO5 (tdo s now (i + 1)) → w5.ownsRow w.heap.size 99 6 vl' (tkl s now (i + 1)).length (rowsK (tkl s now (i + 1))) → OnK B0 bD bO r wr w5 → TdR w B0 bD bO r (.slice (some ⟨g, 0, none⟩) s.L.length cL) s now vl' (.int .i64 ((i + 1 : Nat) : Int)) w5) := Lib.hid fun vl' w5 vD5 vO5 h1 h2 h3 => ⟨i + 1, vD5, vO5, hil, rfl, h1, h2, HON.out.trans h3⟩
        clear hcw hon hrow hz hi e2 hg hgr
        go_upto_region 8 with fail
        have HX : Hid (Blk (wr.alloc (.cells #[.int .u64 s.L[i].seq, .int .i64 s.L[i].wh, .string s.L[i].body, .int .i64 s.L[i].tries, .int .i64 s.L[i].tm, .int .i64 s.L[i].wt] 99)) wr.heap.size 99 #[.int .u64 s.L[i].seq, .int .i64 s.L[i].wh, .string s.L[i].body, .int .i64 s.L[i].tries, .int .i64 s.L[i].tm, .int .i64 s.L[i].wt]) := Lib.hid (Blk.new _ _ _)
        have hbx := (Below.refl _ wr).alloc (Nat.le_refl _) (.cells #[.int .u64 s.L[i].seq, .int .i64 s.L[i].wh, .string s.L[i].body, .int .i64 s.L[i].tries, .int .i64 s.L[i].tm, .int .i64 s.L[i].wt] 99)
        have HRW : Hid (∀ k, (Value.slice p0 (tkl s now i).length c0).ownBlock = some k → k < wr.heap.size) := Lib.hid fun k hk => by obtain ⟨A, hA, _, h⟩ := owns_type HROW.out hk; exact h
        have HWR : Hid (w.heap.size ≤ wr.heap.size) := Lib.hid HON.out.size
        have HC1 := Lib.hid (HCW.out.below hbx)
        have HR1 := Lib.hid (owns_below HROW.out hbx)
        have HO1 : Hid (OnK B0 bD bO r wr _) := Lib.hid (OnK.of_below hbx)
        have HVL2 := Lib.hid HVL.out
        clear c5 z0 z1 z2 z3 z4 z5 HCW HROW hbx
        generalize wr.alloc (.cells #[.int .u64 s.L[i].seq, .int .i64 s.L[i].wh, .string s.L[i].body, .int .i64 s.L[i].tries, .int .i64 s.L[i].tm, .int .i64 s.L[i].wt] 99) = W at *
        generalize s.L[i] = x at *
        have HLL := Lib.hid (show (tdo s now i).tries = s.tries ∧ (tdo s now i).most = s.most from ⟨rfl, rfl⟩)
        generalize tdo s now i = T at *
        generalize tkl s now i = l at *
        generalize wr.heap.size = Q at *
        have y0 : W.cell? ⟨Q, 0, none⟩ = some (.int .u64 x.seq) := by rw [HX.out.cell 0]; rfl
        have y1 : W.cell? ⟨Q, 1, none⟩ = some (.int .i64 x.wh) := by rw [HX.out.cell 1]; rfl
        have y2 : W.cell? ⟨Q, 2, none⟩ = some (.string x.body) := by rw [HX.out.cell 2]; rfl
        have y3 : W.cell? ⟨Q, 3, none⟩ = some (.int .i64 x.tries) := by rw [HX.out.cell 3]; rfl
        have y4 : W.cell? ⟨Q, 4, none⟩ = some (.int .i64 x.tm) := by rw [HX.out.cell 4]; rfl
        have y5 : W.cell? ⟨Q, 5, none⟩ = some (.int .i64 x.wt) := by rw [HX.out.cell 5]; rfl
        by_cases h1 : now < x.tm
        · have HK2 := Lib.hid (HK.out h1)
          clear HK HLT HF
          go_wp2_with (at_builtin; refine wpl_append_row2 (ys := kcells x) rfl rfl rfl rfl Try.underlying95 info_call rfl rfl rfl (by decide) (by decide) HR1.out (by have := HTL.out; have := HIV.out.len; have := HIM.out; omega) (by have := HX.out.lt; have := HWR.out; omega) (by first | rfl | simp) ?_; intro v6 w6 h6 o6; obtain ⟨p6, c6, rfl⟩ := owns_slice h6; have HR6 := Lib.hid h6; have HO6 := Lib.hid (HC1.out.keepl HR1.out HBW.out HVL.out o6); clear h6 o6)
          go_roundw
          case rel => rw [HE.out]; exact HZ.out _ _ _ _ (by rw [HK2.out.1]; exact HO6.out.1) (by rw [HK2.out.2, List.length_append]; have := HR6.out; rw [show rowsK (l ++ [x]) = rowsK l ++ kcells x by unfold rowsK; simp]; exact this) (HO1.out.trans HO6.out.2)
          case measure => have := HIM.out; rw [HE.out]; simp [intOf]; omega
        · by_cases h2 : s.tries ≤ x.tries
          · have HK2 := Lib.hid (HLT.out h1 h2)
            clear HK HLT HF
            have c3 : W.cell? ⟨r, 3, none⟩ = some (.int .i64 s.tries) := by have := HC1.out.c3; rwa [HLL.out.1] at this
            go_upto_region 10 with fail
            go_region
            have HC2 := Lib.hid HC1.out.drew
            have HX2 := Lib.hid HX.out.drew
            have HR2 := Lib.hid (owns_below HR1.out (Below.refl _ W).drew)
            have HO2 := Lib.hid HO1.out.drew
            clear y0 y1 y2 y3 y4 y5 c3 HC1 HX HR1 HO1
            generalize W.drew = W2 at *
            obtain ⟨po, co, rfl⟩ := HC2.out.oslice
            have HN5 := Lib.hid (show RC W2.drew _ _ _ _ _ _ _ _ from HC2.out.drew)
            have HR5 := Lib.hid (owns_below HR2.out (Below.refl _ W2).drew)
            have c7 := HC2.out.c7
            have c7n : ∀ o, (W2.alloc o).cell? ⟨r, 7, none⟩ = some (.slice po T.ov.length co) := fun o => (HC2.out.alloc o).c7
            have y0 : W2.cell? ⟨Q, 0, none⟩ = some (.int .u64 x.seq) := by rw [HX2.out.cell 0]; rfl
            have y1 : W2.cell? ⟨Q, 1, none⟩ = some (.int .i64 x.wh) := by rw [HX2.out.cell 1]; rfl
            go_upto_region 11 with fail
            go_region_law (refine step_append_row2 (ys := ocells ⟨x.seq, x.wh, ⟨#[]⟩, 270⟩) (by rfl) (by rfl) (by rfl) (by rfl) Try.underlying80 info_ended rfl rfl rfl (by decide) (by decide) HN5.out.ov (by have := HTL.out; have := HN.out; have := HIV.out.len; have := HIM.out; omega) (by have := HN5.out.sz; omega) (by first | rfl | simp) ?_; intro v6 w6 h6 o6; obtain ⟨p6, c6, rfl⟩ := owns_slice h6; have HRR := Lib.hid (row_o HR5.out HN5.out o6 (.slice p6 (T.ov.length + 1) c6)); obtain ⟨b6, hr6, on6⟩ := HN5.out.appO h6 o6; have HR6 := Lib.hid hr6; have HON6 := Lib.hid on6; have d1 : w6.cell? ⟨r, 7, none⟩ = some (.slice po T.ov.length co) := (by rw [b6.cell 7]; rfl); have f1 := b6.frozen 7; clear h6 o6 b6 hr6 on6)
            all_goals (clear d1 f1; generalize w6.setCell ⟨r, 7, none⟩ (.slice p6 (T.ov.length + 1) c6) = W6 at *)
            all_goals (have HZ2 := Lib.hid (HZ.out (.slice p0 l.length c0) W6 _ _ (by rw [HK2.out.1]; exact HR6.out) (by rw [HK2.out.2]; exact HRR.out) (HO2.out.trans (OnK.undrew HON6.out))))
            all_goals (go_wp2_with fail)
            all_goals go_roundw
            all_goals first
              | (rw [HE.out]; exact HZ2.out)
              | (have := HIM.out; rw [HE.out]; simp [intOf]; omega)
          · have HK2 := Lib.hid (HF.out h1 h2)
            clear HK HLT HF
            have w1x : wrap64 (x.tries + 1) = x.tries + 1 := by have := HXK.out; unfold C0ok at this; unfold wrap64; omega
            have w2x : wrap64 (2 * x.wt) = 2 * x.wt := by have := HXK.out; unfold C0ok at this; unfold wrap64; omega
            have hmm : min (2 * x.wt) s.most ≤ 4294967296 ∧ 0 ≤ min (2 * x.wt) s.most := by have := HIV.out.most; have := HXK.out; unfold C0ok at this; have := HIV.out.wait; omega
            have w3x : wrap64 (now + min (2 * x.wt) s.most) = now + min (2 * x.wt) s.most := by
              have h := HTV.out; unfold timeB at h; simp only [Bool.and_eq_true, decide_eq_true_eq] at h; unfold wrap64; omega
            clear hmm
            obtain ⟨m, hm⟩ : ∃ m, min (2 * x.wt) s.most = m := ⟨_, rfl⟩
            rw [hm] at w3x
            have HXM := Lib.hid hm
            have hm' : min (wrap64 (2 * x.wt)) s.most = m := by rw [w2x]; exact hm
            have c3 : W.cell? ⟨r, 3, none⟩ = some (.int .i64 s.tries) := by have := HC1.out.c3; rwa [HLL.out.1] at this
            go_upto_region 10 with fail
            go_region
            have HC2 := Lib.hid HC1.out.drew
            have HX2 := Lib.hid HX.out.drew
            have HR2 := Lib.hid (owns_below HR1.out (Below.refl _ W).drew)
            have HO2 := Lib.hid HO1.out.drew
            clear y0 y1 y2 y3 y4 y5 c3 HC1 HX HR1 HO1
            generalize W.drew = W2 at *
            have y3 : W2.cell? ⟨Q, 3, none⟩ = some (.int .i64 x.tries) := by rw [HX2.out.cell 3]; rfl
            have yf := HX2.out.frozen
            go_upto_region 13 with fail
            have HX3 : Hid (Blk (W2.setCell ⟨Q, 3, none⟩ (.int .i64 (x.tries + 1))) Q 99 #[.int .u64 x.seq, .int .i64 x.wh, .string x.body, .int .i64 (x.tries + 1), .int .i64 x.tm, .int .i64 x.wt]) := Lib.hid (by have := HX2.out.set 3 (.int .i64 (x.tries + 1)); rw [kF3] at this; exact this)
            have HQ3 : Hid (Only (· = Q) W2 (W2.setCell ⟨Q, 3, none⟩ (.int .i64 (x.tries + 1)))) := Lib.hid (Only.refl _ W2).set1
            have HVQ : Hid (∀ k, (Value.slice (some ⟨g, 0, none⟩) s.L.length cL).ownBlock = some k → k < Q) := Lib.hid fun k hk => by have := HVL.out k hk; have := HWR.out; omega
            have HBQ : Hid (B0 ≤ Q) := Lib.hid (by have := HBW.out; have := HWR.out; omega)
            have c2 : (W2.setCell ⟨Q, 3, none⟩ (.int .i64 (x.tries + 1))).cell? ⟨r, 2, none⟩ = some (.int .i64 s.most) := by have := (HC2.out.setq HX2.out HVQ.out HBQ.out HQ3.out).1.c2; rwa [HLL.out.2] at this
            clear y3 yf
            generalize W2.setCell ⟨Q, 3, none⟩ (.int .i64 (x.tries + 1)) = W3 at *
            have y5 : W3.cell? ⟨Q, 5, none⟩ = some (.int .i64 x.wt) := by rw [HX3.out.cell 5]; rfl
            have yf := HX3.out.frozen
            go_region
            have HX4 : Hid (Blk (W3.setCell ⟨Q, 5, none⟩ (.int .i64 m)).drew Q 99 #[.int .u64 x.seq, .int .i64 x.wh, .string x.body, .int .i64 (x.tries + 1), .int .i64 x.tm, .int .i64 m]) := Lib.hid (by have := HX3.out.set 5 (.int .i64 m); rw [kF5] at this; exact this.drew)
            have HQ4 : Hid (Only (· = Q) W2 (W3.setCell ⟨Q, 5, none⟩ (.int .i64 m)).drew) := Lib.hid HQ3.out.set1.drew
            clear y5 yf c2 HX3 HQ3
            generalize (W3.setCell ⟨Q, 5, none⟩ (.int .i64 m)).drew = W4 at *
            have y5 : W4.cell? ⟨Q, 5, none⟩ = some (.int .i64 m) := by rw [HX4.out.cell 5]; rfl
            have y4 : W4.cell? ⟨Q, 4, none⟩ = some (.int .i64 x.tm) := by rw [HX4.out.cell 4]; rfl
            have yf := HX4.out.frozen
            go_upto_region 15 with fail
            have HX5 : Hid (Blk (W4.setCell ⟨Q, 4, none⟩ (.int .i64 (now + m))) Q 99 (kcells (nextC s now x)).toArray) := Lib.hid (by have := HX4.out.set 4 (.int .i64 (now + m)); rw [kF4] at this; unfold kcells nextC; dsimp only; rw [HXM.out]; exact this)
            have HQ5 : Hid (Only (· = Q) W2 (W4.setCell ⟨Q, 4, none⟩ (.int .i64 (now + m)))) := Lib.hid HQ4.out.set1
            clear y5 y4 yf HX4 HQ4 hm hm' w1x w2x w3x
            generalize W4.setCell ⟨Q, 4, none⟩ (.int .i64 (now + m)) = W5 at *
            have HC5 := Lib.hid (HC2.out.setq HX2.out HVQ.out HBQ.out HQ5.out)
            have HR5 := Lib.hid (owns_only HR2.out HQ5.out (fun k hk e => by have := HRW.out k hk; omega))
            have HUX : Hid (U64 (nextC s now x).seq ∧ (nextC s now x).body.size ≤ 1048576) := Lib.hid (by have := HXK.out; unfold C0ok at this; have := HIV.out.last; unfold U64 nextC; dsimp only; omega)
            generalize nextC s now x = y at *
            have y0 : W5.cell? ⟨Q, 0, none⟩ = some (.int .u64 y.seq) := by rw [HX5.out.cell 0]; rfl
            have y1 : W5.cell? ⟨Q, 1, none⟩ = some (.int .i64 y.wh) := by rw [HX5.out.cell 1]; rfl
            have y2 : W5.cell? ⟨Q, 2, none⟩ = some (.string y.body) := by rw [HX5.out.cell 2]; rfl
            have y3 : W5.cell? ⟨Q, 3, none⟩ = some (.int .i64 y.tries) := by rw [HX5.out.cell 3]; rfl
            have y4 : W5.cell? ⟨Q, 4, none⟩ = some (.int .i64 y.tm) := by rw [HX5.out.cell 4]; rfl
            have y5 : W5.cell? ⟨Q, 5, none⟩ = some (.int .i64 y.wt) := by rw [HX5.out.cell 5]; rfl
            go_upto_region 16 with (at_builtin; refine wpl_append_row2 (ys := kcells y) rfl rfl rfl rfl Try.underlying95 info_call rfl rfl rfl (by decide) (by decide) HR5.out (by have := HTL.out; have := HIV.out.len; have := HIM.out; omega) (by have := HX5.out.lt; have := HWR.out; omega) (by first | rfl | simp) ?_; intro v6 w6 h6 o6; obtain ⟨p6, c6, rfl⟩ := owns_slice h6; have HR6 := Lib.hid h6; have HC6 := Lib.hid (HC5.out.1.keepl HR5.out HBW.out HVL.out o6); have HX6 := Lib.hid (HX5.out.only o6 (fun e => by have := HRW.out _ e; omega)); clear h6 o6)
            clear y0 y1 y2 y3 y4 y5
            have y0 : w6.cell? ⟨Q, 0, none⟩ = some (.int .u64 y.seq) := by rw [HX6.out.cell 0]; rfl
            have y1 : w6.cell? ⟨Q, 1, none⟩ = some (.int .i64 y.wh) := by rw [HX6.out.cell 1]; rfl
            have y2 : w6.cell? ⟨Q, 2, none⟩ = some (.string y.body) := by rw [HX6.out.cell 2]; rfl
            have y3 : w6.cell? ⟨Q, 3, none⟩ = some (.int .i64 y.tries) := by rw [HX6.out.cell 3]; rfl
            have y4 : w6.cell? ⟨Q, 4, none⟩ = some (.int .i64 y.tm) := by rw [HX6.out.cell 4]; rfl
            have y5 : w6.cell? ⟨Q, 5, none⟩ = some (.int .i64 y.wt) := by rw [HX6.out.cell 5]; rfl
            have HDU := Lib.hid (rdue_any HC6.out.1 y HUX.out.1 HUX.out.2 (by have := HTL.out; have := HN.out; have := HIV.out.len; have := HIM.out; omega))
            unfold kcells at HDU
            go_wp2_with (go_at_call 71; go_loud ((with_reducible refine HDU.out.mono ?_); rintro e w8 ⟨rfl, vD8, hc8, ho8, hk8⟩; have HC8 := Lib.hid hc8; have HO8 := Lib.hid ho8; have HR8 := Lib.hid (row_kt HR6.out hk8 ho8); clear hc8 ho8 hk8))
            have HZ2 := Lib.hid (HZ.out _ w8 _ _ (by rw [HK2.out.1]; exact HC8.out) (by rw [HK2.out.2, List.length_append]; have := HR8.out; rw [show rowsK (l ++ [y]) = rowsK l ++ kcells y by unfold rowsK; simp]; exact this) (HO2.out.trans (HC5.out.2.trans (HC6.out.2.trans HO8.out))))
            go_roundw
            case rel => rw [HE.out]; exact HZ2.out
            case measure => have := HIM.out; rw [HE.out]; simp [intOf]; omega
      · obtain rfl : i = s.L.length := by omega
        have hil' : ¬ ((s.L.length : Nat) : Int) < (s.L.length : Int) := by omega
        have hb := HCW.out.fz 5
        have HST := Lib.hid (HCW.out.store hrow HBW.out (by have := HAL.out.2; rw [← HAL.out.1] at this; exact this))
        clear hcw hon hrow hi hil
        go_wp2_with fail
        go_ret
        have hst := HST.out
        rw [HAL.out.1] at hst
        exact ⟨rfl, _, _, _, hst, HON.out.trans (onK_r (Only.refl _ _).set1)⟩
end
end Go.Proofs.Ytgdgonmhgpflcaa
