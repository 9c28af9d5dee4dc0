import Derived.Test.YtgdgonmhgpflcaaRpcJ

/- The walk of a caller's Tick. No condition but that the caller is one, not beyond any bound. -/
namespace Go.Proofs.Ytgdgonmhgpflcaa
open Go.RowKit Go.Maps Wire Rp
set_option linter.unusedVariables false
set_option linter.unusedSimpArgs false
namespace Rp
section
variable {s : St} {now : Int} {i : Nat}
theorem tkL_mem {l : List C0} {y : C0} (h : y ∈ l.filterMap (tkL s now)) : ∃ z ∈ l, y.seq = z.seq := by
  obtain ⟨z, hz, e⟩ := List.mem_filterMap.1 h
  refine ⟨z, hz, ?_⟩
  unfold tkL at e
  split at e
  · injection e with e; rw [e]
  · split at e
    · cases e
    · injection e with e; rw [← e]; rfl
theorem tick_head (hi : i < s.L.length) : (tickAt s now i).L = (s.L.take i).filterMap (tkL s now) ++ s.L[i] :: s.L.drop (i + 1) := by
  unfold tickAt; rw [List.drop_eq_getElem_cons hi]
theorem tick_keep (hi : i < s.L.length) (h : now < s.L[i].tm) : tickAt s now (i + 1) = tickAt s now i := by
  unfold tickAt
  rw [List.take_succ_eq_append_getElem hi, List.filterMap_append, List.filterMap_append, List.filterMap_append, List.drop_eq_getElem_cons (i := i) hi]
  simp [tkL, tkD, tkO, h]
theorem tick_late (hv : SInv s) (hi : i < s.L.length) (h : ¬ now < s.L[i].tm) (h2 : s.tries ≤ s.L[i].tries) : tickAt s now (i + 1) = endsS (tickAt s now i) ⟨s.L[i].seq, s.L[i].wh, ⟨#[]⟩, 270⟩ := by
  have hr := hv.ris
  rw [List.pairwise_iff_getElem] at hr
  unfold endsS
  rw [tick_head hi]
  unfold tickAt
  rw [List.take_succ_eq_append_getElem hi, List.filterMap_append, List.filterMap_append, List.filterMap_append]
  have f1 : ((s.L.take i).filterMap (tkL s now)).filter (fun c => !(c.seq == s.L[i].seq)) = (s.L.take i).filterMap (tkL s now) := by
    rw [List.filter_eq_self]
    intro y hy
    obtain ⟨z, hz, e⟩ := tkL_mem hy
    obtain ⟨j, hj, e2⟩ := List.mem_iff_getElem.1 hz
    rw [List.length_take] at hj
    rw [List.getElem_take] at e2
    have := hr j i (by omega) hi (by omega)
    rw [e2] at this
    simp [e]; omega
  have f2 : (s.L.drop (i + 1)).filter (fun c => !(c.seq == s.L[i].seq)) = s.L.drop (i + 1) := by
    rw [List.filter_eq_self]
    intro y hy
    obtain ⟨j, hj, e2⟩ := List.mem_iff_getElem.1 hy
    rw [List.length_drop] at hj
    rw [List.getElem_drop] at e2
    have := hr i (i + 1 + j) hi (by omega) (by omega)
    rw [e2] at this
    simp; omega
  rw [List.filter_append, List.filter_cons, f1, f2]
  simp [tkL, tkD, tkO, h, h2]
def setL (s : St) (L : List C0) (d : List (Int × ByteArray)) : St := ⟨s.inc, s.wait, s.most, s.tries, s.last, L, d, s.ov⟩
theorem tick_fire (hi : i < s.L.length) (h : ¬ now < s.L[i].tm) (h2 : ¬ s.tries ≤ s.L[i].tries) : tickAt s now (i + 1) = setL (tickAt s now i) ((s.L.take i).filterMap (tkL s now) ++ nextC (tickAt s now i) now s.L[i] :: s.L.drop (i + 1)) ((tickAt s now i).du ++ [mkDue (tickAt s now i) (nextC (tickAt s now i) now s.L[i])]) := by
  unfold setL tickAt
  rw [List.take_succ_eq_append_getElem hi, List.filterMap_append, List.filterMap_append, List.filterMap_append]
  simp [tkL, tkD, tkO, h, h2, mkDue, nextC]
theorem tick_zero (s : St) (now : Int) : tickAt s now 0 = s := by unfold tickAt; simp
end
end Rp
section
variable {w w' w1 : World} {B0 bd bo b h N : Nat} {B : Int → Nat} {s : St} {vd vo : Value}
/-- Another call in its place. -/
theorem CW.upd (c : CW w B0 bd bo b h B s vd vo N) {A R : List C0} {x y : C0} (hL : s.L = A ++ x :: R) (hs : y.seq = x.seq) (hy : C0ok s y) (ho : Only (· = B x.seq) w w') (hB : Blk w' (B x.seq) 148 (ccells y)) :
    CW w' B0 bd bo b h B { s with L := A ++ y :: R } vd vo N ∧ OnC B0 b h bd bo w w' := by
  have hxm : x ∈ s.L := by rw [hL]; simp
  have hx := (c.cl x hxm).1
  have hne : ∀ {k : Nat} {T : TypeId} {A : Array Value}, Blk w k T A → T ≠ 148 → ¬ k = B x.seq := fun hk ht e => by subst e; exact ht (blk_ne hk hx)
  have hk : keysC B (A ++ y :: R) = keysC B s.L := by rw [hL]; unfold keysC; simp [hs]
  have hdis : ∀ z ∈ s.L, z.seq ≠ x.seq → ¬ B z.seq = B x.seq := fun z hz hne e => hne (c.inj z hz x hxm e)
  have hris := c.inv.ris
  rw [hL, List.pairwise_append] at hris
  obtain ⟨hA, hR, hAR⟩ := hris
  have hR1 := (List.pairwise_cons.1 hR).1
  have hmem : ∀ z, z ∈ A ++ y :: R → z = y ∨ (z ∈ s.L ∧ z.seq ≠ x.seq) := fun z hz => by
    rcases List.mem_append.1 hz with hz | hz
    · exact .inr ⟨by rw [hL]; exact List.mem_append_left _ hz, by have := hAR z hz x (by simp); omega⟩
    · rcases List.mem_cons.1 hz with hz | hz
      · exact .inl hz
      · exact .inr ⟨by rw [hL]; simp [hz], by have := hR1 z hz; omega⟩
  refine ⟨⟨c.blk.only ho (hne c.blk (by decide)), ?_, fun z hz => ?_, fun z hz u hu => ?_, ?_, ?_, c.ge, ⟨Nat.le_trans c.sz.1 ho.size, Nat.le_trans c.sz.2 ho.size⟩, ?_⟩, ?_⟩
  · dsimp only; rw [hk]; exact c.mp.only ho (fun e => at_ne c.mp hx e)
  · rcases hmem z hz with rfl | ⟨hz, hzx⟩
    · rw [hs]; exact ⟨hB, (c.cl x hxm).2⟩
    · exact ⟨(c.cl z hz).1.only ho (hdis z hz hzx), (c.cl z hz).2⟩
  · rcases hmem z hz with e1 | ⟨h1, h2⟩ <;> rcases hmem u hu with e3 | ⟨h3, h4⟩
    · intro _; rw [e1, e3]
    · rw [e1, hs]; exact c.inj x hxm u h3
    · rw [e3, hs]; exact c.inj z h1 x hxm
    · exact c.inj z h1 u h3
  · exact owns_only c.du ho fun g hg => by obtain ⟨A, hA, _⟩ := c.du_ty hg; exact hne hA (by decide)
  · exact owns_only c.ov ho fun g hg => by obtain ⟨A, hA, _⟩ := c.ov_ty hg; exact hne hA (by decide)
  · refine c.inv.ofL ⟨rfl, rfl, rfl, rfl, rfl⟩ ?_ ?_ fun z hz => ?_
    · have := c.inv.len; rw [hL] at this; simp at this ⊢; omega
    · dsimp only
      rw [List.pairwise_append]
      refine ⟨hA, List.pairwise_cons.2 ⟨fun z hz => by rw [hs]; exact hR1 z hz, (List.pairwise_cons.1 hR).2⟩, fun z hz u hu => ?_⟩
      rcases List.mem_cons.1 hu with rfl | hu
      · rw [hs]; exact hAR z hz x (by simp)
      · exact hAR z hz u (by simp [hu])
    · rcases hmem z hz with rfl | ⟨hz, _⟩
      · exact hy
      · exact c.inv.ok z hz
  · refine ho.mono fun k _ e => .inr (.inr (.inl ?_))
    have e' : k = B x.seq := e
    subst e'
    exact ⟨(c.cl x hxm).2, _, hx⟩
theorem setF4 (a0 a1 a2 a3 a4 a5 a6 v : Value) : (#[a0, a1, a2, a3, a4, a5, a6] : Array Value).setIfInBounds 4 v = #[a0, a1, a2, a3, v, a5, a6] := rfl
theorem setF5 (a0 a1 a2 a3 a4 a5 a6 v : Value) : (#[a0, a1, a2, a3, a4, a5, a6] : Array Value).setIfInBounds 5 v = #[a0, a1, a2, a3, a4, v, a6] := rfl
theorem setF6 (a0 a1 a2 a3 a4 a5 a6 v : Value) : (#[a0, a1, a2, a3, a4, a5, a6] : Array Value).setIfInBounds 6 v = #[a0, a1, a2, a3, a4, a5, v] := rfl
theorem next_ok (hi : SInv s) {x : C0} (hx : C0ok s x) {now : Int} (ht : timeB now = true) (h2 : ¬ s.tries ≤ x.tries) : C0ok s (nextC s now x) := by
  have h1 := hi.wait; have h3 := hi.most; have h4 := hi.tries
  unfold timeB at ht
  simp only [Bool.and_eq_true, decide_eq_true_eq] at ht
  unfold C0ok nextC at *
  dsimp only
  omega
/-- The three stores of a try more. -/
theorem CW.fire (c : CW w B0 bd bo b h B s vd vo N) {A R : List C0} {x : C0} (hL : s.L = A ++ x :: R) {now : Int} (ht : timeB now = true) (h2 : ¬ s.tries ≤ x.tries) {m : Int} (hm : min (2 * x.wt) s.most = m) {q : Nat} (hq : B x.seq = q) :
    CW (((w.setCell ⟨q, 4, none⟩ (.int .i64 (x.tries + 1))).drew.setCell ⟨q, 6, none⟩ (.int .i64 m)).setCell ⟨q, 5, none⟩ (.int .i64 (now + m))) B0 bd bo b h B { s with L := A ++ nextC s now x :: R } vd vo N ∧
      OnC B0 b h bd bo w (((w.setCell ⟨q, 4, none⟩ (.int .i64 (x.tries + 1))).drew.setCell ⟨q, 6, none⟩ (.int .i64 m)).setCell ⟨q, 5, none⟩ (.int .i64 (now + m))) := by
  subst hq hm
  have hxm : x ∈ s.L := by rw [hL]; simp
  have hx := (c.cl x hxm).1
  refine c.upd hL rfl (next_ok c.inv (c.inv.ok x hxm) ht h2) ?_ ?_
  · exact (((Only.refl (· = B x.seq) w).set1).drew.set1).set1
  · have h4 := hx.set 4 (.int .i64 (x.tries + 1))
    unfold ccells at h4
    rw [setF4] at h4
    have h6 := h4.drew.set 6 (.int .i64 (min (2 * x.wt) s.most))
    rw [setF6] at h6
    have h5 := h6.set 5 (.int .i64 (now + min (2 * x.wt) s.most))
    rw [setF5] at h5
    exact h5
def TickP (w : World) (B0 bd bo b h : Nat) (B : Int → Nat) (N : Nat) (r : Int × St) (e : Ending) (w' : World) : Prop :=
  e = .returned (.int .i64 r.1) ∧ ∃ vd' vo', CW w' B0 bd bo b h B r.2 vd' vo' N ∧ OnC B0 b h bd bo w w'
set_option maxRecDepth 100000 in
theorem tick_nil (now : Int) (w : World) : Calls Try.prog 28 #[.pointer none, .int .i64 now] w fun e w' => e = .returned (.int .i64 1) ∧ w' = w := by
  go_enter Try.func28, Try.ntmps28
  go_wp2_with (go_at_call 64; ((with_reducible refine (made_nil _).mono ?_); rintro e w' ⟨rfl, rfl⟩))
  go_ret
  exact ⟨rfl, rfl⟩
theorem row_keep (c : CW w B0 bd bo b h B s vd vo N) {base n : Nat} {v : Value} {xs : List Value} (hr : w.ownsRow base 22 1 v n xs) (o : OnC B0 b h bd bo w w') : w'.ownsRow base 22 1 v n xs :=
  owns_only hr o fun g hg hs => by
    obtain ⟨A, hA, _⟩ := owns_type hr hg
    rcases hs with e | e | ⟨_, A', e⟩ | ⟨_, A', e⟩ | ⟨_, A', e⟩
    · subst e; exact absurd (blk_ne hA c.blk) (by decide)
    · exact at_ne c.mp hA e.symm
    · exact absurd (blk_ne hA e) (by decide)
    · exact absurd (blk_ne hA e) (by decide)
    · exact absurd (blk_ne hA e) (by decide)
def TkR (w : World) (B0 bd bo b h : Nat) (B : Int → Nat) (s : St) (now : Int) (N : Nat) (u : Value) (wr : World) : Prop :=
  ∃ (i : Nat) (vd' vo' : Value), i ≤ s.L.length ∧ u = .int .i64 i ∧ CW wr B0 bd bo b h B (tickAt s now i) vd' vo' N ∧ OnC B0 b h bd bo w wr
theorem tick_len (s : St) (now : Int) (i : Nat) (hi : i ≤ s.L.length) : (tickAt s now i).du.length ≤ s.du.length + i ∧ (tickAt s now i).ov.length ≤ s.ov.length + i := by
  have h1 := List.length_filterMap_le (tkD s now) (s.L.take i)
  have h2 := List.length_filterMap_le (tkO s now) (s.L.take i)
  rw [List.length_take] at h1 h2
  unfold tickAt
  dsimp only
  rw [List.length_append, List.length_append]
  omega
set_option maxRecDepth 100000 in
set_option maxHeartbeats 4000000 in
theorem tick_any (c : CW w B0 bd bo b h B s vd vo N) {now : Int} (hn : s.du.length ≤ 1000000 ∧ s.ov.length ≤ 1000000) :
    Calls Try.prog 28 #[.pointer (some ⟨b, 0, none⟩), .int .i64 now] w (TickP w B0 bd bo b h B N (tickS s now)) := by
  have HC := Lib.hid c
  have HMD := Lib.hid (made_any c)
  have HTM := Lib.hid (time_any now w)
  have HCS := Lib.hid (calls_any c)
  have HN := Lib.hid hn
  unfold tickS
  clear c hn
  cases htm : timeB now with
  | false =>
    rw [htm] at HTM
    simp only [Bool.false_eq_true, if_false]
    clear htm
    go_enter Try.func28, Try.ntmps28
    go_wp2_with (first | (go_at_call 64; ((with_reducible refine HMD.out.mono ?_); rintro e w9 ⟨rfl, hw9⟩; have hw9 := hw9.symm; subst hw9)) | (go_at_call 65; ((with_reducible refine HTM.out.mono ?_); rintro e w9 ⟨rfl, hw9⟩; have hw9 := hw9.symm; subst hw9)))
    go_ret
    exact ⟨rfl, _, _, HC.out, OnC.refl _ _ _ _ _ _⟩
  | true =>
    have HTV := Lib.hid htm
    rw [htm] at HTM
    simp only [if_true]
    clear htm
    go_enter Try.func28, Try.ntmps28
    go_wp2_with (first | (go_at_call 64; ((with_reducible refine HMD.out.mono ?_); rintro e w9 ⟨rfl, hw9⟩; have hw9 := hw9.symm; subst hw9)) | (go_at_call 65; ((with_reducible refine HTM.out.mono ?_); rintro e w9 ⟨rfl, hw9⟩; have hw9 := hw9.symm; subst hw9)) | (go_at_call 24; ((with_reducible refine HCS.out.mono ?_); rintro e w2 ⟨v, rfl, hrow, hb2⟩; obtain ⟨pv, cv, rfl⟩ := owns_slice hrow; have HRW := Lib.hid hrow; have HB2 := Lib.hid hb2; clear hrow hb2)))
    go_loopw [19] (fun u wr => TkR w2 B0 bd bo b h B s now N u wr) (fun u _ => ((s.L.length : Int) - intOf u).toNat)
    case atStart => exact ⟨0, _, _, Nat.zero_le _, rfl, by rw [tick_zero]; exact HC.out.below HB2.out, OnC.refl _ _ _ _ _ _⟩
    case round =>
      obtain ⟨i, vd', vo', hi, rfl, hcw, hon⟩ := hrel
      have HCW := Lib.hid hcw
      have HON := Lib.hid hon
      have hc2 := HC.out.below HB2.out
      by_cases hil : i < s.L.length
      · have hil' : (i : Int) < (s.L.length : Int) := by omega
        have hi0 : (0 : Int) ≤ (i : Int) := by omega
        obtain ⟨g, cap, ev, _, hg, _, hc⟩ := owns_cells (row_keep hc2 HRW.out hon) (by omega)
        injection ev with e1 e2 e3
        subst e1 e3
        have x0 : wr.cell? ⟨g, i, none⟩ = some (.int .u64 s.L[i].seq) := by rw [hc i (by omega)]; simp [hil]
        have HE : Hid (wrap64 ((i : Int) + 1) = ((i + 1 : Nat) : Int)) := Lib.hid (Sou.w64n rfl (by have := HC.out.inv.len; omega))
        have HIM := Lib.hid hil
        have HHD := Lib.hid (tick_head (s := s) (now := now) hil)
        have HK := Lib.hid (tick_keep (s := s) (now := now) hil)
        have HLT := Lib.hid (show ¬ now < s.L[i].tm → (tickAt s now i).tries ≤ s.L[i].tries → _ from tick_late (now := now) HC.out.inv hil)
        have HF := Lib.hid (show ¬ now < s.L[i].tm → ¬ (tickAt s now i).tries ≤ s.L[i].tries → _ from tick_fire (now := now) hil)
        have HXM : Hid (s.L[i] ∈ (tickAt s now i).L) := Lib.hid (by rw [HHD.out]; exact List.mem_append_right _ List.mem_cons_self)
        have HTL := Lib.hid (tick_len s now i (Nat.le_of_lt hil))
        obtain ⟨T1, hT1⟩ : ∃ T1, T1 = tickAt s now (i + 1) := ⟨_, rfl⟩
        have HT1 := Lib.hid hT1
        rw [← hT1] at HK HLT HF
        clear hcw hon hc hi e2 hc2 hT1 hg
        generalize s.L[i] = x at *
        clear hil
        generalize (s.L.take i).filterMap (tkL s now) = A at *
        generalize s.L.drop (i + 1) = R at *
        generalize tickAt s now i = T at *
        have c5 := HCW.out.c5
        have c3 := HCW.out.c3
        have c2 := HCW.out.c2
        have hlk := mp_hit HCW.out.mp (keys_mem HXM.out) (HCW.out.key HXM.out)
        have HQB := Lib.hid (HCW.out.cl x HXM.out).1
        obtain ⟨q, hq⟩ : ∃ q, B x.seq = q := ⟨_, rfl⟩
        rw [hq] at hlk HQB
        have HQ := Lib.hid hq
        have HXU := Lib.hid (HCW.out.key HXM.out)
        clear hq
        unfold ccells at HQB
        dsimp only at hlk
        have z1 : wr.cell? ⟨q, 1, none⟩ = some (.int .i64 x.wh) := by rw [HQB.out.cell 1]; rfl
        have z4 : wr.cell? ⟨q, 4, none⟩ = some (.int .i64 x.tries) := by rw [HQB.out.cell 4]; rfl
        have z5 : wr.cell? ⟨q, 5, none⟩ = some (.int .i64 x.tm) := by rw [HQB.out.cell 5]; rfl
        have z6 : wr.cell? ⟨q, 6, none⟩ = some (.int .i64 x.wt) := by rw [HQB.out.cell 6]; rfl
        have zf := HQB.out.frozen
        by_cases h1 : now < x.tm
        · have HZ : Hid (TkR w2 B0 bd bo b h B s now N (.int .i64 ((i + 1 : Nat) : Int)) wr) := Lib.hid ⟨i + 1, vd', vo', HIM.out, rfl, by rw [← HT1.out, HK.out h1]; exact HCW.out, HON.out⟩
          clear HK HLT HF
          go_wp2_with fail
          go_roundw
          case rel => first | exact HZ.out | (rw [HE.out]; exact HZ.out)
          case measure => have := HIM.out; first | (simp [intOf]; omega) | (rw [HE.out]; simp [intOf]; omega)
        · by_cases h2 : T.tries ≤ x.tries
          · have HT := Lib.hid (HLT.out h1 h2)
            have HEN := Lib.hid (ends_any HCW.out.drew ⟨x.seq, x.wh, ⟨#[]⟩, 270⟩ HXU.out (by have := HTL.out; have := HN.out; have := HC.out.inv.len; have := HIM.out; omega))
            unfold ocells at HEN
            dsimp only at HEN
            clear HK HLT HF
            go_upto_region 14 with fail
            go_region
            go_wp2_with (go_at_call 66; go_loud ((with_reducible refine HEN.out.mono ?_); rintro e w5 ⟨rfl, vo5, hc5, ho5⟩; have HC5 := Lib.hid hc5; have HO5 := Lib.hid ho5; clear hc5 ho5))
            have HZ : Hid (TkR w2 B0 bd bo b h B s now N (.int .i64 ((i + 1 : Nat) : Int)) w5) := Lib.hid ⟨i + 1, vd', vo5, HIM.out, rfl, by rw [← HT1.out, HT.out]; exact HC5.out, HON.out.drew.trans HO5.out⟩
            go_roundw
            case rel => first | exact HZ.out | (rw [HE.out]; exact HZ.out)
            case measure => have := HIM.out; first | (simp [intOf]; omega) | (rw [HE.out]; simp [intOf]; omega)
          · have HT := Lib.hid (HF.out h1 h2)
            have HXK := Lib.hid (HCW.out.inv.ok x HXM.out)
            have HIV := Lib.hid HCW.out.inv
            have w1x : wrap64 (x.tries + 1) = x.tries + 1 := by have := HXK.out; unfold C0ok at this; unfold wrap64; omega
            have w2x : wrap64 (2 * x.wt) = 2 * x.wt := by have := HXK.out; unfold C0ok at this; unfold wrap64; omega
            have hmm : min (2 * x.wt) T.most ≤ 4294967296 ∧ 0 ≤ min (2 * x.wt) T.most := by have := HIV.out.most; have := HXK.out; unfold C0ok at this; have := HIV.out.wait; omega
            have w3x : wrap64 (now + min (2 * x.wt) T.most) = now + min (2 * x.wt) T.most := by
              have h2 := HTV.out
              unfold timeB at h2
              simp only [Bool.and_eq_true, decide_eq_true_eq] at h2
              unfold wrap64; omega
            clear HK HLT HF hmm
            go_upto_region 14 with fail
            go_region
            go_upto_region 10 with fail
            have HQ1 : Hid (Blk (wr.setCell ⟨q, 4, none⟩ (.int .i64 (x.tries + 1))).drew q 148 #[.int .u64 x.seq, .int .i64 x.wh, .string x.body, .int .i64 0, .int .i64 (x.tries + 1), .int .i64 x.tm, .int .i64 x.wt]) := Lib.hid (by
              have := HQB.out.set 4 (.int .i64 (x.tries + 1)); rw [setF4] at this; exact this.drew)
            have HO1 : Hid (Only (· = q) wr (wr.setCell ⟨q, 4, none⟩ (.int .i64 (x.tries + 1))).drew) := Lib.hid (Only.refl _ wr).set1.drew
            have hbq : ¬ b = q := fun e => by have h5 := HCW.out.blk; rw [e] at h5; exact absurd (blk_ne h5 HQB.out) (by decide)
            have HBK := Lib.hid (HCW.out.blk.only HO1.out hbq)
            have HBQ := Lib.hid hbq
            clear c5 c3 c2 hlk z1 z4 z5 z6 zf x0 hbq
            generalize (wr.setCell ⟨q, 4, none⟩ (.int .i64 (x.tries + 1))).drew = W1 at *
            have y6 : W1.cell? ⟨q, 6, none⟩ = some (.int .i64 x.wt) := by rw [HQ1.out.cell 6]; rfl
            have c2 : W1.cell? ⟨b, 2, none⟩ = some (.int .i64 T.most) := by rw [HBK.out.cell 2]; rfl
            have zf := HQ1.out.frozen
            obtain ⟨m, hm⟩ : ∃ m, min (2 * x.wt) T.most = m := ⟨_, rfl⟩
            rw [hm] at w3x
            have hm' : min (wrap64 (2 * x.wt)) T.most = m := by rw [w2x]; exact hm
            go_region
            have HQ2 : Hid (Blk (W1.setCell ⟨q, 6, none⟩ (.int .i64 m)).drew q 148 #[.int .u64 x.seq, .int .i64 x.wh, .string x.body, .int .i64 0, .int .i64 (x.tries + 1), .int .i64 x.tm, .int .i64 m]) := Lib.hid (by
              have := HQ1.out.set 6 (.int .i64 m); rw [setF6] at this; exact this.drew)
            have HO2 : Hid (Only (· = q) wr (W1.setCell ⟨q, 6, none⟩ (.int .i64 m)).drew) := Lib.hid HO1.out.set1.drew
            clear c2 y6 zf hm' HO1 HQ1 HBK
            generalize (W1.setCell ⟨q, 6, none⟩ (.int .i64 m)).drew = W2 at *
            have y6 : W2.cell? ⟨q, 6, none⟩ = some (.int .i64 m) := by rw [HQ2.out.cell 6]; rfl
            have y5 : W2.cell? ⟨q, 5, none⟩ = some (.int .i64 x.tm) := by rw [HQ2.out.cell 5]; rfl
            have zf := HQ2.out.frozen
            have HXM2 := Lib.hid hm
            go_upto_region 12 with fail
            have HQ3 : Hid (Blk (W2.setCell ⟨q, 5, none⟩ (.int .i64 (now + m))) q 148 (ccells (nextC T now x))) := Lib.hid (by
              have := HQ2.out.set 5 (.int .i64 (now + m)); rw [setF5] at this
              unfold ccells nextC; dsimp only; rw [HXM2.out]; exact this)
            have HO3 : Hid (Only (· = q) wr (W2.setCell ⟨q, 5, none⟩ (.int .i64 (now + m)))) := Lib.hid HO2.out.set1
            clear y6 y5 zf HO2 HQ2 hm w1x w2x w3x
            generalize W2.setCell ⟨q, 5, none⟩ (.int .i64 (now + m)) = W3 at *
            have hup := HCW.out.upd HHD.out (show (nextC T now x).seq = x.seq from rfl) (next_ok HIV.out HXK.out HTV.out (by omega)) (by rw [HQ.out]; exact HO3.out) (by rw [HQ.out]; exact HQ3.out)
            have HC3 := Lib.hid hup.1
            have HO4 := Lib.hid hup.2
            clear hup
            have HSE := Lib.hid (sends_any HC3.out (x := nextC T now x) (by simp) (by have := HTL.out; have := HN.out; have := HC.out.inv.len; have := HIM.out; dsimp only; omega) (q := q) HQ.out)
            go_wp2_with (go_at_call 67; go_loud ((with_reducible refine HSE.out.mono ?_); rintro e w5 ⟨rfl, vd5, hc5, ho5⟩; have HC5 := Lib.hid hc5; have HO5 := Lib.hid ho5; clear hc5 ho5))
            have HZ : Hid (TkR w2 B0 bd bo b h B s now N (.int .i64 ((i + 1 : Nat) : Int)) w5) := Lib.hid ⟨i + 1, vd5, vo', HIM.out, rfl, by rw [← HT1.out, HT.out]; exact HC5.out, HON.out.trans (HO4.out.trans HO5.out)⟩
            go_roundw
            case rel => first | exact HZ.out | (rw [HE.out]; exact HZ.out)
            case measure => have := HIM.out; first | (simp [intOf]; omega) | (rw [HE.out]; simp [intOf]; omega)
      · obtain rfl : i = s.L.length := by omega
        have hil' : ¬ ((s.L.length : Nat) : Int) < (s.L.length : Int) := by omega
        clear hcw hon hi hil
        go_wp2_with fail
        go_ret
        exact ⟨rfl, _, _, HCW.out, (OnC.of_below HB2.out).trans HON.out⟩
end
end Go.Proofs.Ytgdgonmhgpflcaa
