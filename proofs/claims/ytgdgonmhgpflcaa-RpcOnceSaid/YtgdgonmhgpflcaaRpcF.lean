import Derived.Test.YtgdgonmhgpflcaaMgh

/- The walks of a caller's ends and sends. No condition but that the caller is one and its rows are not too long. -/
namespace Go.Proofs.Ytgdgonmhgpflcaa
open Go.RowKit Go.Maps Wire Rp
set_option linter.unusedVariables false
set_option linter.unusedSimpArgs false
namespace Rp
theorem SInv.ofL {s s' : St} (h : SInv s) (e : s'.inc = s.inc ∧ s'.wait = s.wait ∧ s'.most = s.most ∧ s'.tries = s.tries ∧ s'.last = s.last) (hl : s'.L.length ≤ 64) (hr : s'.L.Pairwise (fun a b => a.seq < b.seq)) (ho : ∀ c ∈ s'.L, C0ok s c) : SInv s' := by
  obtain ⟨e1, e2, e3, e4, e5⟩ := e
  exact ⟨by rw [e1]; exact h.inc, by rw [e2]; exact h.wait, by rw [e2, e3]; exact h.most, by rw [e4]; exact h.tries, by rw [e5]; exact h.last, hl, hr, fun c hc => by have := ho c hc; unfold C0ok at *; rwa [e5]⟩
theorem SInv.filt {s : St} (h : SInv s) (p : C0 → Bool) (d : List (Int × ByteArray)) (o : List Ov) : SInv { s with L := s.L.filter p, du := d, ov := o } :=
  h.ofL ⟨rfl, rfl, rfl, rfl, rfl⟩ (Nat.le_trans (List.length_filter_le _ _) h.len) (h.ris.filter p) fun c hc => h.ok c (List.mem_filter.1 hc).1
theorem SInv.rows {s : St} (h : SInv s) (d : List (Int × ByteArray)) (o : List Ov) : SInv { s with du := d, ov := o } :=
  h.ofL ⟨rfl, rfl, rfl, rfl, rfl⟩ h.len h.ris h.ok
end Rp
theorem info_due : Info Try.prog 101 (.agg #[.int .i64 0, .string ⟨#[]⟩]) 2 24 := by unfold Info; kernel_rfl
theorem info_ended : Info Try.prog 83 (.agg #[.int .u64 0, .int .i64 0, .string ⟨#[]⟩, .int .i64 0]) 4 40 := by unfold Info; kernel_rfl
theorem only_map {w w' : World} {b : Nat} (t : w.grownBy w' (some b)) : Only (· = b) w w' := ⟨t.os, t.tape, t.output, t.size, fun i hi hne => t.block i hi (fun e => hne (by injection e))⟩
section
variable {w w' w1 : World} {B0 bd bo b h N : Nat} {B : Int → Nat} {s : St} {vd vo : Value}
theorem CW.key (c : CW w B0 bd bo b h B s vd vo N) {x : C0} (hx : x ∈ s.L) : U64 x.seq := by
  have h1 := (c.inv.ok x hx).1; have h2 := (c.inv.ok x hx).2.1; have := c.inv.last; unfold U64; omega
/-- Behind a deletion of the map's. -/
theorem CW.del (c : CW w B0 bd bo b h B s vd vo N) (x : Int) : ∃ D, w.ownsMap Try.prog 22 ptE h N D ∧ ∀ w5, w5.ownsMap Try.prog 22 ptE h N (D.del (KR x)) → w.mapTurned w5 h →
    CW w5 B0 bd bo b h B { s with L := s.L.filter (fun c => !(c.seq == x)) } vd vo N ∧ OnC B0 b h bd bo w w5 ∧ Only (· = h) w w5 := by
  haveI : DecidableEq Lit := Classical.typeDecidableEq _
  obtain ⟨D, o, h1, h2, h3⟩ := c.mp
  refine ⟨D, o, fun w5 o5 t5 => ?_⟩
  have hoh := only_map t5.grown
  have hm := Ml.At.of_del (l := layC) kdR o h1 h2 h3 (keys_ris c.inv.ris) o5
  rw [keys_filter] at hm
  have hne : ∀ {k : Nat} {T : TypeId} {A : Array Value}, Blk w k T A → ¬ k = h := fun hk e => at_ne c.mp hk e.symm
  refine ⟨⟨c.blk.only hoh (hne c.blk), hm, fun y hy => ?_, fun y hy z hz => c.inj y (List.mem_filter.1 hy).1 z (List.mem_filter.1 hz).1, ?_, ?_, c.ge, ⟨Nat.le_trans c.sz.1 hoh.size, Nat.le_trans c.sz.2 hoh.size⟩, c.inv.filt _ s.du s.ov⟩, hoh.mono fun k _ e => .inr (.inl e), hoh⟩
  · have := c.cl y (List.mem_filter.1 hy).1
    exact ⟨this.1.only hoh (hne this.1), this.2⟩
  · exact owns_only c.du hoh fun g hg => by obtain ⟨A, hA, _⟩ := c.du_ty hg; exact hne hA
  · exact owns_only c.ov hoh fun g hg => by obtain ⟨A, hA, _⟩ := c.ov_ty hg; exact hne hA
theorem setIf6 (a0 a1 a2 a3 a4 a5 a6 a7 v : Value) : (#[a0, a1, a2, a3, a4, a5, a6, a7] : Array Value).setIfInBounds 6 v = #[a0, a1, a2, a3, a4, a5, v, a7] := rfl
theorem setIf7 (a0 a1 a2 a3 a4 a5 a6 a7 v : Value) : (#[a0, a1, a2, a3, a4, a5, a6, a7] : Array Value).setIfInBounds 7 v = #[a0, a1, a2, a3, a4, a5, a6, v] := rfl
theorem CW.appO (c : CW w B0 bd bo b h B s vd vo N) {o : Ov} {v' : Value} (h6 : w'.ownsRow bo 83 4 v' (s.ov.length + 1) (rowsO s.ov ++ ocells o)) (o6 : Only (fun k => vo.ownBlock = some k) w w') :
    Blk w' b 143 #[.int .u64 s.inc, .int .i64 s.wait, .int .i64 s.most, .int .i64 s.tries, .int .u64 s.last, .map (some h), vd, vo] ∧ CW (w'.setCell ⟨b, 7, none⟩ v') B0 bd bo b h B { s with ov := s.ov ++ [o] } vd v' N ∧ OnC B0 b h bd bo w (w'.setCell ⟨b, 7, none⟩ v') := by
  have hne : ∀ {k : Nat} {T : TypeId} {A : Array Value}, Blk w k T A → T ≠ 83 → ¬ vo.ownBlock = some k := fun hk ht e => by
    obtain ⟨A', hA, _⟩ := c.ov_ty e
    exact ht (blk_ne hk hA)
  have hb := c.blk.only o6 (hne c.blk (by decide))
  have hnm : ¬ vo.ownBlock = some h := fun e => by obtain ⟨A', hA, _⟩ := c.ov_ty e; exact at_ne c.mp hA rfl
  have o7 : Only (· = b) w' (w'.setCell ⟨b, 7, none⟩ v') := (Only.refl _ w').set1
  have hsz := o6.size
  have hs2 := setCell_size w' ⟨b, 7, none⟩ v'
  refine ⟨hb, ⟨?_, (c.mp.only o6 hnm).only o7 c.hb, fun x hx => ?_, c.inj, ?_, ?_, c.ge, ⟨by have := c.sz; rw [hs2]; omega, by have := c.sz; rw [hs2]; omega⟩, c.inv.rows s.du _⟩, ?_⟩
  · have := hb.set 7 v'
    rwa [setIf7] at this
  · have hx1 := c.cl x hx
    have h1 := hx1.1.only o6 (hne hx1.1 (by decide))
    exact ⟨h1.only o7 (fun e => by rw [e] at h1; exact absurd (blk_ne h1 hb) (by decide)), hx1.2⟩
  · refine owns_only (owns_only c.du o6 fun g hg => ?_) o7 fun g hg e => ?_
    · obtain ⟨A, hA, _⟩ := c.du_ty hg; exact hne hA (by decide)
    · obtain ⟨A, hA, _⟩ := c.du_ty hg
      subst e
      exact absurd (blk_ne hA c.blk) (by decide)
  · have h7 : (w'.setCell ⟨b, 7, none⟩ v').ownsRow bo 83 4 v' (s.ov.length + 1) (rowsO s.ov ++ ocells o) := owns_only h6 o7 fun g hg e => by
      obtain ⟨A, hA, _⟩ := owns_type h6 hg
      subst e
      exact absurd (blk_ne hA hb) (by decide)
    simpa [rowsO] using h7
  · refine ⟨o7.os.trans o6.os, o7.tape.trans o6.tape, o7.output.trans o6.output, by rw [hs2]; exact hsz, fun k hk hn => ?_⟩
    rw [o7.block k (Nat.lt_of_lt_of_le hk hsz) (fun e => hn (.inl e))]
    refine o6.block k hk fun e => hn ?_
    obtain ⟨A, hA, hge⟩ := c.ov_ty e
    exact .inr (.inr (.inr (.inr ⟨hge, A, hA⟩)))
theorem CW.appD (c : CW w B0 bd bo b h B s vd vo N) {o : Int × ByteArray} {v' : Value} (h6 : w'.ownsRow bd 101 2 v' (s.du.length + 1) (rowsD s.du ++ dcells o)) (o6 : Only (fun k => vd.ownBlock = some k) w w') :
    Blk w' b 143 #[.int .u64 s.inc, .int .i64 s.wait, .int .i64 s.most, .int .i64 s.tries, .int .u64 s.last, .map (some h), vd, vo] ∧ CW (w'.setCell ⟨b, 6, none⟩ v') B0 bd bo b h B { s with du := s.du ++ [o] } v' vo N ∧ OnC B0 b h bd bo w (w'.setCell ⟨b, 6, none⟩ v') := by
  have hne : ∀ {k : Nat} {T : TypeId} {A : Array Value}, Blk w k T A → T ≠ 101 → ¬ vd.ownBlock = some k := fun hk ht e => by
    obtain ⟨A', hA, _⟩ := c.du_ty e
    exact ht (blk_ne hk hA)
  have hb := c.blk.only o6 (hne c.blk (by decide))
  have hnm : ¬ vd.ownBlock = some h := fun e => by obtain ⟨A', hA, _⟩ := c.du_ty e; exact at_ne c.mp hA rfl
  have o7 : Only (· = b) w' (w'.setCell ⟨b, 6, none⟩ v') := (Only.refl _ w').set1
  have hsz := o6.size
  have hs2 := setCell_size w' ⟨b, 6, none⟩ v'
  refine ⟨hb, ⟨?_, (c.mp.only o6 hnm).only o7 c.hb, fun x hx => ?_, c.inj, ?_, ?_, c.ge, ⟨by have := c.sz; rw [hs2]; omega, by have := c.sz; rw [hs2]; omega⟩, c.inv.rows _ s.ov⟩, ?_⟩
  · have := hb.set 6 v'
    rwa [setIf6] at this
  · have hx1 := c.cl x hx
    have h1 := hx1.1.only o6 (hne hx1.1 (by decide))
    exact ⟨h1.only o7 (fun e => by rw [e] at h1; exact absurd (blk_ne h1 hb) (by decide)), hx1.2⟩
  · have h7 : (w'.setCell ⟨b, 6, none⟩ v').ownsRow bd 101 2 v' (s.du.length + 1) (rowsD s.du ++ dcells o) := owns_only h6 o7 fun g hg e => by
      obtain ⟨A, hA, _⟩ := owns_type h6 hg
      subst e
      exact absurd (blk_ne hA hb) (by decide)
    simpa [rowsD] using h7
  · refine owns_only (owns_only c.ov o6 fun g hg => ?_) o7 fun g hg e => ?_
    · obtain ⟨A, hA, _⟩ := c.ov_ty hg; exact hne hA (by decide)
    · obtain ⟨A, hA, _⟩ := c.ov_ty hg
      subst e
      exact absurd (blk_ne hA c.blk) (by decide)
  · refine ⟨o7.os.trans o6.os, o7.tape.trans o6.tape, o7.output.trans o6.output, by rw [hs2]; exact hsz, fun k hk hn => ?_⟩
    rw [o7.block k (Nat.lt_of_lt_of_le hk hsz) (fun e => hn (.inl e))]
    refine o6.block k hk fun e => hn ?_
    obtain ⟨A, hA, hge⟩ := c.du_ty e
    exact .inr (.inr (.inr (.inl ⟨hge, A, hA⟩)))
end
theorem OnC.undrew {B0 b h bd bo : Nat} {w w' : World} (o : OnC B0 b h bd bo w.drew w') : OnC B0 b h bd bo w w' := ⟨o.os, o.tape, o.output, o.size, o.block⟩
def EndsPost (w : World) (B0 bd bo b h : Nat) (B : Int → Nat) (s : St) (vd : Value) (N : Nat) (e : Ending) (w' : World) : Prop := e = .returned (.tuple #[]) ∧ ∃ vo', CW w' B0 bd bo b h B s vd vo' N ∧ OnC B0 b h bd bo w w'
set_option maxRecDepth 100000 in
set_option maxHeartbeats 2000000 in
theorem ends_any {w : World} {B0 bd bo b h N : Nat} {B : Int → Nat} {s : St} {vd vo : Value} (c : CW w B0 bd bo b h B s vd vo N) (o : Ov) (hu : U64 o.seq) (hn : s.ov.length < 2147483648) :
    Calls Try.prog 66 #[.pointer (some ⟨b, 0, none⟩), .agg (ocells o).toArray] w (EndsPost w B0 bd bo b h B (endsS s o) vd N) := by
  obtain ⟨sq, wh, body, err⟩ := o
  unfold endsS ocells
  dsimp only at *
  have HN := Lib.hid hn
  have HKEY := Lib.hid (keyR hu)
  have HBW : Hid (OnC B0 b h bd bo w (w.alloc (.cells #[.int .u64 sq, .int .i64 wh, .string body, .int .i64 err] 83))) := Lib.hid (OnC.of_below ((Below.refl _ _).alloc (Nat.le_refl _) _))
  have HX := Lib.hid (Blk.new w 83 #[.int .u64 sq, .int .i64 wh, .string body, .int .i64 err])
  have hc := c.alloc (.cells #[.int .u64 sq, .int .i64 wh, .string body, .int .i64 err] 83)
  have HC := Lib.hid hc
  obtain ⟨D, o, hdel⟩ := hc.drew.del sq
  have HO := Lib.hid o
  have HD := Lib.hid hdel
  have HXB : Hid (w.heap.size ≠ b) := Lib.hid (by have := c.blk.lt; omega)
  have HXV : Hid (∀ g, vo.ownBlock = some g → g ≠ w.heap.size) := Lib.hid (fun g hg => by obtain ⟨A, hA, _⟩ := c.ov_ty hg; have := hA.lt; omega)
  clear c hc o hdel hu hn
  go_enter Try.func66, Try.ntmps66
  go_upto_region 1 with fail
  generalize w.alloc (.cells #[.int .u64 sq, .int .i64 wh, .string body, .int .i64 err] 83) = X at *
  generalize w.heap.size = Q at *
  have c5 := HC.out.c5
  have y0 : X.cell? ⟨Q, 0, none⟩ = some (.int .u64 sq) := by rw [HX.out.cell 0]; rfl
  refine Reg.wp_text (by kernel_rfl) (by kernel_rfl) ?_
  go_wp2_with (at_delete; refine wpList_delete_own _ rfl _ _ 140 22 rfl 141 kdR Try.underlying140 _ h N D rfl HO.out _ (KR sq) rfl HKEY.out ?_; intro w5 o5 t5; have H5 := Lib.hid (HD.out w5 o5 t5); have HX5 := Lib.hid (Blk.only (show Blk X.drew Q 83 _ from HX.out) H5.out.2.2 (at_ne HC.out.mp HX.out).symm); clear o5 t5 c5 y0)
  refine Reg.fin (by kernel_rfl) ?_
  have HC5 := Lib.hid H5.out.1
  have HO5 := Lib.hid (OnC.undrew H5.out.2.1)
  clear H5 HD HO HC HX
  obtain ⟨po, co, rfl⟩ := HC5.out.oslice
  have HN5 := Lib.hid (show CW w5.drew _ _ _ _ _ _ _ _ _ _ from HC5.out.drew)
  have c7 := HC5.out.c7
  have c7n : ∀ o, (w5.alloc o).cell? ⟨b, 7, none⟩ = some (.slice po s.ov.length co) := fun o => (HC5.out.alloc o).c7
  have y0 : w5.cell? ⟨Q, 0, none⟩ = some (.int .u64 sq) := by rw [HX5.out.cell 0]; rfl
  have y1 : w5.cell? ⟨Q, 1, none⟩ = some (.int .i64 wh) := by rw [HX5.out.cell 1]; rfl
  have y2 : w5.cell? ⟨Q, 2, none⟩ = some (.string body) := by rw [HX5.out.cell 2]; rfl
  have y3 : w5.cell? ⟨Q, 3, none⟩ = some (.int .i64 err) := by rw [HX5.out.cell 3]; rfl
  go_upto_region 2 with fail
  go_region_law (refine step_append_row2 (ys := ocells ⟨sq, wh, body, err⟩) (by rfl) (by rfl) (by rfl) (by rfl) Try.underlying80 info_ended rfl rfl rfl (by decide) (by decide) HN5.out.ov HN.out (by have := HN5.out.sz; omega) (by first | rfl | simp) ?_; intro v6 w6 h6 o6; obtain ⟨p6, c6, rfl⟩ := owns_slice h6; obtain ⟨b6, hr6, on6⟩ := HN5.out.appO h6 o6; have HR6 := Lib.hid hr6; have HON6 := Lib.hid on6; have d1 : w6.cell? ⟨b, 7, none⟩ = some (.slice po s.ov.length co) := (by rw [b6.cell 7]; rfl); have f1 := b6.frozen 7; clear h6 o6 b6 hr6 on6)
  all_goals (clear d1 f1; generalize w6.setCell ⟨b, 7, none⟩ (.slice p6 (s.ov.length + 1) c6) = W6 at *)
  all_goals (go_wp2_with fail)
  all_goals go_end0
  all_goals exact ⟨rfl, _, HR6.out, HBW.out.trans (HO5.out.trans (OnC.undrew HON6.out))⟩
theorem penc_ok {p : Pk} (h : mayP p = true) (w : World) : Calls Try.prog 10 #[pv p] w fun e w' => e = .returned (.tuple #[.string (pkS p), .int .i64 0]) ∧ Below w.heap.size w w' :=
  (penc_any p w).mono fun e w' he => by unfold EnPost at he; rw [h] at he; exact he
theorem C0ok.may {s : St} (hi : SInv s) {x : C0} (hx : C0ok s x) : mayP ⟨false, s.inc, x.seq, x.body⟩ = true := by
  have h1 := hi.inc; have h2 := hi.last; obtain ⟨a, a2, _, a3, _⟩ := hx
  unfold mayP
  simp only [Bool.and_eq_true, decide_eq_true_eq]
  omega
def SendsPost (w : World) (B0 bd bo b h : Nat) (B : Int → Nat) (s : St) (vo : Value) (N : Nat) (e : Ending) (w' : World) : Prop := e = .returned (.tuple #[]) ∧ ∃ vd', CW w' B0 bd bo b h B s vd' vo N ∧ OnC B0 b h bd bo w w'
set_option maxRecDepth 100000 in
set_option maxHeartbeats 2000000 in
theorem sends_any {w : World} {B0 bd bo b h N : Nat} {B : Int → Nat} {s : St} {vd vo : Value} (c : CW w B0 bd bo b h B s vd vo N) {x : C0} (hx : x ∈ s.L) (hn : s.du.length < 2147483648) {q : Nat} (hq : B x.seq = q) :
    Calls Try.prog 67 #[.pointer (some ⟨b, 0, none⟩), .pointer (some ⟨q, 0, none⟩)] w (SendsPost w B0 bd bo b h B { s with du := s.du ++ [mkDue s x] } vo N) := by
  have HE := Lib.hid (fun w => penc_ok (C0ok.may c.inv (c.inv.ok x hx)) w)
  unfold mkDue
  have HN := Lib.hid hn
  have HC := Lib.hid c
  have HX := Lib.hid (c.cl x hx).1
  rw [hq] at HX
  unfold pv pcells at HE
  unfold ccells at HX
  dsimp only at *
  have c0 := HC.out.c0
  have y0 : w.cell? ⟨q, 0, none⟩ = some (.int .u64 x.seq) := by rw [HX.out.cell 0]; rfl
  have y2 : w.cell? ⟨q, 2, none⟩ = some (.string x.body) := by rw [HX.out.cell 2]; rfl
  clear c hn hx hq
  generalize pkS _ = T at *
  generalize hinc : s.inc = inc at *
  have HI := Lib.hid hinc
  clear hinc
  obtain ⟨sq, wh, body, tries, tm, wt⟩ := x
  dsimp only at *
  go_enter Try.func67, Try.ntmps67
  go_upto_region 0 with fail
  refine Reg.wp_text (by kernel_rfl) (by kernel_rfl) ?_
  go_wp2_with (go_at_call 10; go_loud ((with_reducible refine Calls.mono (HE.out _) ?_); rintro e w1 ⟨rfl, hb1⟩); have HB1 := Lib.hid (show Below w.heap.size w w1 from (Below.refl _ w).drew.trans hb1); clear hb1 c0 y0 y2)
  refine Reg.fin (by kernel_rfl) ?_
  have HC5 := Lib.hid (HC.out.below HB1.out)
  have HX5 := Lib.hid (HX.out.below HB1.out)
  clear HC HX
  obtain ⟨pd, cd, rfl⟩ := HC5.out.dslice
  have HN5 := Lib.hid (show CW w1.drew _ _ _ _ _ _ _ _ _ _ from HC5.out.drew)
  have c6 := HC5.out.c6
  have c6n : ∀ o, (w1.alloc o).cell? ⟨b, 6, none⟩ = some (.slice pd s.du.length cd) := fun o => (HC5.out.alloc o).c6
  have y1 : w1.cell? ⟨q, 1, none⟩ = some (.int .i64 wh) := by rw [HX5.out.cell 1]; rfl
  go_upto_region 1 with fail
  go_region_law (refine step_append_row2 (ys := dcells (wh, T)) (by rfl) (by rfl) (by rfl) (by rfl) Try.underlying78 info_due rfl rfl rfl (by decide) (by decide) HN5.out.du HN.out (by have := HN5.out.sz; omega) (by first | rfl | simp) ?_; intro v6 w6 h6 o6; obtain ⟨p6, c6x, rfl⟩ := owns_slice h6; obtain ⟨b6, hr6, on6⟩ := HN5.out.appD h6 o6; have HR6 := Lib.hid hr6; have HON6 := Lib.hid on6; have d1 : w6.cell? ⟨b, 6, none⟩ = some (.slice pd s.du.length cd) := (by rw [b6.cell 6]; rfl); have f1 := b6.frozen 6; clear h6 o6 b6 hr6 on6)
  all_goals (clear d1 f1; generalize w6.setCell ⟨b, 6, none⟩ (.slice p6 (s.du.length + 1) c6x) = W6 at *)
  all_goals (go_wp2_with fail)
  all_goals go_end0
  all_goals (have hinc := HI.out; subst hinc)
  all_goals exact ⟨rfl, _, HR6.out, (OnC.of_below HB1.out).trans (OnC.undrew HON6.out)⟩
end Go.Proofs.Ytgdgonmhgpflcaa
