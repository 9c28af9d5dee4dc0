
/- The walks of the document's net's Double, Cut, Heal. No condition but that the rows are not too long. -/
import Derived.Test.YtfjadphgjjlhiaaGraS
namespace Go.Proofs.Ytfjadphgjjlhiaa
open Go.RowKit Go.Maps Gr Sok
set_option linter.unusedVariables false
set_option linter.unusedSimpArgs false
theorem info_way : Info Try.prog 59 (.agg #[.int .i64 0, .int .i64 0]) 2 16 := by unfold Info; kernel_rfl
section
variable {w w' w1 : World} {B r : Nat} {vL vC : Value} {last : Int} {L : List G} {Cs : List (Int × Int)}
/-- A way more. -/
theorem RW.appC (h : RW w B r vL vC last L Cs) {p : Int × Int} {v5 : Value} (h5 : w1.ownsRow B 59 2 v5 (Cs.length + 1) (rowsC Cs ++ ccells p)) (o5 : Only (fun k => vC.ownBlock = some k) w w1) :
    Blk w1 r 45 #[.int .u64 last, vL, vC] ∧ RW (w1.setCell ⟨r, 2, none⟩ v5) B r vL v5 last L (Cs ++ [p]) ∧ OnR B r w (w1.setCell ⟨r, 2, none⟩ v5) := by
  have hr : ¬ vC.ownBlock = some r := fun e => owns_ne h.cuts h.blk (by decide) r e rfl
  have b1 := h.blk.only o5 hr
  have c1 : w1.ownsRow B 33 4 vL L.length (rowsG L) := owns_only h.row o5 fun k hk hs => by
    obtain ⟨cur, e1, _⟩ := owns_type h.row hk
    obtain ⟨cur2, e2, _⟩ := owns_type h.cuts hs
    rw [e1] at e2
    injection e2 with e2
    injection e2 with _ e2
    revert e2; decide
  have oS := (Only.refl (· = r) w1).set1 (o := 2) (v := v5)
  refine ⟨b1, ⟨b1.set 2 _, owns_only c1 oS (owns_ne c1 b1 (by decide)), ?_, h.ge⟩, ?_⟩
  · have e : rowsC (Cs ++ [p]) = rowsC Cs ++ ccells p := by unfold rowsC; rw [List.flatMap_append]; simp
    rw [e, List.length_append]
    exact owns_only h5 oS (owns_ne h5 b1 (by decide))
  · refine OnR.trans (w1 := w1) (o5.mono fun k _ hk => ?_) (OnR.of_r oS)
    obtain ⟨cur, e1, hb, _⟩ := owns_type h.cuts hk
    exact .inr ⟨hb, cur, _, e1, .inr rfl⟩
/-- Another row of ways. -/
theorem RW.setC (h : RW w B r vL vC last L Cs) {Cs' : List (Int × Int)} {v5 : Value} (h5 : w.ownsRow B 59 2 v5 Cs'.length (rowsC Cs')) : RW (w.setCell ⟨r, 2, none⟩ v5) B r vL v5 last L Cs' := by
  have oS := (Only.refl (· = r) w).set1 (o := 2) (v := v5)
  exact ⟨h.blk.set 2 _, owns_only h.row oS (owns_ne h.row h.blk (by decide)), owns_only h5 oS (owns_ne h5 h.blk (by decide)), h.ge⟩
theorem onr_two {X : World} {Y : Nat} (hY : w.heap.size = Y) (hb : Below w.heap.size w X) (v1 v2 : Value) : OnR B r w ((X.setCell ⟨r, 0, none⟩ v1).setCell ⟨Y, 0, none⟩ v2) := by
  have h : OnR B r w X := OnR.of_below hb
  unfold OnR at h ⊢
  exact (h.setCell (p := ⟨r, 0, none⟩) (.inl (.inl rfl)) v1).setCell (p := ⟨Y, 0, none⟩) (.inr (Nat.le_of_eq hY)) v2
def DblR (w : World) (B r : Nat) (vC : Value) (Cs : List (Int × Int)) (d : Int × Int × Int × List G × Nat) (e : Ending) (w' : World) : Prop :=
  e = .returned (.tuple #[.int .u64 d.1, .int .i64 d.2.1]) ∧ ∃ vL', RW w' B r vL' vC d.2.2.1 d.2.2.2.1 Cs ∧ OnR B r w w'
set_option maxRecDepth 100000 in
set_option maxHeartbeats 2000000 in
theorem rdouble_any (h : RW w B r vL vC last L Cs) (hL : L.length ≤ 100000) (h0 : 0 ≤ last) (hl : last + 1 ≤ 4611686018427387904) (x : Int) {d : Int × Int × Int × List G × Nat} (hd : dblG last L x = d) :
    Calls Try.prog 19 #[.pointer (some ⟨r, 0, none⟩), .int .u64 x] w (DblR w B r vC Cs d) := by
  have HR := Lib.hid h
  have HF := Lib.hid (find_any h hL x)
  have HL := Lib.hid (And.intro hL (And.intro h0 hl))
  have HD := Lib.hid hd
  have c1 := h.c1
  obtain ⟨⟨pL, cL, eL⟩, _⟩ := h.slices
  subst eL
  clear h hL hd h0 hl
  go_enter Try.func19, Try.ntmps19
  cases hix : ix L x with
  | none =>
    have HT2 : Hid (d = (0, 5, last, L, 0)) := Lib.hid (by rw [← HD.out]; unfold dblG; rw [ix_none' hix])
    have HIX : Hid (ixI L x = -1) := Lib.hid (by unfold ixI; rw [hix])
    clear hix HD
    rw [HIX.out] at HF
    go_wp2_with (go_at_call 33; ((with_reducible refine HF.out.mono ?_); rintro e w2 ⟨rfl, rfl⟩))
    rw [HT2.out]
    go_ret2
    exact ⟨rfl, _, HR.out, OnR.refl _ _ _⟩
  | some i =>
    obtain ⟨hi, hx, hfi⟩ := ix_some hix
    have HIX : Hid (ixI L x = i) := Lib.hid (by unfold ixI; rw [hix])
    have hin : ¬ (i : Int) < 0 := by omega
    rw [HIX.out] at HF
    by_cases hfull : 4096 ≤ L.length
    · have HT2 : Hid (d = (0, 6, last, L, 0)) := Lib.hid (by rw [← HD.out]; unfold dblG; rw [hfi]; simp [hfull])
      have hf' : (4096 : Int) ≤ (L.length : Int) := by omega
      clear hix HD hfull hi hx hfi
      go_wp2_with (go_at_call 33; ((with_reducible refine HF.out.mono ?_); rintro e w2 ⟨rfl, rfl⟩))
      rw [HT2.out]
      go_ret2
      exact ⟨rfl, _, HR.out, OnR.refl _ _ _⟩
    · have HT2 : Hid (d = (last + 1, 0, last + 1, L ++ [⟨last + 1, L[i].fr, L[i].tt, L[i].tx⟩], 1)) := Lib.hid (by rw [← HD.out]; unfold dblG; rw [hfi]; simp [hfull])
      have hf' : ¬ (4096 : Int) ≤ (L.length : Int) := by omega
      have hil' : (i : Int) < (L.length : Int) := by omega
      have hi0 : (0 : Int) ≤ (i : Int) := by omega
      obtain ⟨g, cap, eL, hbg, hgl, hgr, z0, z1, z2, z3⟩ := HR.out.gram hi
      injection eL with e1 e2 e3
      subst e1 e3
      have HLEN : Hid (L.length < 2147483648) := Lib.hid (by omega)
      clear hix HD hfull hx hfi e2 hbg
      generalize L[i] = q at *
      clear hi
      obtain ⟨id, fr, tt, tx⟩ := q
      dsimp only at z0 z1 z2 z3 HT2
      have eu : IntKind.u64.wrap (last + 1) = last + 1 := by have := HL.out; rw [IntKind.wrap_u64]; omega
      go_upto_region 7 with (go_at_call 33; ((with_reducible refine HF.out.mono ?_); rintro e w2 ⟨rfl, rfl⟩))
      have HRX := Lib.hid (HR.out.alloc (.cells #[.int .u64 id, .int .i64 fr, .int .i64 tt, .string tx] 33))
      have HQX := Lib.hid (Blk.new w2 33 #[.int .u64 id, .int .i64 fr, .int .i64 tt, .string tx])
      have HBX : Hid (Below w2.heap.size w2 (w2.alloc (.cells #[.int .u64 id, .int .i64 fr, .int .i64 tt, .string tx] 33))) := Lib.hid ((Below.refl _ _).alloc (Nat.le_refl _) _)
      have HOLD := Lib.hid (HR.out.old (Nat.le_refl _))
      clear c1 z0 z1 z2 z3 hgl
      generalize w2.alloc (.cells #[.int .u64 id, .int .i64 fr, .int .i64 tt, .string tx] 33) = X at *
      generalize hY : w2.heap.size = Y at *
      have HY := Lib.hid hY
      clear hY
      have hYr := HOLD.out.1
      have b0 := HRX.out.c0
      have b0f := HRX.out.blk.frozen
      have y0 : X.cell? ⟨Y, 0, none⟩ = some (.int .u64 id) := by rw [HQX.out.cell 0]; rfl
      have y0f := HQX.out.frozen
      have HR2 := Lib.hid ((HRX.out.setLast (last + 1)).only (S := fun k => k = Y) ((Only.refl (fun k => k = Y) _).setCell (p := ⟨Y, 0, none⟩) (.inl rfl) (.int .u64 (last + 1))) (fun e => HOLD.out.1 e.symm) HOLD.out.2.1 HOLD.out.2.2)
      have HQ2 := Lib.hid ((HQX.out.set_ne (p := ⟨r, 0, none⟩) (.int .u64 (last + 1)) HOLD.out.1).set 0 (.int .u64 (last + 1)))
      have HO2 : Hid (OnR B r w2 ((X.setCell ⟨r, 0, none⟩ (.int .u64 (last + 1))).setCell ⟨Y, 0, none⟩ (.int .u64 (last + 1)))) := Lib.hid (onr_two HY.out (by rw [HY.out]; exact HBX.out) _ _)
      go_upto_region 9 with fail
      have HQ3 := Lib.hid (show Blk ((X.setCell ⟨r, 0, none⟩ (.int .u64 (last + 1))).setCell ⟨Y, 0, none⟩ (.int .u64 (last + 1))) Y 33 #[.int .u64 (last + 1), .int .i64 fr, .int .i64 tt, .string tx] from HQ2.out)
      clear HQ2 b0 b0f y0 y0f HRX HQX HBX hYr eu
      generalize (X.setCell ⟨r, 0, none⟩ (.int .u64 (last + 1))).setCell ⟨Y, 0, none⟩ (.int .u64 (last + 1)) = W at *
      generalize last + 1 = qq at *
      have c1 := HR2.out.c1
      have c1n : ∀ o, (W.alloc o).cell? ⟨r, 1, none⟩ = some (.slice (some ⟨g, 0, none⟩) L.length cL) := fun o => (HR2.out.alloc o).c1
      have y0 : W.cell? ⟨Y, 0, none⟩ = some (.int .u64 qq) := by rw [HQ3.out.cell 0]; rfl
      have y1 : W.cell? ⟨Y, 1, none⟩ = some (.int .i64 fr) := by rw [HQ3.out.cell 1]; rfl
      have y2 : W.cell? ⟨Y, 2, none⟩ = some (.int .i64 tt) := by rw [HQ3.out.cell 2]; rfl
      have y3 : W.cell? ⟨Y, 3, none⟩ = some (.string tx) := by rw [HQ3.out.cell 3]; rfl
      have HN3 := Lib.hid HR2.out.drew
      have HQ4 := Lib.hid (show Blk W.drew Y 33 #[.int .u64 qq, .int .i64 fr, .int .i64 tt, .string tx] from HQ3.out)
      go_region_law (refine step_append_row2 (ys := gcells ⟨qq, fr, tt, tx⟩) (by rfl) (by rfl) (by rfl) (by rfl) Try.underlying36 info_gram rfl rfl rfl (by decide) (by decide) HN3.out.row HLEN.out (by have := HN3.out.ge; have := HN3.out.blk.lt; omega) (by first | rfl | simp) ?_; intro v5 w6 h6 o6; obtain ⟨p6, c6, rfl⟩ := owns_slice h6; obtain ⟨b6, hr6, on6⟩ := HN3.out.app h6 o6; have HR6 := Lib.hid hr6; have HON6 := Lib.hid on6; have HQ6 := Lib.hid ((HQ4.out.only o6 (fun e => HOLD.out.2.1 _ e rfl)).set_ne (p := ⟨r, 1, none⟩) (.slice p6 (L.length + 1) c6) HOLD.out.1); have d1 : w6.cell? ⟨r, 1, none⟩ = some (.slice (some ⟨g, 0, none⟩) L.length cL) := (by rw [b6.cell 1]; rfl); have f1 := b6.frozen 1; clear h6 o6 b6 hr6 on6)
      all_goals (have y4 : (w6.setCell ⟨r, 1, none⟩ (.slice p6 (L.length + 1) c6)).cell? ⟨Y, 0, none⟩ = some (.int .u64 qq) := by rw [HQ6.out.cell 0]; rfl)
      all_goals (clear d1 f1; generalize w6.setCell ⟨r, 1, none⟩ (.slice p6 (L.length + 1) c6) = W6 at *)
      all_goals (go_wp2_with fail)
      all_goals (rw [HT2.out]; go_ret2)
      all_goals exact ⟨rfl, _, HR6.out, HO2.out.trans (OnR.undrew HON6.out)⟩
def CutR (w : World) (B r : Nat) (vL : Value) (last : Int) (L : List G) (c : Int × List (Int × Int)) (e : Ending) (w' : World) : Prop :=
  e = .returned (.int .i64 c.1) ∧ ∃ vC', RW w' B r vL vC' last L c.2 ∧ OnR B r w w'
theorem rcut_bad (h : RW w B r vL vC last L Cs) {x y : Int} (hb : bad2 x y = true) :
    Calls Try.prog 21 #[.pointer (some ⟨r, 0, none⟩), .int .i64 x, .int .i64 y] w fun e w' => e = .returned (.int .i64 2) ∧ w' = w := by
  have HP := Lib.hid (fun a => place_any a w)
  clear h
  go_enter Try.func21, Try.ntmps21
  cases hx : bad x with
  | true =>
    have h1 := HP.out x
    rw [hx] at h1
    have H1 := Lib.hid h1
    clear h1 hx
    go_wp2_with (go_at_call 32; ((with_reducible refine H1.out.mono ?_); rintro e w2 ⟨rfl, rfl⟩))
    go_ret
    exact ⟨rfl, rfl⟩
  | false =>
    have hy : bad y = true := by unfold bad2 at hb; rw [hx] at hb; simpa using hb
    have h1 := HP.out x
    have h2 := HP.out y
    rw [hx] at h1
    rw [hy] at h2
    have H1 := Lib.hid h1
    have H2 := Lib.hid h2
    clear h1 h2 hx hy
    go_wp2_with (go_at_call 32; first | ((with_reducible refine H1.out.mono ?_); rintro e w2 ⟨rfl, rfl⟩) | ((with_reducible refine H2.out.mono ?_); rintro e w2 ⟨rfl, rfl⟩))
    go_ret
    exact ⟨rfl, rfl⟩
theorem rheal_bad (h : RW w B r vL vC last L Cs) {x y : Int} (hb : bad2 x y = true) :
    Calls Try.prog 23 #[.pointer (some ⟨r, 0, none⟩), .int .i64 x, .int .i64 y] w fun e w' => e = .returned (.int .i64 2) ∧ w' = w := by
  have HP := Lib.hid (fun a => place_any a w)
  clear h
  go_enter Try.func23, Try.ntmps23
  cases hx : bad x with
  | true =>
    have h1 := HP.out x
    rw [hx] at h1
    have H1 := Lib.hid h1
    clear h1 hx
    go_wp2_with (go_at_call 32; ((with_reducible refine H1.out.mono ?_); rintro e w2 ⟨rfl, rfl⟩))
    go_ret
    exact ⟨rfl, rfl⟩
  | false =>
    have hy : bad y = true := by unfold bad2 at hb; rw [hx] at hb; simpa using hb
    have h1 := HP.out x
    have h2 := HP.out y
    rw [hx] at h1
    rw [hy] at h2
    have H1 := Lib.hid h1
    have H2 := Lib.hid h2
    clear h1 h2 hx hy
    go_wp2_with (go_at_call 32; first | ((with_reducible refine H1.out.mono ?_); rintro e w2 ⟨rfl, rfl⟩) | ((with_reducible refine H2.out.mono ?_); rintro e w2 ⟨rfl, rfl⟩))
    go_ret
    exact ⟨rfl, rfl⟩
theorem bad2_parts {x y : Int} (h : bad2 x y = false) : bad x = false ∧ bad y = false := by
  unfold bad2 at h; simpa using h
set_option maxRecDepth 100000 in
set_option maxHeartbeats 2000000 in
theorem rcut_any (h : RW w B r vL vC last L Cs) (hC : Cs.length ≤ 100000) {x y : Int} (hb : bad2 x y = false) :
    Calls Try.prog 21 #[.pointer (some ⟨r, 0, none⟩), .int .i64 x, .int .i64 y] w (CutR w B r vL last L (0, if cutL Cs x y then Cs else Cs ++ [(x, y)])) := by
  have HR := Lib.hid h
  have H1 := Lib.hid (place_any x w)
  have H2 := Lib.hid (place_any y w)
  rw [(bad2_parts hb).1] at H1
  rw [(bad2_parts hb).2] at H2
  have HC := Lib.hid (iscut_any h hC x y)
  have HL : Hid (Cs.length < 2147483648) := Lib.hid (by omega)
  have c2 := h.c2
  obtain ⟨⟨pL, cL, eL⟩, ⟨pC, cC, eC⟩⟩ := h.slices
  subst eL eC
  clear h hC hb
  go_enter Try.func21, Try.ntmps21
  cases hcut : cutL Cs x y with
  | true =>
    rw [hcut] at HC
    go_wp2_with (first | (go_at_call 32; first | ((with_reducible refine H1.out.mono ?_); rintro e w2 ⟨rfl, rfl⟩) | ((with_reducible refine H2.out.mono ?_); rintro e w2 ⟨rfl, rfl⟩)) | (go_at_call 34; ((with_reducible refine HC.out.mono ?_); rintro e w2 ⟨rfl, rfl⟩)))
    go_ret
    exact ⟨rfl, _, HR.out, OnR.refl _ _ _⟩
  | false =>
    rw [hcut] at HC
    go_wp2_with (first | (go_at_call 32; first | ((with_reducible refine H1.out.mono ?_); rintro e w2 ⟨rfl, rfl⟩) | ((with_reducible refine H2.out.mono ?_); rintro e w2 ⟨rfl, rfl⟩)) | (go_at_call 34; ((with_reducible refine HC.out.mono ?_); rintro e w2 ⟨rfl, rfl⟩)) | (at_builtin; refine wpl_append_row2 (ys := ccells (x, y)) rfl rfl rfl rfl Try.underlying43 info_way rfl rfl rfl (by decide) (by decide) HR.out.cuts HL.out (by have := HR.out.ge; have := HR.out.blk.lt; omega) (by first | rfl | simp) ?_; intro v5 w6 h6 o6; obtain ⟨p6, c6, rfl⟩ := owns_slice h6; obtain ⟨b6, hr6, on6⟩ := HR.out.appC h6 o6; have HR6 := Lib.hid hr6; have HON6 := Lib.hid on6; have d1 := (show Blk w6 r 45 _ from b6).cell 2; dsimp at d1; have f1 := b6.frozen 2; clear h6 o6 b6 hr6 on6 c2))
    go_ret
    exact ⟨rfl, _, HR6.out, HON6.out⟩
end
end Go.Proofs.Ytfjadphgjjlhiaa
