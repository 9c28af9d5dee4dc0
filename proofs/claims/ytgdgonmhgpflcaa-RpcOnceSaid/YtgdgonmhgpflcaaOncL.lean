import Derived.Test.YtgdgonmhgpflcaaOncK
import Derived.StillTailTactics

/- The walk of RpcOnce's 'comes' at a call's text. No condition but that there is not too much. -/
namespace Go.Proofs.Ytgdgonmhgpflcaa
open Go.RowKit Go.Maps Wire Rp
set_option linter.unusedVariables false
set_option linter.unusedSimpArgs false
/-- An append of a row just laid, as a region that draws its order has it. -/
theorem apRun {P : Program} {op : Oper} {a : Act} {w : World} {sl x : Operand} {t e e' : TypeId} {z v : Value} {size bytes base n gl : Nat} {xs ys : List Value}
    (ho : op.op = .call { callee := .builtin .append, args := #[sl, x], argTypes := #[t, t] }) (ht : P.underlying t = some (.slice e)) (hi : Info P e z size bytes) (hz : z.cells.size = size) (hsz : 0 < size) (hb : bytes ≤ 1024)
    (hs : a.eval sl = v) (hx : a.eval x = .slice (some ⟨gl, 0, none⟩) 1 1) (hgl : Blk w gl e' ys.toArray) (hy : ys.all (·.oneCell') = true) (hl : ys.length = 1 * size)
    (hown : w.ownsRow base e size v n xs) (hn : n < 2147483648) (hbase : base ≤ w.heap.size) :
    op.wp P a w (fun a' w' => ∃ v', a' = a.put op.dst v' ∧ w'.ownsRow base e size v' (n + 1) (xs ++ ys) ∧ Only (fun k => v.ownBlock = some k) w w') (fun _ _ _ => False) := by
  obtain ⟨i, hi1, hi2, hi3, hi4⟩ := info_parts hi
  refine wp_append_own _ sl x t ho base e i z size bytes ht hi1 hi2 hi3 hi4 hz hsz v n xs hs hown _ 1 1 ys hx hl ?_ (fun u hu => List.all_eq_true.1 hy u hu)
    (by unfold maxLen; omega) (by have : (n + 1) * bytes ≤ 2147483648 * 1024 := Nat.mul_le_mul (by omega) hb; omega) hbase ?_
  · intro j u hj
    have : (⟨gl, 0, none⟩ : Addr).add j = ⟨gl, j, none⟩ := by unfold Addr.add; split <;> simp_all
    rw [this, hgl.cell j]; simpa using hj
  intro v' w' h1 h2 _
  exact ⟨v', rfl, h1, ⟨h2.os, h2.tape, h2.output, h2.size, fun k hk hne => h2.block k hk (fun e => hne e.symm)⟩⟩
set_option maxRecDepth 100000 in
set_option maxHeartbeats 8000000 in
theorem wcome_any {w0 w : World} {g N : Nat} {d : Wd} (hx : OP w0 w g d true N) (hv : OInv d) {pi ps : Int} {pb : ByteArray} (hm : mayP ⟨false, pi, ps, pb⟩ = true) (hi : pi ≤ d.inc) (hy : WayOk d (false, pkS ⟨false, pi, ps, pb⟩)) (hl : d.jobs.length ≤ 1000000000 ∧ d.ways.length ≤ 1000000000) (hN : N ≤ 900000) :
    Calls Try.prog 25 #[.pointer (some ⟨g, 0, none⟩), .agg #[.bool false, .string (pkS ⟨false, pi, ps, pb⟩)]] w fun e w' => e = .returned (.tuple #[]) ∧ OP w0 w' g (comeW d ⟨false, pi, ps, pb⟩ (takeD d.d 1 ⟨false, pi, ps, pb⟩)) true (N + 3) := by
  obtain ⟨b, h, cx, hx', bd, bo, B, Bp, Mp, vd, vo, vw, vj, ha, hd', x⟩ := hx
  have HDC := Lib.hid (fun w => wdec hm w)
  have hmm := hm
  have hu : U64 ps := by unfold mayP at hmm; simp only [Bool.and_eq_true, decide_eq_true_eq] at hmm; unfold U64; omega
  have HU := Lib.hid hu
  have HL := Lib.hid hl
  have HN := Lib.hid hN
  obtain ⟨hr0, hco⟩ := come_call hv hy hm rfl hi
  obtain ⟨⟨⟨rk, rt, rz⟩, rs⟩, hr⟩ : ∃ r, takeD d.d 1 ⟨false, pi, ps, pb⟩ = r := ⟨_, rfl⟩
  rw [hr] at hr0 hco ⊢
  have hz : rz = 0 := hr0
  subst hz
  have HR := Lib.hid hr
  have HCO := Lib.hid hco
  have HX0 := Lib.hid (x.below ((Below.refl _ w).alloc (Nat.le_refl _) (.cells #[.bool false, .string (pkS ⟨false, pi, ps, pb⟩)] 66)))
  have HQ0 := Lib.hid (Blk.new w 66 #[.bool false, .string (pkS ⟨false, pi, ps, pb⟩)])
  clear x hu hl hN hm hmm hr hr0 hco hy hi hv
  generalize pkS ⟨false, pi, ps, pb⟩ = t at *
  go_enter Try.func25, Try.ntmps25
  go_upto_region 2 with (first
    | (go_at_call 11; go_loud ((with_reducible refine (HDC.out _).mono ?_); rintro e w1 ⟨rfl, hb⟩; have HX1 := Lib.hid (HX0.out.below hb); have HQ1 := Lib.hid (HQ0.out.below hb); clear hb))
    | (refine wpl_store_blk (c' := #[.bool false, .int .u64 pi, .int .u64 ps, .string pb]) (Blk.new _ _ _) rfl _ _ _ rfl rfl rfl (by kernel_rfl) rfl (by simp [Value.oneCell']) ?_; go_loud (intro w2 hb2 ho2; have HP2 := Lib.hid hb2; have HX2 := Lib.hid (HX1.out.below (al_step ho2)); have HQ2 := Lib.hid (HQ1.out.below (al_step ho2)); clear hb2 ho2)))
  clear HX0 HQ0 HX1 HQ1 HDC
  have y0 : w2.cell? ⟨w.heap.size, 0, none⟩ = some (.bool false) := HQ2.out.cell 0
  generalize w1.heap.size = pq at *
  generalize w.heap.size = wq at *
  go_upto_region 6 with fail
  clear y0 HQ2
  have HPG : Hid (pq ≠ g) := Lib.hid (fun e => by have h1 := HP2.out; rw [e] at h1; exact absurd (blk_ne h1 HX2.out.blk) (by decide))
  obtain ⟨WA, hWA⟩ : ∃ WA, WA = wcells b cx d vw vj ha hd' true := ⟨_, rfl⟩
  have HWA : Hid (WA[1]? = some (.pointer (some ⟨cx, 0, none⟩))) := Lib.hid (by rw [hWA]; rfl)
  have HI0 : Hid (Blk w2.drew g 61 WA ∧ Blk w2.drew pq 24 #[.bool false, .int .u64 pi, .int .u64 ps, .string pb]) := Lib.hid ⟨(hWA ▸ HX2.out.blk).drew, HP2.out.drew⟩
  have HJ0 := Lib.hid (HX2.out.below (Below.refl _ w2).drew)
  have HMO : Hid (¬ MO hx' Mp d.d g ∧ ¬ MO hx' Mp d.d pq) := Lib.hid ⟨fun e => mo_noblk HX2.out.duo.cd e HX2.out.blk, fun e => mo_noblk HX2.out.duo.cd e HP2.out⟩
  have HST : Hid (∀ wa wb, OnD w0.heap.size (MO hx' Mp d.d) wa wb → (Blk wa g 61 WA ∧ Blk wa pq 24 #[.bool false, .int .u64 pi, .int .u64 ps, .string pb]) → (Blk wb g 61 WA ∧ Blk wb pq 24 #[.bool false, .int .u64 pi, .int .u64 ps, .string pb])) := Lib.hid (fun wa wb ho hI => ⟨hI.1.only ho (fun hs => hs.elim HMO.out.1 (fun e => by obtain ⟨_, A', e⟩ := e; exact absurd (blk_ne hI.1 e) (by decide))), hI.2.only ho (fun hs => hs.elim HMO.out.2 (fun e => by obtain ⟨_, A', e⟩ := e; exact absurd (blk_ne hI.2 e) (by decide)))⟩)
  have HTK : Hid (∀ wa, OW w0 wa g b h cx hx' bd bo B Bp Mp d vd vo vw vj ha hd' N true → Calls Try.prog 18 #[.pointer (some ⟨cx, 0, none⟩), .int .i64 1, .agg #[.bool false, .int .u64 pi, .int .u64 ps, .string pb]] wa fun e wb => ∃ v, e = .returned v ∧ (v = .tuple #[.int .u8 rk, .string rt, .int .i64 0] ∧ ∃ Bp' Mp', OW w0 wb g b h cx hx' bd bo B Bp' Mp' { d with d := rs } vd vo vw vj ha hd' (N + 2) true) ∧ OnD w0.heap.size (MO hx' Mp d.d) wa wb) := Lib.hid (fun wa x => by
    refine (dtake_any x.duo.cd (fr := 1) (p := ⟨false, pi, ps, pb⟩) ⟨HU.out, by unfold I64; decide⟩ HN.out HR.out).mono ?_
    rintro e wb ⟨rfl, B', M', N', hc, hn', ho, hm⟩
    exact ⟨_, rfl, ⟨rfl, _, _, x.onD (Nat.le_add_right N 2) (hc.mono hn') ho hm⟩, ho⟩)
  clear hWA
  go_cut [5, 6, 7] (fun se sk st wz => se = .int .i64 0 ∧ sk = .int .u8 rk ∧ st = .string rt ∧ (∃ Bp' Mp', OW w0 wz g b h cx hx' bd bo B Bp' Mp' { d with d := rs } vd vo vw vj ha hd' (N + 2) true) ∧ Blk wz pq 24 #[.bool false, .int .u64 pi, .int .u64 ps, .string pb])
  case first =>
    -- region 6
    refine Reg.wp_rely 13 (fun w => Blk w g 61 WA ∧ Blk w pq 24 #[.bool false, .int .u64 pi, .int .u64 ps, .string pb]) (by kernel_rfl) (Reg.relyOk_of (by kernel_rfl)) HI0.out (fun w w' h hI => ⟨hI.1.below h, hI.2.below h⟩) ?_
    refine Reg.rely_plain (.pointer (some ⟨g, 0, none⟩)) rfl (fun a w hI hF => by
        have f1 : a.tmps.getD 0 undef = .pointer (some ⟨g, 0, none⟩) := hF 0 (Reg.looksB (by kernel_rfl))
        clear hF hI
        simp only [Array.getD_eq_getD_getElem?] at f1
        simp only [execOp]; go_simp) ?_
    refine Reg.rely_plain (.pointer (some ⟨g, 0, none⟩)) rfl (fun a w hI hF => by
        have f1 : a.tmps.getD 28 undef = .pointer (some ⟨g, 0, none⟩) := hF 28 (Reg.looksB (by kernel_rfl))
        clear hF hI
        simp only [Array.getD_eq_getD_getElem?] at f1
        simp only [execOp]; go_simp) ?_
    refine Reg.rely_plain (.pointer (some ⟨g, 1, none⟩)) rfl (fun a w hI hF => by
        have f1 : a.tmps.getD 29 undef = .pointer (some ⟨g, 0, none⟩) := hF 29 (Reg.looksB (by kernel_rfl))
        clear hF hI
        simp only [Array.getD_eq_getD_getElem?] at f1
        simp only [execOp]; go_simp) ?_
    refine Reg.rely_plain (.pointer (some ⟨cx, 0, none⟩)) rfl (fun a w hI hF => by
        have f1 : a.tmps.getD 30 undef = .pointer (some ⟨g, 1, none⟩) := hF 30 (Reg.looksB (by kernel_rfl))
        have hc : w.cell? ⟨g, 1, none⟩ = some (.pointer (some ⟨cx, 0, none⟩)) := (hI.1.cell 1).trans HWA.out
        clear hF hI
        simp only [Array.getD_eq_getD_getElem?] at f1
        simp only [execOp]; go_simp) ?_
    refine Reg.rely_plain (.agg #[.bool false, .int .u64 pi, .int .u64 ps, .string pb]) rfl (fun a w hI hF => by
        have f1 : a.tmps.getD 4 undef = .pointer (some ⟨pq, 0, none⟩) := hF 4 (Reg.looksB (by kernel_rfl))
        have hc0 : w.cell? ⟨pq, 0, none⟩ = some (.bool false) := hI.2.cell 0; have hc1 : w.cell? ⟨pq, 1, none⟩ = some (.int .u64 pi) := hI.2.cell 1; have hc2 : w.cell? ⟨pq, 2, none⟩ = some (.int .u64 ps) := hI.2.cell 2; have hc3 : w.cell? ⟨pq, 3, none⟩ = some (.string pb) := hI.2.cell 3
        clear hF hI
        simp only [Array.getD_eq_getD_getElem?] at f1
        simp only [execOp]; go_simp) ?_
    refine Reg.rely_call (fun v w => v = .tuple #[.int .u8 rk, .string rt, .int .i64 0] ∧ ∃ Bp' Mp', OW w0 w g b h cx hx' bd bo B Bp' Mp' { d with d := rs } vd vo vw vj ha hd' (N + 2) true) (fun w w' => OnD w0.heap.size (MO hx' Mp d.d) w w') (fun w => OW w0 w g b h cx hx' bd bo B Bp Mp d vd vo vw vj ha hd' N true) (fun v w w' h hS => ⟨hS.1, by obtain ⟨Bp', Mp', hx⟩ := hS.2; exact ⟨_, _, hx.below h⟩⟩) (fun G hG => by cases hG) (fun w w' h hI => HST.out w w' h hI) ?_ rfl (fun w w' h hJ => hJ.below h) HJ0.out (fun G hG => by cases hG) (fun G hG => by cases hG) 18 #[.pointer (some ⟨cx, 0, none⟩), .int .i64 1, .agg #[.bool false, .int .u64 pi, .int .u64 ps, .string pb]] (fun a w hI hF => ?_) (fun w hI hJ => (HTK.out w hJ)) ?_
    · intro p hp
      repeat (rcases List.mem_cons.1 hp with rfl | hp; exact Reg.stab_is _ _)
      cases hp
    · have f1 : a.tmps.getD 31 undef = .pointer (some ⟨cx, 0, none⟩) := hF 31 (Reg.looksB (by kernel_rfl))
      have f2 : a.tmps.getD 32 undef = .agg #[.bool false, .int .u64 pi, .int .u64 ps, .string pb] := hF 32 (Reg.looksB (by kernel_rfl))
      clear hF hI
      simp only [Array.getD_eq_getD_getElem?] at f1 f2
      simp only [execOp]; go_simp
    refine Reg.rely_is (.tuple #[.int .u8 rk, .string rt, .int .i64 0]) (fun a w hI hF => Reg.det_plain rfl ?_) ?_
    · have f1 : a.tmps.getD 33 undef = .tuple #[.int .u8 rk, .string rt, .int .i64 0] := (hF 33 (Reg.looksB (by kernel_rfl))).1
      clear hF hI
      simp only [Array.getD_eq_getD_getElem?] at f1
      simp only [execOp]; go_simp
    refine Reg.rely_plain (.int .u8 rk) rfl (fun a w hI hF => by
        have f1 : a.tmps.getD 27 undef = .tuple #[.int .u8 rk, .string rt, .int .i64 0] := hF 27 (Reg.looksB (by kernel_rfl))
        clear hF hI
        simp only [Array.getD_eq_getD_getElem?] at f1
        simp only [execOp]; go_simp) ?_
    refine Reg.rely_plain (.string rt) rfl (fun a w hI hF => by
        have f1 : a.tmps.getD 27 undef = .tuple #[.int .u8 rk, .string rt, .int .i64 0] := hF 27 (Reg.looksB (by kernel_rfl))
        clear hF hI
        simp only [Array.getD_eq_getD_getElem?] at f1
        simp only [execOp]; go_simp) ?_
    refine Reg.rely_plain (.int .i64 0) rfl (fun a w hI hF => by
        have f1 : a.tmps.getD 27 undef = .tuple #[.int .u8 rk, .string rt, .int .i64 0] := hF 27 (Reg.looksB (by kernel_rfl))
        clear hF hI
        simp only [Array.getD_eq_getD_getElem?] at f1
        simp only [execOp]; go_simp) ?_
    refine Reg.rely_plain (.int .u8 rk) rfl (fun a w hI hF => by
        have f1 : a.tmps.getD 34 undef = .int .u8 rk := hF 34 (Reg.looksB (by kernel_rfl))
        clear hF hI
        simp only [Array.getD_eq_getD_getElem?] at f1
        simp only [execOp]; go_simp) ?_
    refine Reg.rely_plain (.string rt) rfl (fun a w hI hF => by
        have f1 : a.tmps.getD 35 undef = .string rt := hF 35 (Reg.looksB (by kernel_rfl))
        clear hF hI
        simp only [Array.getD_eq_getD_getElem?] at f1
        simp only [execOp]; go_simp) ?_
    refine Reg.rely_plain (.int .i64 0) rfl (fun a w hI hF => by
        have f1 : a.tmps.getD 36 undef = .int .i64 0 := hF 36 (Reg.looksB (by kernel_rfl))
        clear hF hI
        simp only [Array.getD_eq_getD_getElem?] at f1
        simp only [execOp]; go_simp) ?_
    refine Reg.rely_nil ?_
    refine Reg.final_is ?_
    refine Reg.final_is ?_
    refine Reg.final_is ?_
    refine Reg.final_is ?_
    refine Reg.final_is ?_
    refine Reg.final_is ?_
    refine Reg.final_is ?_
    refine Reg.final_rel (fun v33 => ?_)
    refine Reg.final_is ?_
    refine Reg.final_is ?_
    refine Reg.final_is ?_
    refine Reg.final_is ?_
    refine Reg.final_is ?_
    refine Reg.final_nil (fun w9 hF => ?_)
    -- region 6 ends
    obtain ⟨hI9, hS9⟩ := hF
    have hx7 := hS9.2
    have hp7 := hI9.2
    clear hI9 hS9
    simp only [List.drop_succ_cons, List.drop_zero]
    go_simp
    go_wp2_with fail
    refine Reg.fin (by kernel_rfl) ?_
    go_wp2_with fail
    go_meet
    exact ⟨rfl, rfl, rfl, hx7, hp7⟩
  case rest =>
    obtain ⟨rfl, rfl, rfl, ⟨Bp', Mp', hx7⟩, hp7⟩ := hcut
    obtain ⟨w7, hw7⟩ : ∃ w7, w7 = wc := ⟨_, rfl⟩
    subst hw7
    have HX7 := Lib.hid hx7
    have HP7 := Lib.hid hp7
    clear hx7 hp7 HTK HX2 HI0 HJ0 HST HMO HP2 HR
    cases HCO.out with
    | none hk h2 =>
      have hk' : rk = 3 ∨ rk = 4 := hk
      have HCW : Hid (comeW d ⟨false, pi, ps, pb⟩ ((rk, rt, 0), rs) = { d with d := rs }) := Lib.hid (by unfold comeW; dsimp only; rw [if_neg (by omega), if_neg (by omega)])
      have hk1 : (rk == 1) = false := by have : ¬ rk = 1 := (by omega); simpa using this
      have hk2 : (rk == 2) = false := by have : ¬ rk = 2 := (by omega); simpa using this
      clear hk hk' h2 HCO
      go_wp2_with fail
      (try simp only [Exit.inBlock, Exit.then])
      go_end0
      exact ⟨rfl, by rw [HCW.out]; exact ⟨_, _, _, _, _, _, _, _, _, _, _, _, _, _, _, HX7.out.mono (by omega)⟩⟩
    | again hk h2 =>
      have hk' : rk = 2 := hk
      subst hk'
      have HCW : Hid (comeW d ⟨false, pi, ps, pb⟩ ((2, rt, 0), rs) = { d with d := rs, ways := d.ways ++ [(true, rt)] }) := Lib.hid (by unfold comeW; dsimp only; rw [if_neg (by decide), if_pos rfl])
      obtain ⟨pw, cw, hvw⟩ := HX7.out.wr.slice
      subst hvw
      obtain ⟨kw, hkw⟩ : ∃ kw, kw = d.ways.length := ⟨_, rfl⟩
      have HKW := Lib.hid hkw
      have c4 : w7.cell? ⟨g, 4, none⟩ = some (.slice pw kw cw) := by rw [hkw]; exact HX7.out.blk.cell 4
      have f4 := HX7.out.blk.frozen 4
      clear hk h2 HCO hkw
      go_wp2_with (at_builtin; go_loud (refine wpl_append_view (ys := wrow (true, rt)) rfl rfl rfl (by rw [HKW.out]; rfl) Try.underlying56 info_way rfl rfl rfl (by decide) (by decide) HX7.out.wr (by have := HL.out; dsimp only; omega) HX7.out.duo.bel.size rfl ?_; intro v8 w8 h8 o8; obtain ⟨p8, c8, rfl⟩ := h8.slice; obtain ⟨b8, hx8⟩ := HX7.out.way (y := (true, rt)) h8 o8; have HX8 := Lib.hid hx8; have d1 : w8.cell? ⟨g, 4, none⟩ = some (.slice pw kw cw) := (by rw [HKW.out]; exact b8.cell 4); have f1 := b8.frozen 4; clear h8 o8 b8 hx8))
      (try simp only [Exit.inBlock, Exit.then])
      go_end0
      exact ⟨rfl, by rw [HCW.out]; exact ⟨_, _, _, _, _, _, _, _, _, _, _, _, _, _, _, HX8.out.mono (by omega)⟩⟩
    | new hk h2 hn =>
      have hk' : rk = 1 := hk
      subst hk'
      have HCW : Hid (comeW d ⟨false, pi, ps, pb⟩ ((1, rt, 0), rs) = { d with d := rs, jobs := d.jobs ++ [(pi, ps, pb)], dn := if pi = d.inc then d.dn ++ [ps] else d.dn }) := Lib.hid (by unfold comeW; dsimp only; rw [if_pos rfl])
      have hn' : pi = d.inc → ps ∉ d.dn ∧ (ps, pb) ∈ d.ask := hn
      have z1 : w7.cell? ⟨pq, 1, none⟩ = some (.int .u64 pi) := HP7.out.cell 1
      have c2 : w7.cell? ⟨g, 2, none⟩ = some (.int .u64 d.inc) := HX7.out.blk.cell 2
      clear hk h2 hn HCO
      by_cases hin : pi = d.inc
      · obtain ⟨hn1, hn2⟩ := hn' hin
        have hin' : (pi == d.inc) = true := by simpa using hin
        rw [if_pos hin] at HCW
        have HN1 := Lib.hid hn1
        have HN2 := Lib.hid hn2
        clear hn' hin hn1 hn2
        go_upto_region 11 with fail
        go_region
        have HX8 := Lib.hid (HX7.out.below (Below.refl _ w7).drew)
        have HP8 := Lib.hid (HP7.out.drew)
        clear HX7 HP7 z1 c2 hin'
        go_upto_region 12 with fail
        generalize w7.drew = w8 at *
        have z2 : w8.cell? ⟨pq, 2, none⟩ = some (.int .u64 ps) := HP8.out.cell 2
        have c7 : w8.cell? ⟨g, 7, none⟩ = some (.map (some hd')) := HX8.out.blk.cell 7
        have HX8D := Lib.hid (HX8.out.below (Below.refl _ w8).drew)
        have hl0 := HX8D.out.notyet HN1.out HU.out
        obtain ⟨D, o, hput⟩ := HX8D.out.putN HN1.out
        have HOO := Lib.hid o
        have HPU := Lib.hid hput
        have HKEY := Lib.hid (keyR HU.out)
        have HNM : Hid (N + 2 < maxLen) := Lib.hid (by have := HN.out; unfold maxLen; omega)
        clear hput o
        go_still_tail 8, (by kernel_rfl)
        go_wp2_with (at_mapUpdate; go_loud (refine wpList_mapUpdate_own _ rfl _ _ _ 59 rfl 22 3 kdR Try.underlying59 _ hd' (N + 2) D rfl HOO.out HNM.out _ (.int .i64 1) (KR ps) rfl rfl HKEY.out (.lit (.int .i64 1)) [] rfl ?_; intro w9 o9 g9; have HX9 := Lib.hid (HPU.out w9 o9 g9); have HP9 := Lib.hid (HP8.out.drew.only (only_map g9) (fun e => at_noblk HX8D.out.dm HP8.out.drew e.symm)); clear o9 g9))
        clear z2 c7 hl0 HPU HOO HKEY HNM HX8 HP8 HX8D
        have z2 : w9.cell? ⟨pq, 2, none⟩ = some (.int .u64 ps) := HP9.out.cell 2
        have z3 : w9.cell? ⟨pq, 3, none⟩ = some (.string pb) := HP9.out.cell 3
        have c6 : w9.cell? ⟨g, 6, none⟩ = some (.map (some ha)) := HX9.out.blk.cell 6
        have c7 : w9.cell? ⟨g, 7, none⟩ = some (.map (some hd')) := HX9.out.blk.cell 7
        have c8 : w9.cell? ⟨g, 8, none⟩ = some (.bool true) := HX9.out.blk.cell 8
        have f8 := HX9.out.blk.frozen 8
        have HX9D := Lib.hid (HX9.out.below (Below.refl _ w9).drew)
        have hl1 := HX9D.out.done (s := ps) (List.mem_append_right _ (by simp)) HU.out
        have hl2 := HX9D.out.asked HN2.out HU.out
        have hst := str_of (a := pb) rfl
        go_upto_region 13 with fail
        go_region
        have HX10 := Lib.hid ((HX9.out.set (f := 8) (v := .bool true) (fn' := true) (vw' := vw) (vj' := vj) (d' := { d with d := rs, dn := d.dn ++ [ps] }) rfl ⟨rfl, rfl, rfl, rfl⟩ HX9.out.wr HX9.out.jr).below (Below.refl _ _).drew)
        have HP10 := Lib.hid ((HP9.out.only (((Only.refl (· = g) w9).set1 (o := 8) (v := .bool true))) HPG.out).drew)
        clear z2 z3 c6 c7 c8 f8 hl1 hl2 hst HX9 HX9D HP9 HN1 HN2
        generalize (w9.setCell ⟨g, 8, none⟩ (.bool true)).drew = w10 at *
        obtain ⟨pj, cj, hvj⟩ := owns_slice HX10.out.jr
        subst hvj
        obtain ⟨kj, hkj⟩ : ∃ kj, kj = d.jobs.length := ⟨_, rfl⟩
        have HKJ := Lib.hid hkj
        have HXD : Hid (OW w0 w10.drew g b h cx hx' bd bo B Bp' Mp' { d with d := rs, dn := d.dn ++ [ps] } vd vo vw (.slice pj kj cj) ha hd' (N + 2 + 1) true) := Lib.hid (by have := HX10.out.below (Below.refl _ w10).drew; rw [HKJ.out]; exact this)
        obtain ⟨WA, hWA⟩ : ∃ WA, WA = wcells b cx { d with d := rs, dn := d.dn ++ [ps] } vw (.slice pj kj cj) ha hd' true := ⟨_, rfl⟩
        have HWA : Hid (WA[5]? = some (.slice pj kj cj)) := Lib.hid (by rw [hWA]; rfl)
        have HI0 : Hid ((Blk w10.drew g 61 WA ∧ Blk w10.drew pq 24 #[.bool false, .int .u64 pi, .int .u64 ps, .string pb]) ∧ Only (fun k => (Value.slice pj kj cj).ownBlock = some k) w10.drew w10.drew) := Lib.hid ⟨⟨hWA ▸ HXD.out.blk, HP10.out.drew⟩, Only.refl _ _⟩
        have HJ0 : Hid ((w10.drew).ownsRow w0.heap.size 145 3 (.slice pj kj cj) kj (d.jobs.flatMap jrow) ∧ w0.heap.size ≤ (w10.drew).heap.size) := Lib.hid ⟨by have := HXD.out.jr; dsimp only at this; rw [← HKJ.out] at this; exact this, HXD.out.duo.bel.size⟩
        have HTY : Hid (∀ k, (Value.slice pj kj cj).ownBlock = some k → k ≠ g ∧ k ≠ pq) := Lib.hid (fun k hk => by obtain ⟨A, hA, _⟩ := owns_type HJ0.out.1 hk; exact ⟨fun e => by subst e; exact absurd (blk_ne hA HI0.out.1.1) (by decide), fun e => by subst e; exact absurd (blk_ne hA HI0.out.1.2) (by decide)⟩)
        clear hkj hWA
        go_upto_region 14 with fail
        -- region 14
        refine Reg.wp_rely 16 (fun w => (Blk w g 61 WA ∧ Blk w pq 24 #[.bool false, .int .u64 pi, .int .u64 ps, .string pb]) ∧ Only (fun k => (Value.slice pj kj cj).ownBlock = some k) w10.drew w) (by kernel_rfl) (Reg.relyOk_of (by kernel_rfl)) HI0.out (fun w w' h hI => ⟨⟨hI.1.1.below h, hI.1.2.below h⟩, Only.step hI.2 h⟩) ?_
        refine Reg.rely_plain (.pointer (some ⟨g, 0, none⟩)) rfl (fun a w hI hF => by
            have f1 : a.tmps.getD 0 undef = .pointer (some ⟨g, 0, none⟩) := hF 0 (Reg.looksB (by kernel_rfl))
            clear hF hI
            simp only [Array.getD_eq_getD_getElem?] at f1
            simp only [execOp]; go_simp) ?_
        refine Reg.rely_plain (.pointer (some ⟨g, 0, none⟩)) rfl (fun a w hI hF => by
            have f1 : a.tmps.getD 0 undef = .pointer (some ⟨g, 0, none⟩) := hF 0 (Reg.looksB (by kernel_rfl))
            clear hF hI
            simp only [Array.getD_eq_getD_getElem?] at f1
            simp only [execOp]; go_simp) ?_
        refine Reg.rely_plain (.pointer (some ⟨g, 0, none⟩)) rfl (fun a w hI hF => by
            have f1 : a.tmps.getD 90 undef = .pointer (some ⟨g, 0, none⟩) := hF 90 (Reg.looksB (by kernel_rfl))
            clear hF hI
            simp only [Array.getD_eq_getD_getElem?] at f1
            simp only [execOp]; go_simp) ?_
        refine Reg.rely_plain (.pointer (some ⟨g, 5, none⟩)) rfl (fun a w hI hF => by
            have f1 : a.tmps.getD 91 undef = .pointer (some ⟨g, 0, none⟩) := hF 91 (Reg.looksB (by kernel_rfl))
            clear hF hI
            simp only [Array.getD_eq_getD_getElem?] at f1
            simp only [execOp]; go_simp) ?_
        refine Reg.rely_plain (.slice pj kj cj) rfl (fun a w hI hF => by
            have f1 : a.tmps.getD 92 undef = .pointer (some ⟨g, 5, none⟩) := hF 92 (Reg.looksB (by kernel_rfl))
            have hc : w.cell? ⟨g, 5, none⟩ = some (.slice pj kj cj) := (hI.1.1.cell 5).trans HWA.out
            clear hF hI
            simp only [Array.getD_eq_getD_getElem?] at f1
            simp only [execOp]; go_simp) ?_
        refine Reg.rely_plain (.pointer (some ⟨pq, 1, none⟩)) rfl (fun a w hI hF => by
            have f1 : a.tmps.getD 4 undef = .pointer (some ⟨pq, 0, none⟩) := hF 4 (Reg.looksB (by kernel_rfl))
            clear hF hI
            simp only [Array.getD_eq_getD_getElem?] at f1
            simp only [execOp]; go_simp) ?_
        refine Reg.rely_plain (.int .u64 pi) rfl (fun a w hI hF => by
            have f1 : a.tmps.getD 94 undef = .pointer (some ⟨pq, 1, none⟩) := hF 94 (Reg.looksB (by kernel_rfl))
            have hc : w.cell? ⟨pq, 1, none⟩ = some (.int .u64 pi) := hI.1.2.cell 1
            clear hF hI
            simp only [Array.getD_eq_getD_getElem?] at f1
            simp only [execOp]; go_simp) ?_
        refine Reg.rely_plain (.pointer (some ⟨pq, 2, none⟩)) rfl (fun a w hI hF => by
            have f1 : a.tmps.getD 4 undef = .pointer (some ⟨pq, 0, none⟩) := hF 4 (Reg.looksB (by kernel_rfl))
            clear hF hI
            simp only [Array.getD_eq_getD_getElem?] at f1
            simp only [execOp]; go_simp) ?_
        refine Reg.rely_plain (.int .u64 ps) rfl (fun a w hI hF => by
            have f1 : a.tmps.getD 96 undef = .pointer (some ⟨pq, 2, none⟩) := hF 96 (Reg.looksB (by kernel_rfl))
            have hc : w.cell? ⟨pq, 2, none⟩ = some (.int .u64 ps) := hI.1.2.cell 2
            clear hF hI
            simp only [Array.getD_eq_getD_getElem?] at f1
            simp only [execOp]; go_simp) ?_
        refine Reg.rely_plain (.pointer (some ⟨pq, 3, none⟩)) rfl (fun a w hI hF => by
            have f1 : a.tmps.getD 4 undef = .pointer (some ⟨pq, 0, none⟩) := hF 4 (Reg.looksB (by kernel_rfl))
            clear hF hI
            simp only [Array.getD_eq_getD_getElem?] at f1
            simp only [execOp]; go_simp) ?_
        refine Reg.rely_plain (.string pb) rfl (fun a w hI hF => by
            have f1 : a.tmps.getD 98 undef = .pointer (some ⟨pq, 3, none⟩) := hF 98 (Reg.looksB (by kernel_rfl))
            have hc : w.cell? ⟨pq, 3, none⟩ = some (.string pb) := hI.1.2.cell 3
            clear hF hI
            simp only [Array.getD_eq_getD_getElem?] at f1
            simp only [execOp]; go_simp) ?_
        refine Reg.rely_plain (.agg #[.int .u64 pi, .int .u64 ps, .string pb]) rfl (fun a w hI hF => by
            have f1 : a.tmps.getD 95 undef = .int .u64 pi := hF 95 (Reg.looksB (by kernel_rfl))
            have f2 : a.tmps.getD 97 undef = .int .u64 ps := hF 97 (Reg.looksB (by kernel_rfl))
            have f3 : a.tmps.getD 99 undef = .string pb := hF 99 (Reg.looksB (by kernel_rfl))
            clear hF hI
            simp only [Array.getD_eq_getD_getElem?] at f1 f2 f3
            simp only [execOp]; go_simp) ?_
        refine Reg.rely_rel (fun v w => ∃ gl, v = .slice (some ⟨gl, 0, none⟩) 1 1 ∧ w10.drew.heap.size ≤ gl ∧ Blk w gl 145 #[.int .u64 pi, .int .u64 ps, .string pb]) (fun v w w' h hS => by obtain ⟨gl, h1, h2, h3⟩ := hS; exact ⟨gl, h1, h2, h3.below h⟩) (fun G hG => by cases hG) rfl (fun a w hI hF => ?_) ?_
        · have f1 : a.tmps.getD 100 undef = .agg #[.int .u64 pi, .int .u64 ps, .string pb] := hF 100 (Reg.looksB (by kernel_rfl))
          have hK := Lib.hid (Blk.new w 145 #[.int .u64 pi, .int .u64 ps, .string pb])
          have hQ := Lib.hid hI.2.size
          have hW := Lib.hid (show Reg.Grow w (w.alloc (.cells #[.int .u64 pi, .int .u64 ps, .string pb] 145)) from (Below.refl _ w).alloc (Nat.le_refl _) _)
          clear hF hI
          simp only [Array.getD_eq_getD_getElem?] at f1
          unfold Oper.wp
          simp only [execOp]
          go_simp
          exact ⟨_, rfl, ⟨_, rfl, hQ.out, hK.out⟩, hW.out⟩
        refine Reg.rely_turn (fun v w => w.ownsRow w0.heap.size 145 3 v (kj + 1) (d.jobs.flatMap jrow ++ #[.int .u64 pi, .int .u64 ps, .string pb].toList)) (fun w w' => Only (fun k => (Value.slice pj kj cj).ownBlock = some k) w w') (fun w => w.ownsRow w0.heap.size 145 3 (.slice pj kj cj) kj (d.jobs.flatMap jrow) ∧ w0.heap.size ≤ w.heap.size) (fun v w w' h hS => owns_below hS h) (fun G hG => by cases hG) (fun w w' h hI => ⟨⟨hI.1.1.only h (fun e => (HTY.out _ e).1 rfl), hI.1.2.only h (fun e => (HTY.out _ e).2 rfl)⟩, Only.trans hI.2 h⟩) ?_ rfl (fun w w' h hJ => ⟨owns_below hJ.1 h, Nat.le_trans hJ.2 h.size⟩) HJ0.out (fun G hG => by cases hG) (fun G hG => by cases hG) (fun a w hI hJ hF => ?_) ?_
        · intro p hp
          repeat (rcases List.mem_cons.1 hp with rfl | hp; first | exact Reg.stab_is _ _ | exact (fun v w w' h hS => by obtain ⟨gl, h1, h2, h3⟩ := hS; exact ⟨gl, h1, h2, h3.only h (fun e => by obtain ⟨_, _, _, hlt⟩ := owns_type HJ0.out.1 e; omega)⟩))
          cases hp
        · have f1 : a.tmps.getD 93 undef = .slice pj kj cj := hF 93 (Reg.looksB (by kernel_rfl))
          obtain ⟨gl, f2, hg1, hgl⟩ : ∃ gl, a.tmps.getD 101 undef = .slice (some ⟨gl, 0, none⟩) 1 1 ∧ w10.drew.heap.size ≤ gl ∧ Blk w gl 145 #[.int .u64 pi, .int .u64 ps, .string pb] := hF 101 (Reg.looksB (by kernel_rfl))
          exact apRun (t := 57) (sl := .tmp 93) (x := .tmp 101) rfl Try.underlying57 info_job rfl (by decide) (by decide) f1 f2 hgl (by simp [Value.oneCell']) rfl hJ.1 (by have := HL.out; have := HKJ.out; omega) hJ.2
        refine Reg.rely_plain (.pointer (some ⟨g, 0, none⟩)) rfl (fun a w hI hF => by
            have f1 : a.tmps.getD 89 undef = .pointer (some ⟨g, 0, none⟩) := hF 89 (Reg.looksB (by kernel_rfl))
            clear hF hI
            simp only [Array.getD_eq_getD_getElem?] at f1
            simp only [execOp]; go_simp) ?_
        refine Reg.rely_plain (.pointer (some ⟨g, 5, none⟩)) rfl (fun a w hI hF => by
            have f1 : a.tmps.getD 103 undef = .pointer (some ⟨g, 0, none⟩) := hF 103 (Reg.looksB (by kernel_rfl))
            clear hF hI
            simp only [Array.getD_eq_getD_getElem?] at f1
            simp only [execOp]; go_simp) ?_
        refine Reg.rely_nil ?_
        refine Reg.final_is ?_
        refine Reg.final_is ?_
        refine Reg.final_rel (fun v102 => ?_)
        refine Reg.final_rel (fun v101 => ?_)
        refine Reg.final_is ?_
        refine Reg.final_is ?_
        refine Reg.final_is ?_
        refine Reg.final_is ?_
        refine Reg.final_is ?_
        refine Reg.final_is ?_
        refine Reg.final_is ?_
        refine Reg.final_is ?_
        refine Reg.final_is ?_
        refine Reg.final_is ?_
        refine Reg.final_is ?_
        refine Reg.final_is ?_
        refine Reg.final_nil (fun w9 hF => ?_)
        -- region 14 ends
        obtain ⟨⟨hI9, hT9⟩, hL9⟩ := hF
        have hx6 := (HXD.out.jset (js := d.jobs ++ [(pi, ps, pb)]) (u := .slice pj kj cj) (fun k hk => by obtain ⟨A, hA, hl, _⟩ := owns_type HJ0.out.1 hk; exact ⟨A, hA, hl⟩) (by rw [List.length_append, List.flatMap_append, ← HKJ.out]; simpa [jrow] using hT9) hI9.2).2
        have d1 : w9.cell? ⟨g, 5, none⟩ = some (.slice pj kj cj) := (hI9.1.1.cell 5).trans HWA.out
        have f1 := hI9.1.1.frozen 5
        obtain ⟨p6, c6, rfl⟩ := owns_slice hT9
        clear hI9 hL9 hT9
        have HX6 := Lib.hid hx6
        clear hx6
        simp only [List.drop_succ_cons, List.drop_zero]
        go_simp
        go_wp2_with fail
        refine Reg.fin (by kernel_rfl) ?_
        go_wp2_with fail
        (try simp only [Exit.inBlock, Exit.then])
        go_end0
        exact ⟨rfl, by rw [HCW.out]; exact ⟨_, _, _, _, _, _, _, _, _, _, _, _, _, _, _, HX6.out.mono (by omega)⟩⟩
      · have hin' : (pi == d.inc) = false := by simpa using hin
        rw [if_neg hin] at HCW
        clear hn' hin
        go_upto_region 11 with fail
        go_region
        have HX8 := Lib.hid (HX7.out.below (Below.refl _ w7).drew)
        have HP8 := Lib.hid (HP7.out.drew)
        clear HX7 HP7 z1 c2 hin'
        generalize w7.drew = w8 at *
        obtain ⟨pj, cj, hvj⟩ := owns_slice HX8.out.jr
        subst hvj
        obtain ⟨kj, hkj⟩ : ∃ kj, kj = d.jobs.length := ⟨_, rfl⟩
        have HKJ := Lib.hid hkj
        have HXD : Hid (OW w0 w8.drew g b h cx hx' bd bo B Bp' Mp' { d with d := rs } vd vo vw (.slice pj kj cj) ha hd' (N + 2) true) := Lib.hid (by have := HX8.out.below (Below.refl _ w8).drew; rw [HKJ.out]; exact this)
        obtain ⟨WA, hWA⟩ : ∃ WA, WA = wcells b cx { d with d := rs } vw (.slice pj kj cj) ha hd' true := ⟨_, rfl⟩
        have HWA : Hid (WA[5]? = some (.slice pj kj cj)) := Lib.hid (by rw [hWA]; rfl)
        have HI0 : Hid ((Blk w8.drew g 61 WA ∧ Blk w8.drew pq 24 #[.bool false, .int .u64 pi, .int .u64 ps, .string pb]) ∧ Only (fun k => (Value.slice pj kj cj).ownBlock = some k) w8.drew w8.drew) := Lib.hid ⟨⟨hWA ▸ HXD.out.blk, HP8.out.drew⟩, Only.refl _ _⟩
        have HJ0 : Hid ((w8.drew).ownsRow w0.heap.size 145 3 (.slice pj kj cj) kj (d.jobs.flatMap jrow) ∧ w0.heap.size ≤ (w8.drew).heap.size) := Lib.hid ⟨by have := HXD.out.jr; dsimp only at this; rw [← HKJ.out] at this; exact this, HXD.out.duo.bel.size⟩
        have HTY : Hid (∀ k, (Value.slice pj kj cj).ownBlock = some k → k ≠ g ∧ k ≠ pq) := Lib.hid (fun k hk => by obtain ⟨A, hA, _⟩ := owns_type HJ0.out.1 hk; exact ⟨fun e => by subst e; exact absurd (blk_ne hA HI0.out.1.1) (by decide), fun e => by subst e; exact absurd (blk_ne hA HI0.out.1.2) (by decide)⟩)
        clear hkj hWA
        go_upto_region 14 with fail
        -- region 14
        refine Reg.wp_rely 16 (fun w => (Blk w g 61 WA ∧ Blk w pq 24 #[.bool false, .int .u64 pi, .int .u64 ps, .string pb]) ∧ Only (fun k => (Value.slice pj kj cj).ownBlock = some k) w8.drew w) (by kernel_rfl) (Reg.relyOk_of (by kernel_rfl)) HI0.out (fun w w' h hI => ⟨⟨hI.1.1.below h, hI.1.2.below h⟩, Only.step hI.2 h⟩) ?_
        refine Reg.rely_plain (.pointer (some ⟨g, 0, none⟩)) rfl (fun a w hI hF => by
            have f1 : a.tmps.getD 0 undef = .pointer (some ⟨g, 0, none⟩) := hF 0 (Reg.looksB (by kernel_rfl))
            clear hF hI
            simp only [Array.getD_eq_getD_getElem?] at f1
            simp only [execOp]; go_simp) ?_
        refine Reg.rely_plain (.pointer (some ⟨g, 0, none⟩)) rfl (fun a w hI hF => by
            have f1 : a.tmps.getD 0 undef = .pointer (some ⟨g, 0, none⟩) := hF 0 (Reg.looksB (by kernel_rfl))
            clear hF hI
            simp only [Array.getD_eq_getD_getElem?] at f1
            simp only [execOp]; go_simp) ?_
        refine Reg.rely_plain (.pointer (some ⟨g, 0, none⟩)) rfl (fun a w hI hF => by
            have f1 : a.tmps.getD 90 undef = .pointer (some ⟨g, 0, none⟩) := hF 90 (Reg.looksB (by kernel_rfl))
            clear hF hI
            simp only [Array.getD_eq_getD_getElem?] at f1
            simp only [execOp]; go_simp) ?_
        refine Reg.rely_plain (.pointer (some ⟨g, 5, none⟩)) rfl (fun a w hI hF => by
            have f1 : a.tmps.getD 91 undef = .pointer (some ⟨g, 0, none⟩) := hF 91 (Reg.looksB (by kernel_rfl))
            clear hF hI
            simp only [Array.getD_eq_getD_getElem?] at f1
            simp only [execOp]; go_simp) ?_
        refine Reg.rely_plain (.slice pj kj cj) rfl (fun a w hI hF => by
            have f1 : a.tmps.getD 92 undef = .pointer (some ⟨g, 5, none⟩) := hF 92 (Reg.looksB (by kernel_rfl))
            have hc : w.cell? ⟨g, 5, none⟩ = some (.slice pj kj cj) := (hI.1.1.cell 5).trans HWA.out
            clear hF hI
            simp only [Array.getD_eq_getD_getElem?] at f1
            simp only [execOp]; go_simp) ?_
        refine Reg.rely_plain (.pointer (some ⟨pq, 1, none⟩)) rfl (fun a w hI hF => by
            have f1 : a.tmps.getD 4 undef = .pointer (some ⟨pq, 0, none⟩) := hF 4 (Reg.looksB (by kernel_rfl))
            clear hF hI
            simp only [Array.getD_eq_getD_getElem?] at f1
            simp only [execOp]; go_simp) ?_
        refine Reg.rely_plain (.int .u64 pi) rfl (fun a w hI hF => by
            have f1 : a.tmps.getD 94 undef = .pointer (some ⟨pq, 1, none⟩) := hF 94 (Reg.looksB (by kernel_rfl))
            have hc : w.cell? ⟨pq, 1, none⟩ = some (.int .u64 pi) := hI.1.2.cell 1
            clear hF hI
            simp only [Array.getD_eq_getD_getElem?] at f1
            simp only [execOp]; go_simp) ?_
        refine Reg.rely_plain (.pointer (some ⟨pq, 2, none⟩)) rfl (fun a w hI hF => by
            have f1 : a.tmps.getD 4 undef = .pointer (some ⟨pq, 0, none⟩) := hF 4 (Reg.looksB (by kernel_rfl))
            clear hF hI
            simp only [Array.getD_eq_getD_getElem?] at f1
            simp only [execOp]; go_simp) ?_
        refine Reg.rely_plain (.int .u64 ps) rfl (fun a w hI hF => by
            have f1 : a.tmps.getD 96 undef = .pointer (some ⟨pq, 2, none⟩) := hF 96 (Reg.looksB (by kernel_rfl))
            have hc : w.cell? ⟨pq, 2, none⟩ = some (.int .u64 ps) := hI.1.2.cell 2
            clear hF hI
            simp only [Array.getD_eq_getD_getElem?] at f1
            simp only [execOp]; go_simp) ?_
        refine Reg.rely_plain (.pointer (some ⟨pq, 3, none⟩)) rfl (fun a w hI hF => by
            have f1 : a.tmps.getD 4 undef = .pointer (some ⟨pq, 0, none⟩) := hF 4 (Reg.looksB (by kernel_rfl))
            clear hF hI
            simp only [Array.getD_eq_getD_getElem?] at f1
            simp only [execOp]; go_simp) ?_
        refine Reg.rely_plain (.string pb) rfl (fun a w hI hF => by
            have f1 : a.tmps.getD 98 undef = .pointer (some ⟨pq, 3, none⟩) := hF 98 (Reg.looksB (by kernel_rfl))
            have hc : w.cell? ⟨pq, 3, none⟩ = some (.string pb) := hI.1.2.cell 3
            clear hF hI
            simp only [Array.getD_eq_getD_getElem?] at f1
            simp only [execOp]; go_simp) ?_
        refine Reg.rely_plain (.agg #[.int .u64 pi, .int .u64 ps, .string pb]) rfl (fun a w hI hF => by
            have f1 : a.tmps.getD 95 undef = .int .u64 pi := hF 95 (Reg.looksB (by kernel_rfl))
            have f2 : a.tmps.getD 97 undef = .int .u64 ps := hF 97 (Reg.looksB (by kernel_rfl))
            have f3 : a.tmps.getD 99 undef = .string pb := hF 99 (Reg.looksB (by kernel_rfl))
            clear hF hI
            simp only [Array.getD_eq_getD_getElem?] at f1 f2 f3
            simp only [execOp]; go_simp) ?_
        refine Reg.rely_rel (fun v w => ∃ gl, v = .slice (some ⟨gl, 0, none⟩) 1 1 ∧ w8.drew.heap.size ≤ gl ∧ Blk w gl 145 #[.int .u64 pi, .int .u64 ps, .string pb]) (fun v w w' h hS => by obtain ⟨gl, h1, h2, h3⟩ := hS; exact ⟨gl, h1, h2, h3.below h⟩) (fun G hG => by cases hG) rfl (fun a w hI hF => ?_) ?_
        · have f1 : a.tmps.getD 100 undef = .agg #[.int .u64 pi, .int .u64 ps, .string pb] := hF 100 (Reg.looksB (by kernel_rfl))
          have hK := Lib.hid (Blk.new w 145 #[.int .u64 pi, .int .u64 ps, .string pb])
          have hQ := Lib.hid hI.2.size
          have hW := Lib.hid (show Reg.Grow w (w.alloc (.cells #[.int .u64 pi, .int .u64 ps, .string pb] 145)) from (Below.refl _ w).alloc (Nat.le_refl _) _)
          clear hF hI
          simp only [Array.getD_eq_getD_getElem?] at f1
          unfold Oper.wp
          simp only [execOp]
          go_simp
          exact ⟨_, rfl, ⟨_, rfl, hQ.out, hK.out⟩, hW.out⟩
        refine Reg.rely_turn (fun v w => w.ownsRow w0.heap.size 145 3 v (kj + 1) (d.jobs.flatMap jrow ++ #[.int .u64 pi, .int .u64 ps, .string pb].toList)) (fun w w' => Only (fun k => (Value.slice pj kj cj).ownBlock = some k) w w') (fun w => w.ownsRow w0.heap.size 145 3 (.slice pj kj cj) kj (d.jobs.flatMap jrow) ∧ w0.heap.size ≤ w.heap.size) (fun v w w' h hS => owns_below hS h) (fun G hG => by cases hG) (fun w w' h hI => ⟨⟨hI.1.1.only h (fun e => (HTY.out _ e).1 rfl), hI.1.2.only h (fun e => (HTY.out _ e).2 rfl)⟩, Only.trans hI.2 h⟩) ?_ rfl (fun w w' h hJ => ⟨owns_below hJ.1 h, Nat.le_trans hJ.2 h.size⟩) HJ0.out (fun G hG => by cases hG) (fun G hG => by cases hG) (fun a w hI hJ hF => ?_) ?_
        · intro p hp
          repeat (rcases List.mem_cons.1 hp with rfl | hp; first | exact Reg.stab_is _ _ | exact (fun v w w' h hS => by obtain ⟨gl, h1, h2, h3⟩ := hS; exact ⟨gl, h1, h2, h3.only h (fun e => by obtain ⟨_, _, _, hlt⟩ := owns_type HJ0.out.1 e; omega)⟩))
          cases hp
        · have f1 : a.tmps.getD 93 undef = .slice pj kj cj := hF 93 (Reg.looksB (by kernel_rfl))
          obtain ⟨gl, f2, hg1, hgl⟩ : ∃ gl, a.tmps.getD 101 undef = .slice (some ⟨gl, 0, none⟩) 1 1 ∧ w8.drew.heap.size ≤ gl ∧ Blk w gl 145 #[.int .u64 pi, .int .u64 ps, .string pb] := hF 101 (Reg.looksB (by kernel_rfl))
          exact apRun (t := 57) (sl := .tmp 93) (x := .tmp 101) rfl Try.underlying57 info_job rfl (by decide) (by decide) f1 f2 hgl (by simp [Value.oneCell']) rfl hJ.1 (by have := HL.out; have := HKJ.out; omega) hJ.2
        refine Reg.rely_plain (.pointer (some ⟨g, 0, none⟩)) rfl (fun a w hI hF => by
            have f1 : a.tmps.getD 89 undef = .pointer (some ⟨g, 0, none⟩) := hF 89 (Reg.looksB (by kernel_rfl))
            clear hF hI
            simp only [Array.getD_eq_getD_getElem?] at f1
            simp only [execOp]; go_simp) ?_
        refine Reg.rely_plain (.pointer (some ⟨g, 5, none⟩)) rfl (fun a w hI hF => by
            have f1 : a.tmps.getD 103 undef = .pointer (some ⟨g, 0, none⟩) := hF 103 (Reg.looksB (by kernel_rfl))
            clear hF hI
            simp only [Array.getD_eq_getD_getElem?] at f1
            simp only [execOp]; go_simp) ?_
        refine Reg.rely_nil ?_
        refine Reg.final_is ?_
        refine Reg.final_is ?_
        refine Reg.final_rel (fun v102 => ?_)
        refine Reg.final_rel (fun v101 => ?_)
        refine Reg.final_is ?_
        refine Reg.final_is ?_
        refine Reg.final_is ?_
        refine Reg.final_is ?_
        refine Reg.final_is ?_
        refine Reg.final_is ?_
        refine Reg.final_is ?_
        refine Reg.final_is ?_
        refine Reg.final_is ?_
        refine Reg.final_is ?_
        refine Reg.final_is ?_
        refine Reg.final_is ?_
        refine Reg.final_nil (fun w9 hF => ?_)
        -- region 14 ends
        obtain ⟨⟨hI9, hT9⟩, hL9⟩ := hF
        have hx6 := (HXD.out.jset (js := d.jobs ++ [(pi, ps, pb)]) (u := .slice pj kj cj) (fun k hk => by obtain ⟨A, hA, hl, _⟩ := owns_type HJ0.out.1 hk; exact ⟨A, hA, hl⟩) (by rw [List.length_append, List.flatMap_append, ← HKJ.out]; simpa [jrow] using hT9) hI9.2).2
        have d1 : w9.cell? ⟨g, 5, none⟩ = some (.slice pj kj cj) := (hI9.1.1.cell 5).trans HWA.out
        have f1 := hI9.1.1.frozen 5
        obtain ⟨p6, c6, rfl⟩ := owns_slice hT9
        clear hI9 hL9 hT9
        have HX6 := Lib.hid hx6
        clear hx6
        simp only [List.drop_succ_cons, List.drop_zero]
        go_simp
        go_wp2_with fail
        refine Reg.fin (by kernel_rfl) ?_
        go_wp2_with fail
        (try simp only [Exit.inBlock, Exit.then])
        go_end0
        exact ⟨rfl, by rw [HCW.out]; exact ⟨_, _, _, _, _, _, _, _, _, _, _, _, _, _, _, HX6.out.mono (by omega)⟩⟩
end Go.Proofs.Ytgdgonmhgpflcaa
