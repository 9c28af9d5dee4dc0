/- What a reader answers to any calls: the law's walk. No condition. -/
import Derived.Test.YtppkfpphefonoaaWireT
import Derived.Deep.CutBlock
namespace Go.Proofs.Ytppkfpphefonoaa
open Go.RowKit Wire
set_option linter.unusedVariables false
set_option maxRecDepth 100000 in
set_option maxHeartbeats 4000000 in
theorem wreads_run (W : World) (s0 : ByteArray) {n : Nat} {ax : Nat → AskV} {v : Value} (hv : Asks W v n ax) (hs : s0.size ≤ 4096) (hn : n ≤ 200) :
    Calls Try.prog 9 #[.string s0, v] W fun e w' => e = .returned (.bool true) ∧ Below W.heap.size W w' := by
  obtain ⟨p, cap, rfl, hS⟩ := hv
  have HS := Lib.hid hS
  clear hS
  have HW := Lib.hid (wnew_any s0 (by unfold maxLen; omega) W)
  go_enter Try.func9, Try.ntmps9
  go_wp2_with (go_at_call 35; ((with_reducible refine HW.out.mono ?_); rintro e w1 ⟨rfl, h0, b1⟩; have H0 := Lib.hid h0; clear h0))
  have hB0 : Both2 W (w1.alloc (.cells #[.string s0, .int .i64 0] 82)) W.heap.size w1.heap.size s0 0 :=
    ⟨H0.out.alloc _, ⟨Blk.new w1 _ _, H0.out.sz⟩, b1.alloc b1.size _, by have := H0.out.blk.lt; omega, Nat.le_refl _, b1.size⟩
  go_loopw [7] (fun u wr => RdRel W W.heap.size w1.heap.size n u wr) (fun u _ => ((n : Int) - intOf u).toNat)
  case atStart => exact ⟨0, s0, 0, by omega, rfl, hB0⟩
  case round =>
    obtain ⟨k, s, e, hk1, rfl, hB⟩ := hrel
    by_cases hk : k < n
    · obtain ⟨g, off, rfl, hg, hx⟩ := HS.out (by omega)
      obtain ⟨hx, hok⟩ := hx k hk
      generalize ax k = a at hx hok
      obtain ⟨d, most, lo, hi, nn, ofv, m, xs⟩ := a
      have hof := hok.of
      have hin := hok.n
      have hd0 : 0 ≤ d := hok.d0
      have hd1 : d < 256 := hok.d1
      have hof' : Slic W ofv m fun j => .int .u64 (xs j) := hof
      have HOF := Lib.hid hof'
      obtain ⟨p2, cap2, rfl, _⟩ := hof'
      have x0 : wr.cell? ⟨g, off + k * 6, none⟩ = some (.int .u8 d) := by rw [hB.bel.cell hg]; exact hx 0 (by omega)
      have x1 : wr.cell? ⟨g, off + k * 6 + 1, none⟩ = some (.int .u64 most) := by rw [hB.bel.cell hg]; exact hx 1 (by omega)
      have x2 : wr.cell? ⟨g, off + k * 6 + 2, none⟩ = some (.int .i64 lo) := by rw [hB.bel.cell hg]; exact hx 2 (by omega)
      have x3 : wr.cell? ⟨g, off + k * 6 + 3, none⟩ = some (.int .i64 hi) := by rw [hB.bel.cell hg]; exact hx 3 (by omega)
      have x4 : wr.cell? ⟨g, off + k * 6 + 4, none⟩ = some (.int .i64 nn) := by rw [hB.bel.cell hg]; exact hx 4 (by omega)
      have x5 : wr.cell? ⟨g, off + k * 6 + 5, none⟩ = some (.slice p2 m cap2) := by rw [hB.bel.cell hg]; exact hx 5 (by omega)
      have HB := Lib.hid hB
      have HIN : I64 nn := hin
      clear hB hx hof hok hin
      by_cases hm : m ≤ 40
      · go_upto_block 2 with fail
        have hT := Blk.new wr 84 #[.int .u8 d, .int .u64 most, .int .i64 lo, .int .i64 hi, .int .i64 nn, .slice p2 m cap2]
        have hB1 := HB.out.alloc (.cells #[.int .u8 d, .int .u64 most, .int .i64 lo, .int .i64 hi, .int .i64 nn, .slice p2 m cap2] 84)
        have htn : ¬ wr.heap.size = W.heap.size ∧ ¬ wr.heap.size = w1.heap.size := ⟨by have := HB.out.p.blk.lt; omega, by have := HB.out.r.blk.lt; omega⟩
        have HTn := Lib.hid htn
        have HT2 := Lib.hid hT
        have HB2 := Lib.hid hB1
        clear hT hB1 htn HS x0 x1 x2 x3 x4 x5
        generalize wr.alloc (.cells #[.int .u8 d, .int .u64 most, .int .i64 lo, .int .i64 hi, .int .i64 nn, .slice p2 m cap2] 84) = wt at *
        generalize wr.heap.size = t at *
        generalize d % 7 = q
        go_cut [9] (fun f wc => f = .bool true ∧ ∃ s' e', Both2 W wc W.heap.size w1.heap.size s' e')
        case rest => as_aux_lemma =>
          obtain ⟨rfl, s', e', hB3⟩ := hcut
          have HB3 := Lib.hid hB3
          have d0 := hB3.r.c0
          have d1 := hB3.r.c1
          have HE := Lib.hid (fun (n : Nat) => perr_any (HB3.out.drewN n).p)
          have HL := Lib.hid (fun (n : Nat) => pleft_any (HB3.out.drewN n).p)
          clear hB3
          go_wp2_with fail
          go_quiet (first | (go_at_call 40; exact Calls.quiet_of_same ((HE.out _).mono fun e w' h => ⟨h.1, h.2.symm⟩)) | (go_at_call 51; exact Calls.quiet_of_same ((HL.out _).mono fun e w' h => ⟨h.1, h.2.symm⟩)))
          go_wp2_with fail
          go_roundw
          case rel => exact ⟨k + 1, s', e', by omega, rfl, HB3.out.drewN _⟩
          case measure => simp [intOf]; omega
        have t0 : wt.cell? ⟨t, 0, none⟩ = some (.int .u8 d) := HT2.out.cell 0
        by_cases q0 : q = 0
        · as_aux_lemma =>
          have r1 : (q == 1) = false := by simp [q0]
          have r2 : (q == 2) = false := by simp [q0]
          have r3 : (q == 3) = false := by simp [q0]
          have r4 : (q == 4) = false := by simp [q0]
          have r5 : (q == 5) = false := by simp [q0]
          have r6 : (q == 6) = false := by simp [q0]
          have r0 : (q == 0) = true := by simp [q0]
          clear q0
          go_upto_region 14 with fail
          refine Reg.wp_rely 8 (fun w => Blk w t 84 #[.int .u8 d, .int .u64 most, .int .i64 lo, .int .i64 hi, .int .i64 nn, .slice p2 m cap2] ∧ Below W.heap.size W w) (by kernel_rfl) (by kernel_rfl) ⟨HT2.out.drew, HB2.out.bel.drew⟩ (fun w w' h hI => ⟨hI.1.below h, hI.2.trans (h.mono hI.2.size)⟩) ?_
          refine Reg.rely_move 5 (.pointer (some ⟨W.heap.size, 0, none⟩)) rfl rfl (fun v w h => h) ?_
          refine Reg.rely_one 8 (.pointer (some ⟨t, 0, none⟩)) (.pointer (some ⟨t, 1, none⟩)) rfl rfl (fun v w h => h) (fun ρ w h hI => by simp only [execOp, h]; go_simp) ?_
          refine Reg.rely_one 45 (.pointer (some ⟨t, 1, none⟩)) (.int .u64 most) rfl rfl (fun v w h => h) (fun ρ w h hI => by have hc := (show w.cell? ⟨t, 1, none⟩ = some (.int .u64 most) from hI.1.cell 1); clear hI; simp only [execOp, h]; go_simp) ?_
          refine Reg.rely_call (fun v w' => v = .int .u64 (numV s e (uC s most)) ∧ PR w' W.heap.size (numS s e (uC s most)) (numE s e (uC s most))) (fun w w' => Only (· = W.heap.size) w w') (fun w => PR w W.heap.size s e)
            (fun v w w' h hS => ⟨hS.1, hS.2.below h⟩)
            (fun G hG => by cases hG)
            (fun w w' h hI => ⟨hI.1.only h HTn.out.1, bonly hI.2 h HB2.out.hb⟩)
            (fun p hp => by simp only [List.mem_cons, List.mem_nil_iff, or_false] at hp; rcases hp with rfl | rfl | rfl <;> exact Reg.stab_is _ _)
            rfl (fun w w' h hJ => hJ.below h) HB2.out.p.drew
            (fun G hG => by cases hG) (fun J hJ => by cases hJ)
            36 #[.pointer (some ⟨W.heap.size, 0, none⟩), .int .u64 most] (fun a w hI hF => by
              have f1 : a.tmps.getD 44 undef = .pointer (some ⟨W.heap.size, 0, none⟩) := hF 44 (Reg.looksB (by kernel_rfl))
              have f2 : a.tmps.getD 46 undef = .int .u64 most := hF 46 (Reg.looksB (by kernel_rfl))
              clear hF hI
              simp only [Array.getD_eq_getD_getElem?] at f1 f2
              simp only [execOp]; go_simp)
            (fun w hI hJ => (puint_any hJ most).mono fun e w' h => ⟨_, h.1, ⟨rfl, h.2.1⟩, h.2.2⟩) ?_
          refine Reg.rely_move 6 (.pointer (some ⟨w1.heap.size, 0, none⟩)) rfl rfl (fun v w h => h) ?_
          refine Reg.rely_one 8 (.pointer (some ⟨t, 0, none⟩)) (.pointer (some ⟨t, 1, none⟩)) rfl rfl (fun v w h => h) (fun ρ w h hI => by simp only [execOp, h]; go_simp) ?_
          refine Reg.rely_one 49 (.pointer (some ⟨t, 1, none⟩)) (.int .u64 most) rfl rfl (fun v w h => h) (fun ρ w h hI => by have hc := (show w.cell? ⟨t, 1, none⟩ = some (.int .u64 most) from hI.1.cell 1); clear hI; simp only [execOp, h]; go_simp) ?_
          refine Reg.rely_call (fun v w' => v = .int .u64 (numV s e (uC s most)) ∧ RR w' w1.heap.size (numS s e (uC s most)) (numE s e (uC s most))) (fun w w' => Only (· = w1.heap.size) w w') (fun w => RR w w1.heap.size s e)
            (fun v w w' h hS => ⟨hS.1, hS.2.below h⟩)
            (fun G hG => by simp only [List.mem_singleton] at hG; subst hG; exact fun v w w' h hS => ⟨hS.1, hS.2.only h (fun e => HB2.out.ne e.symm)⟩)
            (fun w w' h hI => ⟨hI.1.only h HTn.out.2, bonly hI.2 h HB2.out.hc⟩)
            (fun p hp => by simp only [List.mem_cons, List.mem_nil_iff, or_false] at hp; rcases hp with rfl | rfl | rfl | rfl | rfl | rfl | rfl <;> first | exact Reg.stab_is _ _ | exact fun v w w' h hS => ⟨hS.1, hS.2.only h HB2.out.ne⟩)
            rfl (fun w w' h hJ => hJ.below h) HB2.out.r.drew
            (fun G hG => by simp only [List.mem_singleton] at hG; subst hG; exact fun w w' h hJ => hJ.only h (fun e => HB2.out.ne e.symm)) (fun J hJ => by simp only [List.mem_singleton] at hJ; subst hJ; exact fun w w' h hJ => hJ.only h HB2.out.ne)
            41 #[.pointer (some ⟨w1.heap.size, 0, none⟩), .int .u64 most] (fun a w hI hF => by
              have f1 : a.tmps.getD 48 undef = .pointer (some ⟨w1.heap.size, 0, none⟩) := hF 48 (Reg.looksB (by kernel_rfl))
              have f2 : a.tmps.getD 50 undef = .int .u64 most := hF 50 (Reg.looksB (by kernel_rfl))
              clear hF hI
              simp only [Array.getD_eq_getD_getElem?] at f1 f2
              simp only [execOp]; go_simp)
            (fun w hI hJ => (ruintm_any hJ most).mono fun e w' h => ⟨_, h.1, ⟨rfl, h.2.1⟩, h.2.2⟩) ?_
          refine Reg.rely_nil ?_
          refine Reg.final_rel (fun v1 => ?_)
          refine Reg.final_is ?_
          refine Reg.final_is ?_
          refine Reg.final_is ?_
          refine Reg.final_rel (fun v2 => ?_)
          refine Reg.final_is ?_
          refine Reg.final_is ?_
          refine Reg.final_is ?_
          refine Reg.final_nil (fun w2 hF => ?_)
          obtain ⟨⟨⟨hb2, hbel⟩, rfl, hr2⟩, rfl, hp2⟩ := hF
          have HB3 : Hid (Both2 W w2 W.heap.size w1.heap.size (numS s e (uC s most)) (numE s e (uC s most))) := Lib.hid ⟨hp2, hr2, hbel, HB2.out.ne, HB2.out.hb, HB2.out.hc⟩
          clear hp2 hr2 hb2 hbel
          generalize numV s e (uC s most) = xv at *
          simp only [List.drop_succ_cons, List.drop_zero]
          go_simp
          go_wp2_with fail
          refine Reg.fin (by kernel_rfl) ?_
          go_wp2_with fail
          go_meet
          exact ⟨rfl, _, _, HB3.out⟩
        have r0 : (q == 0) = false := by simp [q0]
        clear q0
        by_cases q1 : q = 1
        · as_aux_lemma =>
          have r2 : (q == 2) = false := by simp [q1]
          have r3 : (q == 3) = false := by simp [q1]
          have r4 : (q == 4) = false := by simp [q1]
          have r5 : (q == 5) = false := by simp [q1]
          have r6 : (q == 6) = false := by simp [q1]
          have r1 : (q == 1) = true := by simp [q1]
          clear q1
          go_upto_region 16 with fail
          refine Reg.wp_rely 12 (fun w => Blk w t 84 #[.int .u8 d, .int .u64 most, .int .i64 lo, .int .i64 hi, .int .i64 nn, .slice p2 m cap2] ∧ Below W.heap.size W w) (by kernel_rfl) (by kernel_rfl) ⟨HT2.out.drew, HB2.out.bel.drew⟩ (fun w w' h hI => ⟨hI.1.below h, hI.2.trans (h.mono hI.2.size)⟩) ?_
          refine Reg.rely_move 5 (.pointer (some ⟨W.heap.size, 0, none⟩)) rfl rfl (fun v w h => h) ?_
          refine Reg.rely_one 8 (.pointer (some ⟨t, 0, none⟩)) (.pointer (some ⟨t, 2, none⟩)) rfl rfl (fun v w h => h) (fun ρ w h hI => by simp only [execOp, h]; go_simp) ?_
          refine Reg.rely_one 56 (.pointer (some ⟨t, 2, none⟩)) (.int .i64 lo) rfl rfl (fun v w h => h) (fun ρ w h hI => by have hc := (show w.cell? ⟨t, 2, none⟩ = some (.int .i64 lo) from hI.1.cell 2); clear hI; simp only [execOp, h]; go_simp) ?_
          refine Reg.rely_one 8 (.pointer (some ⟨t, 0, none⟩)) (.pointer (some ⟨t, 3, none⟩)) rfl rfl (fun v w h => h) (fun ρ w h hI => by simp only [execOp, h]; go_simp) ?_
          refine Reg.rely_one 58 (.pointer (some ⟨t, 3, none⟩)) (.int .i64 hi) rfl rfl (fun v w h => h) (fun ρ w h hI => by have hc := (show w.cell? ⟨t, 3, none⟩ = some (.int .i64 hi) from hI.1.cell 3); clear hI; simp only [execOp, h]; go_simp) ?_
          refine Reg.rely_call (fun v w' => v = .int .i64 (Num.zag (numV s e (iC s lo hi))) ∧ PR w' W.heap.size (numS s e (iC s lo hi)) (numE s e (iC s lo hi))) (fun w w' => Only (· = W.heap.size) w w') (fun w => PR w W.heap.size s e)
            (fun v w w' h hS => ⟨hS.1, hS.2.below h⟩)
            (fun G hG => by cases hG)
            (fun w w' h hI => ⟨hI.1.only h HTn.out.1, bonly hI.2 h HB2.out.hb⟩)
            (fun p hp => by simp only [List.mem_cons, List.mem_nil_iff, or_false] at hp; rcases hp with rfl | rfl | rfl | rfl | rfl <;> exact Reg.stab_is _ _)
            rfl (fun w w' h hJ => hJ.below h) HB2.out.p.drew
            (fun G hG => by cases hG) (fun J hJ => by cases hJ)
            37 #[.pointer (some ⟨W.heap.size, 0, none⟩), .int .i64 lo, .int .i64 hi] (fun a w hI hF => by
              have f1 : a.tmps.getD 55 undef = .pointer (some ⟨W.heap.size, 0, none⟩) := hF 55 (Reg.looksB (by kernel_rfl))
              have f2 : a.tmps.getD 57 undef = .int .i64 lo := hF 57 (Reg.looksB (by kernel_rfl))
              have f3 : a.tmps.getD 59 undef = .int .i64 hi := hF 59 (Reg.looksB (by kernel_rfl))
              clear hF hI
              simp only [Array.getD_eq_getD_getElem?] at f1 f2 f3
              simp only [execOp]; go_simp)
            (fun w hI hJ => (pint_any hJ lo hi).mono fun e w' h => ⟨_, h.1, ⟨rfl, h.2.1⟩, h.2.2⟩) ?_
          refine Reg.rely_move 6 (.pointer (some ⟨w1.heap.size, 0, none⟩)) rfl rfl (fun v w h => h) ?_
          refine Reg.rely_one 8 (.pointer (some ⟨t, 0, none⟩)) (.pointer (some ⟨t, 2, none⟩)) rfl rfl (fun v w h => h) (fun ρ w h hI => by simp only [execOp, h]; go_simp) ?_
          refine Reg.rely_one 62 (.pointer (some ⟨t, 2, none⟩)) (.int .i64 lo) rfl rfl (fun v w h => h) (fun ρ w h hI => by have hc := (show w.cell? ⟨t, 2, none⟩ = some (.int .i64 lo) from hI.1.cell 2); clear hI; simp only [execOp, h]; go_simp) ?_
          refine Reg.rely_one 8 (.pointer (some ⟨t, 0, none⟩)) (.pointer (some ⟨t, 3, none⟩)) rfl rfl (fun v w h => h) (fun ρ w h hI => by simp only [execOp, h]; go_simp) ?_
          refine Reg.rely_one 64 (.pointer (some ⟨t, 3, none⟩)) (.int .i64 hi) rfl rfl (fun v w h => h) (fun ρ w h hI => by have hc := (show w.cell? ⟨t, 3, none⟩ = some (.int .i64 hi) from hI.1.cell 3); clear hI; simp only [execOp, h]; go_simp) ?_
          refine Reg.rely_call (fun v w' => v = .int .i64 (Num.zag (numV s e (iC s lo hi))) ∧ RR w' w1.heap.size (numS s e (iC s lo hi)) (numE s e (iC s lo hi))) (fun w w' => Only (· = w1.heap.size) w w') (fun w => RR w w1.heap.size s e)
            (fun v w w' h hS => ⟨hS.1, hS.2.below h⟩)
            (fun G hG => by simp only [List.mem_singleton] at hG; subst hG; exact fun v w w' h hS => ⟨hS.1, hS.2.only h (fun e => HB2.out.ne e.symm)⟩)
            (fun w w' h hI => ⟨hI.1.only h HTn.out.2, bonly hI.2 h HB2.out.hc⟩)
            (fun p hp => by simp only [List.mem_cons, List.mem_nil_iff, or_false] at hp; rcases hp with rfl | rfl | rfl | rfl | rfl | rfl | rfl | rfl | rfl | rfl | rfl <;> first | exact Reg.stab_is _ _ | exact fun v w w' h hS => ⟨hS.1, hS.2.only h HB2.out.ne⟩)
            rfl (fun w w' h hJ => hJ.below h) HB2.out.r.drew
            (fun G hG => by simp only [List.mem_singleton] at hG; subst hG; exact fun w w' h hJ => hJ.only h (fun e => HB2.out.ne e.symm)) (fun J hJ => by simp only [List.mem_singleton] at hJ; subst hJ; exact fun w w' h hJ => hJ.only h HB2.out.ne)
            42 #[.pointer (some ⟨w1.heap.size, 0, none⟩), .int .i64 lo, .int .i64 hi] (fun a w hI hF => by
              have f1 : a.tmps.getD 61 undef = .pointer (some ⟨w1.heap.size, 0, none⟩) := hF 61 (Reg.looksB (by kernel_rfl))
              have f2 : a.tmps.getD 63 undef = .int .i64 lo := hF 63 (Reg.looksB (by kernel_rfl))
              have f3 : a.tmps.getD 65 undef = .int .i64 hi := hF 65 (Reg.looksB (by kernel_rfl))
              clear hF hI
              simp only [Array.getD_eq_getD_getElem?] at f1 f2 f3
              simp only [execOp]; go_simp)
            (fun w hI hJ => (rintm_any hJ lo hi).mono fun e w' h => ⟨_, h.1, ⟨rfl, h.2.1⟩, h.2.2⟩) ?_
          refine Reg.rely_nil ?_
          refine Reg.final_rel (fun v1 => ?_)
          refine Reg.final_is ?_
          refine Reg.final_is ?_
          refine Reg.final_is ?_
          refine Reg.final_is ?_
          refine Reg.final_is ?_
          refine Reg.final_rel (fun v2 => ?_)
          refine Reg.final_is ?_
          refine Reg.final_is ?_
          refine Reg.final_is ?_
          refine Reg.final_is ?_
          refine Reg.final_is ?_
          refine Reg.final_nil (fun w2 hF => ?_)
          obtain ⟨⟨⟨hb2, hbel⟩, rfl, hr2⟩, rfl, hp2⟩ := hF
          have HB3 : Hid (Both2 W w2 W.heap.size w1.heap.size (numS s e (iC s lo hi)) (numE s e (iC s lo hi))) := Lib.hid ⟨hp2, hr2, hbel, HB2.out.ne, HB2.out.hb, HB2.out.hc⟩
          clear hp2 hr2 hb2 hbel
          generalize Num.zag (numV s e (iC s lo hi)) = xv at *
          simp only [List.drop_succ_cons, List.drop_zero]
          go_simp
          go_wp2_with fail
          refine Reg.fin (by kernel_rfl) ?_
          go_wp2_with fail
          go_meet
          exact ⟨rfl, _, _, HB3.out⟩
        have r1 : (q == 1) = false := by simp [q1]
        clear q1
        by_cases q2 : q = 2
        · as_aux_lemma =>
          have r3 : (q == 3) = false := by simp [q2]
          have r4 : (q == 4) = false := by simp [q2]
          have r5 : (q == 5) = false := by simp [q2]
          have r6 : (q == 6) = false := by simp [q2]
          have r2 : (q == 2) = true := by simp [q2]
          clear q2
          go_upto_region 18 with fail
          refine Reg.wp_rely 8 (fun w => Blk w t 84 #[.int .u8 d, .int .u64 most, .int .i64 lo, .int .i64 hi, .int .i64 nn, .slice p2 m cap2] ∧ Below W.heap.size W w) (by kernel_rfl) (by kernel_rfl) ⟨HT2.out.drew, HB2.out.bel.drew⟩ (fun w w' h hI => ⟨hI.1.below h, hI.2.trans (h.mono hI.2.size)⟩) ?_
          refine Reg.rely_move 5 (.pointer (some ⟨W.heap.size, 0, none⟩)) rfl rfl (fun v w h => h) ?_
          refine Reg.rely_one 8 (.pointer (some ⟨t, 0, none⟩)) (.pointer (some ⟨t, 4, none⟩)) rfl rfl (fun v w h => h) (fun ρ w h hI => by simp only [execOp, h]; go_simp) ?_
          refine Reg.rely_one 71 (.pointer (some ⟨t, 4, none⟩)) (.int .i64 nn) rfl rfl (fun v w h => h) (fun ρ w h hI => by have hc := (show w.cell? ⟨t, 4, none⟩ = some (.int .i64 nn) from hI.1.cell 4); clear hI; simp only [execOp, h]; go_simp) ?_
          refine Reg.rely_call (fun v w' => v = .string (txV s e nn) ∧ PR w' W.heap.size (txS s e nn) (txE s e nn)) (fun w w' => Only (· = W.heap.size) w w') (fun w => PR w W.heap.size s e)
            (fun v w w' h hS => ⟨hS.1, hS.2.below h⟩)
            (fun G hG => by cases hG)
            (fun w w' h hI => ⟨hI.1.only h HTn.out.1, bonly hI.2 h HB2.out.hb⟩)
            (fun p hp => by simp only [List.mem_cons, List.mem_nil_iff, or_false] at hp; rcases hp with rfl | rfl | rfl <;> exact Reg.stab_is _ _)
            rfl (fun w w' h hJ => hJ.below h) HB2.out.p.drew
            (fun G hG => by cases hG) (fun J hJ => by cases hJ)
            38 #[.pointer (some ⟨W.heap.size, 0, none⟩), .int .i64 nn] (fun a w hI hF => by
              have f1 : a.tmps.getD 70 undef = .pointer (some ⟨W.heap.size, 0, none⟩) := hF 70 (Reg.looksB (by kernel_rfl))
              have f2 : a.tmps.getD 72 undef = .int .i64 nn := hF 72 (Reg.looksB (by kernel_rfl))
              clear hF hI
              simp only [Array.getD_eq_getD_getElem?] at f1 f2
              simp only [execOp]; go_simp)
            (fun w hI hJ => (ptext_any hJ nn HIN).mono fun e w' h => ⟨_, h.1, ⟨rfl, h.2.1⟩, h.2.2⟩) ?_
          refine Reg.rely_move 6 (.pointer (some ⟨w1.heap.size, 0, none⟩)) rfl rfl (fun v w h => h) ?_
          refine Reg.rely_one 8 (.pointer (some ⟨t, 0, none⟩)) (.pointer (some ⟨t, 4, none⟩)) rfl rfl (fun v w h => h) (fun ρ w h hI => by simp only [execOp, h]; go_simp) ?_
          refine Reg.rely_one 75 (.pointer (some ⟨t, 4, none⟩)) (.int .i64 nn) rfl rfl (fun v w h => h) (fun ρ w h hI => by have hc := (show w.cell? ⟨t, 4, none⟩ = some (.int .i64 nn) from hI.1.cell 4); clear hI; simp only [execOp, h]; go_simp) ?_
          refine Reg.rely_call (fun v w' => v = .string (txV s e nn) ∧ RR w' w1.heap.size (txS s e nn) (txE s e nn)) (fun w w' => Only (· = w1.heap.size) w w') (fun w => RR w w1.heap.size s e)
            (fun v w w' h hS => ⟨hS.1, hS.2.below h⟩)
            (fun G hG => by simp only [List.mem_singleton] at hG; subst hG; exact fun v w w' h hS => ⟨hS.1, hS.2.only h (fun e => HB2.out.ne e.symm)⟩)
            (fun w w' h hI => ⟨hI.1.only h HTn.out.2, bonly hI.2 h HB2.out.hc⟩)
            (fun p hp => by simp only [List.mem_cons, List.mem_nil_iff, or_false] at hp; rcases hp with rfl | rfl | rfl | rfl | rfl | rfl | rfl <;> first | exact Reg.stab_is _ _ | exact fun v w w' h hS => ⟨hS.1, hS.2.only h HB2.out.ne⟩)
            rfl (fun w w' h hJ => hJ.below h) HB2.out.r.drew
            (fun G hG => by simp only [List.mem_singleton] at hG; subst hG; exact fun w w' h hJ => hJ.only h (fun e => HB2.out.ne e.symm)) (fun J hJ => by simp only [List.mem_singleton] at hJ; subst hJ; exact fun w w' h hJ => hJ.only h HB2.out.ne)
            43 #[.pointer (some ⟨w1.heap.size, 0, none⟩), .int .i64 nn] (fun a w hI hF => by
              have f1 : a.tmps.getD 74 undef = .pointer (some ⟨w1.heap.size, 0, none⟩) := hF 74 (Reg.looksB (by kernel_rfl))
              have f2 : a.tmps.getD 76 undef = .int .i64 nn := hF 76 (Reg.looksB (by kernel_rfl))
              clear hF hI
              simp only [Array.getD_eq_getD_getElem?] at f1 f2
              simp only [execOp]; go_simp)
            (fun w hI hJ => (rtext_any hJ nn HIN).mono fun e w' h => ⟨_, h.1, ⟨rfl, h.2.1⟩, h.2.2⟩) ?_
          refine Reg.rely_nil ?_
          refine Reg.final_rel (fun v1 => ?_)
          refine Reg.final_is ?_
          refine Reg.final_is ?_
          refine Reg.final_is ?_
          refine Reg.final_rel (fun v2 => ?_)
          refine Reg.final_is ?_
          refine Reg.final_is ?_
          refine Reg.final_is ?_
          refine Reg.final_nil (fun w2 hF => ?_)
          obtain ⟨⟨⟨hb2, hbel⟩, rfl, hr2⟩, rfl, hp2⟩ := hF
          have HB3 : Hid (Both2 W w2 W.heap.size w1.heap.size (txS s e nn) (txE s e nn)) := Lib.hid ⟨hp2, hr2, hbel, HB2.out.ne, HB2.out.hb, HB2.out.hc⟩
          clear hp2 hr2 hb2 hbel
          generalize txV s e nn = xv at *
          simp only [List.drop_succ_cons, List.drop_zero]
          go_simp
          go_wp2_with fail
          refine Reg.fin (by kernel_rfl) ?_
          go_wp2_with fail
          go_meet
          exact ⟨rfl, _, _, HB3.out⟩
        have r2 : (q == 2) = false := by simp [q2]
        clear q2
        by_cases q3 : q = 3
        · as_aux_lemma =>
          have r4 : (q == 4) = false := by simp [q3]
          have r5 : (q == 5) = false := by simp [q3]
          have r6 : (q == 6) = false := by simp [q3]
          have r3 : (q == 3) = true := by simp [q3]
          clear q3
          go_wp2_with (first | (go_at_call 44; ((with_reducible refine (pbool_any HB2.out.p).mono ?_); rintro e w2 ⟨rfl, hp2, o2⟩; have HH := Lib.hid (HB2.out.turnP hp2 o2); clear hp2)) | (go_at_call 45; ((with_reducible refine (rbool_any HH.out.r).mono ?_); rintro e w3 ⟨rfl, hp3, o3⟩; have HB3 := Lib.hid (HH.out.turnR hp3 o3); clear hp3)))
          all_goals go_meet
          all_goals exact ⟨by simp, _, _, HB3.out⟩
        have r3 : (q == 3) = false := by simp [q3]
        clear q3
        by_cases q4 : q = 4
        · as_aux_lemma =>
          have r5 : (q == 5) = false := by simp [q4]
          have r6 : (q == 6) = false := by simp [q4]
          have r4 : (q == 4) = true := by simp [q4]
          clear q4
          go_upto_region 22 with fail
          refine Reg.wp_rely 8 (fun w => Blk w t 84 #[.int .u8 d, .int .u64 most, .int .i64 lo, .int .i64 hi, .int .i64 nn, .slice p2 m cap2] ∧ Below W.heap.size W w) (by kernel_rfl) (by kernel_rfl) ⟨HT2.out.drew, HB2.out.bel.drew⟩ (fun w w' h hI => ⟨hI.1.below h, hI.2.trans (h.mono hI.2.size)⟩) ?_
          refine Reg.rely_move 5 (.pointer (some ⟨W.heap.size, 0, none⟩)) rfl rfl (fun v w h => h) ?_
          refine Reg.rely_one 8 (.pointer (some ⟨t, 0, none⟩)) (.pointer (some ⟨t, 4, none⟩)) rfl rfl (fun v w h => h) (fun ρ w h hI => by simp only [execOp, h]; go_simp) ?_
          refine Reg.rely_one 89 (.pointer (some ⟨t, 4, none⟩)) (.int .i64 nn) rfl rfl (fun v w h => h) (fun ρ w h hI => by have hc := (show w.cell? ⟨t, 4, none⟩ = some (.int .i64 nn) from hI.1.cell 4); clear hI; simp only [execOp, h]; go_simp) ?_
          refine Reg.rely_call (fun v w' => v = .int .i64 (numV s e (cC s nn)) ∧ PR w' W.heap.size (numS s e (cC s nn)) (numE s e (cC s nn))) (fun w w' => Only (· = W.heap.size) w w') (fun w => PR w W.heap.size s e)
            (fun v w w' h hS => ⟨hS.1, hS.2.below h⟩)
            (fun G hG => by cases hG)
            (fun w w' h hI => ⟨hI.1.only h HTn.out.1, bonly hI.2 h HB2.out.hb⟩)
            (fun p hp => by simp only [List.mem_cons, List.mem_nil_iff, or_false] at hp; rcases hp with rfl | rfl | rfl <;> exact Reg.stab_is _ _)
            rfl (fun w w' h hJ => hJ.below h) HB2.out.p.drew
            (fun G hG => by cases hG) (fun J hJ => by cases hJ)
            46 #[.pointer (some ⟨W.heap.size, 0, none⟩), .int .i64 nn] (fun a w hI hF => by
              have f1 : a.tmps.getD 88 undef = .pointer (some ⟨W.heap.size, 0, none⟩) := hF 88 (Reg.looksB (by kernel_rfl))
              have f2 : a.tmps.getD 90 undef = .int .i64 nn := hF 90 (Reg.looksB (by kernel_rfl))
              clear hF hI
              simp only [Array.getD_eq_getD_getElem?] at f1 f2
              simp only [execOp]; go_simp)
            (fun w hI hJ => (pcount_any hJ nn HIN).mono fun e w' h => ⟨_, h.1, ⟨rfl, h.2.1⟩, h.2.2⟩) ?_
          refine Reg.rely_move 6 (.pointer (some ⟨w1.heap.size, 0, none⟩)) rfl rfl (fun v w h => h) ?_
          refine Reg.rely_one 8 (.pointer (some ⟨t, 0, none⟩)) (.pointer (some ⟨t, 4, none⟩)) rfl rfl (fun v w h => h) (fun ρ w h hI => by simp only [execOp, h]; go_simp) ?_
          refine Reg.rely_one 93 (.pointer (some ⟨t, 4, none⟩)) (.int .i64 nn) rfl rfl (fun v w h => h) (fun ρ w h hI => by have hc := (show w.cell? ⟨t, 4, none⟩ = some (.int .i64 nn) from hI.1.cell 4); clear hI; simp only [execOp, h]; go_simp) ?_
          refine Reg.rely_call (fun v w' => v = .int .i64 (numV s e (cC s nn)) ∧ RR w' w1.heap.size (numS s e (cC s nn)) (numE s e (cC s nn))) (fun w w' => Only (· = w1.heap.size) w w') (fun w => RR w w1.heap.size s e)
            (fun v w w' h hS => ⟨hS.1, hS.2.below h⟩)
            (fun G hG => by simp only [List.mem_singleton] at hG; subst hG; exact fun v w w' h hS => ⟨hS.1, hS.2.only h (fun e => HB2.out.ne e.symm)⟩)
            (fun w w' h hI => ⟨hI.1.only h HTn.out.2, bonly hI.2 h HB2.out.hc⟩)
            (fun p hp => by simp only [List.mem_cons, List.mem_nil_iff, or_false] at hp; rcases hp with rfl | rfl | rfl | rfl | rfl | rfl | rfl <;> first | exact Reg.stab_is _ _ | exact fun v w w' h hS => ⟨hS.1, hS.2.only h HB2.out.ne⟩)
            rfl (fun w w' h hJ => hJ.below h) HB2.out.r.drew
            (fun G hG => by simp only [List.mem_singleton] at hG; subst hG; exact fun w w' h hJ => hJ.only h (fun e => HB2.out.ne e.symm)) (fun J hJ => by simp only [List.mem_singleton] at hJ; subst hJ; exact fun w w' h hJ => hJ.only h HB2.out.ne)
            47 #[.pointer (some ⟨w1.heap.size, 0, none⟩), .int .i64 nn] (fun a w hI hF => by
              have f1 : a.tmps.getD 92 undef = .pointer (some ⟨w1.heap.size, 0, none⟩) := hF 92 (Reg.looksB (by kernel_rfl))
              have f2 : a.tmps.getD 94 undef = .int .i64 nn := hF 94 (Reg.looksB (by kernel_rfl))
              clear hF hI
              simp only [Array.getD_eq_getD_getElem?] at f1 f2
              simp only [execOp]; go_simp)
            (fun w hI hJ => (rcount_any hJ nn HIN).mono fun e w' h => ⟨_, h.1, ⟨rfl, h.2.1⟩, h.2.2⟩) ?_
          refine Reg.rely_nil ?_
          refine Reg.final_rel (fun v1 => ?_)
          refine Reg.final_is ?_
          refine Reg.final_is ?_
          refine Reg.final_is ?_
          refine Reg.final_rel (fun v2 => ?_)
          refine Reg.final_is ?_
          refine Reg.final_is ?_
          refine Reg.final_is ?_
          refine Reg.final_nil (fun w2 hF => ?_)
          obtain ⟨⟨⟨hb2, hbel⟩, rfl, hr2⟩, rfl, hp2⟩ := hF
          have HB3 : Hid (Both2 W w2 W.heap.size w1.heap.size (numS s e (cC s nn)) (numE s e (cC s nn))) := Lib.hid ⟨hp2, hr2, hbel, HB2.out.ne, HB2.out.hb, HB2.out.hc⟩
          clear hp2 hr2 hb2 hbel
          generalize numV s e (cC s nn) = xv at *
          simp only [List.drop_succ_cons, List.drop_zero]
          go_simp
          go_wp2_with fail
          refine Reg.fin (by kernel_rfl) ?_
          go_wp2_with fail
          go_meet
          exact ⟨rfl, _, _, HB3.out⟩
        have r4 : (q == 4) = false := by simp [q4]
        clear q4
        by_cases q5 : q = 5
        · as_aux_lemma =>
          have r6 : (q == 6) = false := by simp [q5]
          have r5 : (q == 5) = true := by simp [q5]
          clear q5
          go_upto_region 24 with fail
          refine Reg.wp_rely 8 (fun w => Blk w t 84 #[.int .u8 d, .int .u64 most, .int .i64 lo, .int .i64 hi, .int .i64 nn, .slice p2 m cap2] ∧ Below W.heap.size W w) (by kernel_rfl) (by kernel_rfl) ⟨HT2.out.drew, HB2.out.bel.drew⟩ (fun w w' h hI => ⟨hI.1.below h, hI.2.trans (h.mono hI.2.size)⟩) ?_
          refine Reg.rely_move 5 (.pointer (some ⟨W.heap.size, 0, none⟩)) rfl rfl (fun v w h => h) ?_
          refine Reg.rely_one 8 (.pointer (some ⟨t, 0, none⟩)) (.pointer (some ⟨t, 5, none⟩)) rfl rfl (fun v w h => h) (fun ρ w h hI => by simp only [execOp, h]; go_simp) ?_
          refine Reg.rely_one 100 (.pointer (some ⟨t, 5, none⟩)) (.slice p2 m cap2) rfl rfl (fun v w h => h) (fun ρ w h hI => by have hc := (show w.cell? ⟨t, 5, none⟩ = some (.slice p2 m cap2) from hI.1.cell 5); clear hI; simp only [execOp, h]; go_simp) ?_
          refine Reg.rely_call (fun v w' => v = .int .u64 (numV s e (tC s xs m)) ∧ PR w' W.heap.size (numS s e (tC s xs m)) (numE s e (tC s xs m))) (fun w w' => Only (· = W.heap.size) w w') (fun w => PR w W.heap.size s e)
            (fun v w w' h hS => ⟨hS.1, hS.2.below h⟩)
            (fun G hG => by cases hG)
            (fun w w' h hI => ⟨hI.1.only h HTn.out.1, bonly hI.2 h HB2.out.hb⟩)
            (fun p hp => by simp only [List.mem_cons, List.mem_nil_iff, or_false] at hp; rcases hp with rfl | rfl | rfl <;> exact Reg.stab_is _ _)
            rfl (fun w w' h hJ => hJ.below h) HB2.out.p.drew
            (fun G hG => by cases hG) (fun J hJ => by cases hJ)
            48 #[.pointer (some ⟨W.heap.size, 0, none⟩), .slice p2 m cap2] (fun a w hI hF => by
              have f1 : a.tmps.getD 99 undef = .pointer (some ⟨W.heap.size, 0, none⟩) := hF 99 (Reg.looksB (by kernel_rfl))
              have f2 : a.tmps.getD 101 undef = .slice p2 m cap2 := hF 101 (Reg.looksB (by kernel_rfl))
              clear hF hI
              simp only [Array.getD_eq_getD_getElem?] at f1 f2
              simp only [execOp]; go_simp)
            (fun w hI hJ => (ptag_any hJ (HOF.out.up hI.2) (by omega)).mono fun e w' h => ⟨_, h.1, ⟨rfl, h.2.1⟩, h.2.2⟩) ?_
          refine Reg.rely_move 6 (.pointer (some ⟨w1.heap.size, 0, none⟩)) rfl rfl (fun v w h => h) ?_
          refine Reg.rely_one 8 (.pointer (some ⟨t, 0, none⟩)) (.pointer (some ⟨t, 5, none⟩)) rfl rfl (fun v w h => h) (fun ρ w h hI => by simp only [execOp, h]; go_simp) ?_
          refine Reg.rely_one 104 (.pointer (some ⟨t, 5, none⟩)) (.slice p2 m cap2) rfl rfl (fun v w h => h) (fun ρ w h hI => by have hc := (show w.cell? ⟨t, 5, none⟩ = some (.slice p2 m cap2) from hI.1.cell 5); clear hI; simp only [execOp, h]; go_simp) ?_
          refine Reg.rely_call (fun v w' => v = .int .u64 (numV s e (tC s xs m)) ∧ RR w' w1.heap.size (numS s e (tC s xs m)) (numE s e (tC s xs m))) (fun w w' => Only (· = w1.heap.size) w w') (fun w => RR w w1.heap.size s e)
            (fun v w w' h hS => ⟨hS.1, hS.2.below h⟩)
            (fun G hG => by simp only [List.mem_singleton] at hG; subst hG; exact fun v w w' h hS => ⟨hS.1, hS.2.only h (fun e => HB2.out.ne e.symm)⟩)
            (fun w w' h hI => ⟨hI.1.only h HTn.out.2, bonly hI.2 h HB2.out.hc⟩)
            (fun p hp => by simp only [List.mem_cons, List.mem_nil_iff, or_false] at hp; rcases hp with rfl | rfl | rfl | rfl | rfl | rfl | rfl <;> first | exact Reg.stab_is _ _ | exact fun v w w' h hS => ⟨hS.1, hS.2.only h HB2.out.ne⟩)
            rfl (fun w w' h hJ => hJ.below h) HB2.out.r.drew
            (fun G hG => by simp only [List.mem_singleton] at hG; subst hG; exact fun w w' h hJ => hJ.only h (fun e => HB2.out.ne e.symm)) (fun J hJ => by simp only [List.mem_singleton] at hJ; subst hJ; exact fun w w' h hJ => hJ.only h HB2.out.ne)
            49 #[.pointer (some ⟨w1.heap.size, 0, none⟩), .slice p2 m cap2] (fun a w hI hF => by
              have f1 : a.tmps.getD 103 undef = .pointer (some ⟨w1.heap.size, 0, none⟩) := hF 103 (Reg.looksB (by kernel_rfl))
              have f2 : a.tmps.getD 105 undef = .slice p2 m cap2 := hF 105 (Reg.looksB (by kernel_rfl))
              clear hF hI
              simp only [Array.getD_eq_getD_getElem?] at f1 f2
              simp only [execOp]; go_simp)
            (fun w hI hJ => (rtag_any hJ (HOF.out.up hI.2) (by omega) (fun g off cap hv h0 => by have h1 := slic_lt HOF.out hv h0; have h2 := HB2.out.hc; omega)).mono fun e w' h => ⟨_, h.1, ⟨rfl, h.2.1⟩, h.2.2⟩) ?_
          refine Reg.rely_nil ?_
          refine Reg.final_rel (fun v1 => ?_)
          refine Reg.final_is ?_
          refine Reg.final_is ?_
          refine Reg.final_is ?_
          refine Reg.final_rel (fun v2 => ?_)
          refine Reg.final_is ?_
          refine Reg.final_is ?_
          refine Reg.final_is ?_
          refine Reg.final_nil (fun w2 hF => ?_)
          obtain ⟨⟨⟨hb2, hbel⟩, rfl, hr2⟩, rfl, hp2⟩ := hF
          have HB3 : Hid (Both2 W w2 W.heap.size w1.heap.size (numS s e (tC s xs m)) (numE s e (tC s xs m))) := Lib.hid ⟨hp2, hr2, hbel, HB2.out.ne, HB2.out.hb, HB2.out.hc⟩
          clear hp2 hr2 hb2 hbel
          generalize numV s e (tC s xs m) = xv at *
          simp only [List.drop_succ_cons, List.drop_zero]
          go_simp
          go_wp2_with fail
          refine Reg.fin (by kernel_rfl) ?_
          go_wp2_with fail
          go_meet
          exact ⟨rfl, _, _, HB3.out⟩
        have r5 : (q == 5) = false := by simp [q5]
        clear q5
        by_cases q6 : q = 6
        · as_aux_lemma =>
          have r6 : (q == 6) = true := by simp [q6]
          clear q6
          go_wp2_with (first | (go_at_call 39; ((with_reducible refine (pend_any HB2.out.p).mono ?_); rintro e w2 ⟨rfl, hp2, o2⟩; have HH := Lib.hid (HB2.out.turnP hp2 o2); clear hp2)) | (go_at_call 50; ((with_reducible refine (rend_any HH.out.r).mono ?_); rintro e w3 ⟨rfl, hp3, o3⟩; have HB3 := Lib.hid (HH.out.turnR hp3 o3); clear hp3)))
          all_goals go_meet
          all_goals exact ⟨by simp, _, _, HB3.out⟩
        have r6 : (q == 6) = false := by simp [q6]
        clear q6
        go_wp2_with fail
        all_goals go_meet
        all_goals exact ⟨rfl, _, _, HB2.out⟩
      · have hm' : 40 < m := by omega
        clear hm HS HOF
        go_wp2_with (go_at_call 26; ((with_reducible refine (alive_any _).mono ?_); rintro e w9 ⟨rfl, hb9⟩))
        go_ret
        exact ⟨rfl, (HB.out.alloc _).bel.trans (hb9.mono (HB.out.alloc _).bel.size)⟩
    · have : k = n := by omega
      subst this
      have HB := Lib.hid hB
      clear hB
      go_wp2_with (go_at_call 26; ((with_reducible refine (alive_any _).mono ?_); rintro e w9 ⟨rfl, hb9⟩))
      go_ret
      exact ⟨rfl, HB.out.bel.trans (hb9.mono HB.out.bel.size)⟩
end Go.Proofs.Ytppkfpphefonoaa
