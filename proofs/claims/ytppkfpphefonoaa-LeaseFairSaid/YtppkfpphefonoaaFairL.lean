/- The stage's theorem on leases: the law's walk. No condition. -/
import Derived.Test.YtppkfpphefonoaaFairM
import Derived.Deep.DeepCutAuto
import Derived.Deep.QuietTactic
import Derived.BigQuiet
import Derived.Deep.CutBlock
namespace Go.Proofs.Ytppkfpphefonoaa
open Go.RowKit Lea Go.Maps
set_option linter.unusedVariables false
def FCut (W : World) (b h s i : Nat) (len : Int) (N : Nat) (wc : World) : Prop := ∃ (l : List Seat) (MH MS MI : DU), FW W wc b h s i len l N MH MS MI
def ZRel (W w2 : World) (b mh : Nat) (len : Int) (l : List Seat) (N : Nat) (MH MS MI : DU) (u : Value) (wq : World) : Prop :=
  ∃ j : Nat, j ≤ (rowI l 33).length ∧ u = .int .i64 j ∧ FW W wq b mh (mh + 1) (mh + 2) len l N MH MS MI ∧ Only (fun _ => False) w2 wq
set_option maxRecDepth 100000 in
set_option maxHeartbeats 4000000 in
theorem fair_run (W : World) (len : Int) (h1 : 1 ≤ len) (h2 : len ≤ 4294967296) (v : Value) (n : Nat) (sx : Nat → StepV) (hv : Script W v n sx) (hwfs : ∀ i, i < n → (Lit.int .i64 (sx i).w).wf = true ∧ (Lit.int .u64 (sx i).inc).wf = true) (hn : n ≤ 300) :
    Calls Try.prog 4 #[.int .i64 len, v] W fun e w' => e = .returned (.bool true) ∧ Below W.heap.size W w' := by
  obtain ⟨p, cap, rfl, hS⟩ := hv
  have HS := Lib.hid hS
  have HWF := Lib.hid hwfs
  clear hS hwfs
  have hmm := @run_makeMap Try.prog
  go_enter Try.func4, Try.ntmps4
  go_wp2_with (go_at_call 12; ((with_reducible refine (new_good len h1 h2).mono ?_); rintro e w1 ⟨rfl, h, hb1⟩; have H0 := Lib.hid h; clear h))
  have hB : FW W (((w1.alloc (.map #[] 0)).alloc (.map #[] 0)).alloc (.map #[] 0)) W.heap.size w1.heap.size (w1.heap.size + 1) (w1.heap.size + 2) len zeros 0 (.map []) (.map []) (.map []) := by
    have e1 : (w1.alloc (.map #[] 0)).heap.size = w1.heap.size + 1 := by simp
    have e2 : ((w1.alloc (.map #[] 0)).alloc (.map #[] 0)).heap.size = w1.heap.size + 2 := by simp
    have hs1 := World.ownsMap_made (H := Unit) (w1.alloc (.map #[] 0)) Try.prog 3 (plainElem Try.prog 29)
    have hi1 := World.ownsMap_made (H := Unit) ((w1.alloc (.map #[] 0)).alloc (.map #[] 0)) Try.prog 3 (plainElem Try.prog 29)
    rw [e1] at hs1
    rw [e2] at hi1
    have hlt := H0.out.blk.lt
    refine ⟨⟨((H0.out.blk.alloc _).alloc _).alloc _, H0.out.n, h1, h2⟩, ((World.ownsMap_made w1 _ _ _).alloc _).alloc _, hs1.alloc _, hi1, ?_, lfair_zero, ⟨hlt, by omega, by omega⟩, Nat.le_refl _⟩
    exact ((hb1.alloc hb1.size _).alloc (by have := hb1.size; simp; omega) _).alloc (by have := hb1.size; simp; omega) _
  clear hmm
  go_loopw [10] (fun u wr => FRel W W.heap.size w1.heap.size (w1.heap.size + 1) (w1.heap.size + 2) len n u wr) (fun u _ => ((n : Int) - intOf u).toNat)
  case atStart => exact ⟨0, zeros, _, _, _, by omega, rfl, hB⟩
  case round =>
    obtain ⟨k, l, MH, MS, MI, hk1, rfl, hF⟩ := hrel
    by_cases hk : k < n
    · obtain ⟨g, off, rfl, hg, hx⟩ := HS.out (by omega)
      have hx := hx k hk
      obtain ⟨hwf, hwfi⟩ := HWF.out k hk
      generalize sx k = s at hx hwf hwfi
      have x0 : wr.cell? ⟨g, off + k * 5, none⟩ = some (.int .i64 s.d) := by rw [hF.bel.cell hg]; exact hx.1
      have x1 : wr.cell? ⟨g, off + k * 5 + 1, none⟩ = some (.int .i64 s.w) := by rw [hF.bel.cell hg]; exact hx.2.1
      have x2 : wr.cell? ⟨g, off + k * 5 + 2, none⟩ = some (.int .i64 s.v) := by rw [hF.bel.cell hg]; exact hx.2.2.1
      have x3 : wr.cell? ⟨g, off + k * 5 + 3, none⟩ = some (.int .u64 s.inc) := by rw [hF.bel.cell hg]; exact hx.2.2.2.1
      have x4 : wr.cell? ⟨g, off + k * 5 + 4, none⟩ = some (.int .i64 s.now) := by rw [hF.bel.cell hg]; exact hx.2.2.2.2
      have hB1 := hF.alloc (.cells (stA s) 37)
      have hT := Blk.new wr 37 (stA s)
      have hbl : w1.heap.size + 2 < wr.heap.size := hF.oi.lt
      have HF2 := Lib.hid hB1
      have HT2 := Lib.hid hT
      clear hF hx HS hB1 hT HWF
      go_upto_block 2 with fail
      have HF3 : Hid (FW W (wr.alloc (.cells #[.int .i64 s.d, .int .i64 s.w, .int .i64 s.v, .int .u64 s.inc, .int .i64 s.now] 37)) W.heap.size w1.heap.size (w1.heap.size + 1) (w1.heap.size + 2) len l (3 * k) MH MS MI) := HF2
      have HT3 : Hid (Blk (wr.alloc (.cells #[.int .i64 s.d, .int .i64 s.w, .int .i64 s.v, .int .u64 s.inc, .int .i64 s.now] 37)) wr.heap.size 37 (stA s)) := HT2
      clear HF2 HT2 x0 x1 x2 x3 x4
      generalize wr.alloc (.cells #[.int .i64 s.d, .int .i64 s.w, .int .i64 s.v, .int .u64 s.inc, .int .i64 s.now] 37) = wt at *
      generalize wr.heap.size = t at *
      generalize hbb : W.heap.size = b at *
      generalize hhh : w1.heap.size = mh at *
      go_cut [] (fun wc => FCut W b mh (mh + 1) (mh + 2) len (3 * (k + 1)) wc)
      case rest => as_aux_lemma =>
        obtain ⟨l, MH, MS, MI, hF⟩ := hcut
        clear HF3 HT3
        have hown := hF.F.own
        have hn33 := hF.F.n
        have hsz : size MH = (rowI l 33).length := by rw [hF.F.hSz, aliveN_rows hn33]
        have HB := Lib.hid hF
        have hm : (rowI l 33).length ≤ 33 := rowI_len l 33
        clear hF
        go_wp2_with (first | (go_at_call 22; ((with_reducible refine (rows_any HB.out.p).mono ?_); rintro e w2 ⟨v1, rfl, own1, b1⟩; obtain ⟨p1, c1, rfl, k1⟩ := RowAt.of own1; have HC := Lib.hid (HB.out.grow b1); have HK := Lib.hid k1; clear own1 k1 b1)) | (at_len; refine wpList_len_own _ rfl _ 53 rfl 3 2 Try.underlying53 _ mh (3 * (k + 1)) MH rfl HC.out.oh ?_; rw [hsz]))
        have hst : ZRel W w2 b mh len l (3 * (k + 1)) MH MS MI (.int .i64 0) w2 := ⟨0, by omega, rfl, HC.out, Only.refl _ _⟩
        go_loopw [28] (fun u wq => ZRel W w2 b mh len l (3 * (k + 1)) MH MS MI u wq) (fun u _ => (((rowI l 33).length : Int) - intOf u).toNat)
        case atStart => exact hst
        case round =>
          obtain ⟨j, hj1, rfl, hF, ho⟩ := hrel
          have HD := Lib.hid hF
          have HO := Lib.hid ho
          by_cases hj : j < (rowI l 33).length
          · obtain ⟨g1, rfl, hc1⟩ := HK.out (by omega)
            obtain ⟨hon, hqw, hxw⟩ := rowI_at hn33 hown hj
            have hra := fun i hi => rows_at' l (rowI l 33) (j := i) hj hi
            have HLH := lookH hF.oh hF.F hxw
            rw [hon] at HLH
            rw [if_pos rfl] at HLH
            have HLI := fun nq => lookI (hF.oi.kept (below_grown (drewN_below wr nq)) (by simp)) hF.F hxw hon
            have y0 : wr.cell? ⟨g1, j * 3, none⟩ = some (.int .i64 (sat l ((rowI l 33)[j] : Nat)).w) := ho.cell (by rw [hc1 _ (by omega)]; exact hra 0 (by omega)) (fun h => h)
            have y1 : wr.cell? ⟨g1, j * 3 + 1, none⟩ = some (.int .u64 (sat l ((rowI l 33)[j] : Nat)).inc) := ho.cell (by rw [hc1 _ (by omega)]; exact hra 1 (by omega)) (fun h => h)
            have y2 : wr.cell? ⟨g1, j * 3 + 2, none⟩ = some (.int .i64 (sat l ((rowI l 33)[j] : Nat)).til) := ho.cell (by rw [hc1 _ (by omega)]; exact hra 2 (by omega)) (fun h => h)
            rw [hqw] at y0
            by_cases hj0 : j = 0
            · subst hj0
              have hj2 : (0 : Int) < ((rowI l 33).length : Int) := by omega
              clear hF ho hc1 hra hst HC HK hqw hsz hon hxw
              generalize (sat l ((rowI l 33)[0] : Nat)).inc = qi at *
              generalize (sat l ((rowI l 33)[0] : Nat)).til = qt at *
              generalize (rowI l 33)[0] = x at *
              go_wp2_with fail
              go_quiet (fail)
              go_wp2
              go_roundw
              case rel => exact ⟨1, by omega, rfl, HD.out.grow (drewN_below _ _), quiet_drew HO.out _⟩
              case measure => simp [intOf]; omega
            · obtain ⟨i, rfl⟩ : ∃ i, j = i + 1 := ⟨j - 1, by omega⟩
              have hup := rowI_up hj
              obtain ⟨_, hqw2, _⟩ := rowI_at hn33 hown (j := i) (by omega)
              have hz := rows_at' l (rowI l 33) (i := i) (j := 0) (by omega) (by omega)
              have z0 : wr.cell? ⟨g1, i * 3, none⟩ = some (.int .i64 (sat l ((rowI l 33)[i] : Nat)).w) := ho.cell (by rw [hc1 _ (by omega)]; exact hz) (fun h => h)
              rw [hqw2] at z0
              have hi0 : (0 : Int) ≤ (i : Int) := by omega
              have hi1 : (i : Int) < ((rowI l 33).length : Int) := by omega
              have hi2 : ((i + 1 : Nat) : Int) < ((rowI l 33).length : Int) := by omega
              have hi3 : (i : Int) ≤ 33 := by omega
              have hj0' : ((0 : Int) < ((i + 1 : Nat) : Int)) := by omega
              clear hF ho hc1 hra hst HC HK hqw hsz hon hxw hz hqw2
              generalize (sat l ((rowI l 33)[i + 1] : Nat)).inc = qi at *
              generalize (sat l ((rowI l 33)[i + 1] : Nat)).til = qt at *
              generalize (rowI l 33)[i + 1] = x at *
              generalize (rowI l 33)[i] = y at *
              have hxy : ((y : Int) < (x : Int)) := by omega
              go_wp2_with fail
              go_quiet (fail)
              go_wp2
              go_roundw
              case rel => exact ⟨i + 1 + 1, by omega, rfl, HD.out.grow (drewN_below _ _), quiet_drew HO.out _⟩
              case measure => simp [intOf]; omega
          · have hje : j = (rowI l 33).length := by omega
            subst hje
            clear hF ho hst HC HK hsz
            go_wp2_with fail
            subst hbb hhh
            go_roundw
            case rel => exact ⟨k + 1, l, MH, MS, MI, by omega, rfl, HD.out⟩
            case measure => simp [intOf]; omega
      have hap1 : b < t := by have := HF3.out.ap; omega
      obtain ⟨t0, t1, t2, t3, t4⟩ := st_cells HT3.out
      by_cases q0 : s.d = 0
      · as_aux_lemma =>
        have q0' : (s.d == 0) = true := by simp [q0]
        clear q0
        have HL1 := lookH HF3.out.oh HF3.out.F hwf
        by_cases hC : joinC l s.w s.inc s.now = 0
        · obtain ⟨hw, ht, hseen⟩ := joinC0 hC
          have ht1 := (okT_t ht).1
          have ht2 := (okT_t ht).2
          have hJA : joinA l s.w s.inc s.now = ((sat l s.w).alive && decide ((sat l s.w).inc < s.inc)) := by unfold joinA; rw [hC]; rfl
          have hJL : joinL len l s.w s.inc s.now = l.set s.w.toNat ⟨s.w, s.inc, s.now + len, true, s.inc⟩ := by unfold joinL; rw [if_pos hC]
          have HJ := Lib.hid (join_any HF3.out.p s.w s.inc s.now)
          rw [hC, hJA, hJL] at HJ
          have hwv : (Lit.int .i64 (s.now + len)).wf = true := WalkArith.wf_i64 (by omega)
          have hall := onQ_ok (l := l) (x := s.w)
          have hon : onQ l s.w = (sat l s.w).alive := by unfold onQ; rw [hw]; rfl
          have HLF := Lib.hid (lfair_join HF3.out.F hw s.inc (s.now + len))
          cases hq : onQ l s.w with
          | true =>
            rw [hq] at HL1 hon
            rw [← hon] at HJ
            rw [if_pos rfl] at HL1
            clear hC hJA hJL hall hon ht
            go_wp2_with (first | (go_at_call 13; ((with_reducible refine HJ.out.mono ?_); rintro e w2 ⟨rfl, hp2, o2⟩; have HX := Lib.hid (HF3.out.turn o2); have HTa := Lib.hid (HT3.out.only o2 (by omega)); have P2 := Lib.hid hp2; have LS := lookS HX.out.os HF3.out.F hwf hw; have LI := lookI HX.out.oi HF3.out.F hwf hq; obtain ⟨m0, m1, m2, m3, m4⟩ := st_cells HTa.out; clear hp2)) | (at_mapUpdate; refine wpList_mapUpdate_own _ rfl _ _ _ 54 rfl 3 29 kdI Try.underlying54 _ (mh + 1) (3 * k) MS rfl HX.out.os (by unfold maxLen; omega) _ _ (KI s.w) rfl rfl (keyI hwf) (vU s.inc) [] (plainElem_int Try.underlying29 hwfi) ?_; intro w3 oS gS; have HX3 := Lib.hid (HX.out.turnS oS gS); have P3 := Lib.hid (P2.out.grownN gS (by have := HX.out.ap; omega)); have HTb := Lib.hid (HTa.out.grownN gS (by omega)); obtain ⟨r0, r1, r2, r3, r4⟩ := st_cells HTb.out; clear oS gS) | (at_mapUpdate; refine wpList_mapUpdate_own _ rfl _ _ _ 54 rfl 3 29 kdI Try.underlying54 _ (mh + 2) (3 * k + 1) MI rfl HX3.out.oi (by unfold maxLen; omega) _ _ (KI s.w) rfl rfl (keyI hwf) (vU s.inc) [] (plainElem_int Try.underlying29 hwfi) ?_; intro w4 oI gI; have HX4 := Lib.hid (HX3.out.turnI oI gI); have P4 := Lib.hid (P3.out.grownN gI (by have := HX.out.ap; omega)); have HTc := Lib.hid (HTb.out.grownN gI (by omega)); obtain ⟨y0, y1, y2, y3, y4⟩ := st_cells HTc.out; clear oI gI) | (at_mapUpdate; refine wpList_mapUpdate_own _ rfl _ _ _ 53 rfl 3 2 kdI Try.underlying53 _ mh (3 * k + 2) MH rfl HX4.out.oh (by unfold maxLen; omega) _ _ (KI s.w) rfl rfl (keyI hwf) (vT (s.now + len)) [] (plainElem_int Try.underlying2 hwv) ?_; intro w5 oH gH; have HX5 := Lib.hid (HX4.out.turnH oH gH); have P5 := Lib.hid (P4.out.grownN gH (by have := HX.out.ap; omega)); clear oH gH))
            all_goals go_meet
            all_goals exact ⟨_, _, _, _, (HX5.out.fw P5.out HLF.out).mono (by omega)⟩
          | false =>
            rw [hq] at HL1 hon
            rw [← hon] at HJ
            rw [if_neg (by decide)] at HL1
            clear hC hJA hJL hall hon ht
            go_wp2_with (first | (go_at_call 13; ((with_reducible refine HJ.out.mono ?_); rintro e w2 ⟨rfl, hp2, o2⟩; have HX := Lib.hid (HF3.out.turn o2); have HTa := Lib.hid (HT3.out.only o2 (by omega)); have P2 := Lib.hid hp2; have LS := lookS HX.out.os HF3.out.F hwf hw; obtain ⟨m0, m1, m2, m3, m4⟩ := st_cells HTa.out; clear hp2)) | (at_mapUpdate; refine wpList_mapUpdate_own _ rfl _ _ _ 54 rfl 3 29 kdI Try.underlying54 _ (mh + 1) (3 * k) MS rfl HX.out.os (by unfold maxLen; omega) _ _ (KI s.w) rfl rfl (keyI hwf) (vU s.inc) [] (plainElem_int Try.underlying29 hwfi) ?_; intro w3 oS gS; have HX3 := Lib.hid (HX.out.turnS oS gS); have P3 := Lib.hid (P2.out.grownN gS (by have := HX.out.ap; omega)); have HTb := Lib.hid (HTa.out.grownN gS (by omega)); obtain ⟨r0, r1, r2, r3, r4⟩ := st_cells HTb.out; clear oS gS) | (at_mapUpdate; refine wpList_mapUpdate_own _ rfl _ _ _ 54 rfl 3 29 kdI Try.underlying54 _ (mh + 2) (3 * k + 1) MI rfl HX3.out.oi (by unfold maxLen; omega) _ _ (KI s.w) rfl rfl (keyI hwf) (vU s.inc) [] (plainElem_int Try.underlying29 hwfi) ?_; intro w4 oI gI; have HX4 := Lib.hid (HX3.out.turnI oI gI); have P4 := Lib.hid (P3.out.grownN gI (by have := HX.out.ap; omega)); have HTc := Lib.hid (HTb.out.grownN gI (by omega)); obtain ⟨y0, y1, y2, y3, y4⟩ := st_cells HTc.out; clear oI gI) | (at_mapUpdate; refine wpList_mapUpdate_own _ rfl _ _ _ 53 rfl 3 2 kdI Try.underlying53 _ mh (3 * k + 2) MH rfl HX4.out.oh (by unfold maxLen; omega) _ _ (KI s.w) rfl rfl (keyI hwf) (vT (s.now + len)) [] (plainElem_int Try.underlying2 hwv) ?_; intro w5 oH gH; have HX5 := Lib.hid (HX4.out.turnH oH gH); have P5 := Lib.hid (P4.out.grownN gH (by have := HX.out.ap; omega)); clear oH gH))
            all_goals go_meet
            all_goals exact ⟨_, _, _, _, (HX5.out.fw P5.out HLF.out).mono (by omega)⟩
        · have hJL : joinL len l s.w s.inc s.now = l := by unfold joinL; rw [if_neg hC]
          have HJ := Lib.hid (join_any HF3.out.p s.w s.inc s.now)
          rw [hJL] at HJ
          have hCb : (joinC l s.w s.inc s.now == 0) = false := by simpa using hC
          clear hC hJL
          generalize joinC l s.w s.inc s.now = c at *
          generalize joinA l s.w s.inc s.now = a at *
          go_wp2_with (first | (go_at_call 13; ((with_reducible refine HJ.out.mono ?_); rintro e w2 ⟨rfl, hp2, o2⟩; have HX := Lib.hid (HF3.out.turn o2); have P2 := Lib.hid hp2; clear hp2)))
          all_goals go_meet
          all_goals exact ⟨l, MH, MS, MI, (HX.out.fw P2.out HF3.out.F).mono (by omega)⟩
      have q0' : (s.d == 0) = false := by simp [q0]
      clear q0
      by_cases q1 : s.d = 1
      · as_aux_lemma =>
        have q1' : (s.d == 1) = true := by simp [q1]
        clear q1
        have HL1 := lookH HF3.out.oh HF3.out.F hwf
        by_cases hC : beatC l s.w s.inc s.now = 0
        · obtain ⟨hq, ht, hi⟩ := beatC0 hC
          have ht1 := (okT_t ht).1
          have ht2 := (okT_t ht).2
          have hJL : beatL len l s.w s.inc s.now = l.set s.w.toNat { sat l s.w with til := max (sat l s.w).til (s.now + len) } := by unfold beatL; rw [if_pos hC]
          have HJ := Lib.hid (beat_any HF3.out.p s.w s.inc s.now)
          rw [hC, hJL] at HJ
          have hib : ((sat l s.w).inc != s.inc) = false := by simp [hi]
          have HLF := Lib.hid (lfair_beat HF3.out.F hq (max (sat l s.w).til (s.now + len)))
          have hwt := sat_til HF3.out.oh HF3.out.F hq
          have hwv : (Lit.int .i64 (max (sat l s.w).til (s.now + len))).wf = true := WalkArith.wf_i64 (by omega)
          rw [hq] at HL1
          rw [if_pos rfl] at HL1
          clear hC hJL ht hi
          by_cases hmx : (sat l s.w).til < s.now + len
          · have em : max (sat l s.w).til (s.now + len) = s.now + len := by omega
            rw [em] at HJ HLF hwv
            clear em
            go_wp2_with (first | (go_at_call 15; ((with_reducible refine HJ.out.mono ?_); rintro e w2 ⟨rfl, hp2, o2⟩; have HX := Lib.hid (HF3.out.turn o2); have HTa := Lib.hid (HT3.out.only o2 (by omega)); have P2 := Lib.hid hp2; have LI := lookI HX.out.oi HF3.out.F hwf hq; obtain ⟨m0, m1, m2, m3, m4⟩ := st_cells HTa.out; clear hp2)) | (at_mapUpdate; refine wpList_mapUpdate_own _ rfl _ _ _ 53 rfl 3 2 kdI Try.underlying53 _ mh (3 * k) MH rfl HX.out.oh (by unfold maxLen; omega) _ _ (KI s.w) rfl rfl (keyI hwf) (vT (s.now + len)) [] (plainElem_int Try.underlying2 hwv) ?_; intro w5 oH gH; have HX5 := Lib.hid (HX.out.turnH oH gH); have P5 := Lib.hid (P2.out.grownN gH (by have := HX.out.ap; omega)); clear oH gH))
            all_goals go_meet
            all_goals exact ⟨_, _, _, _, (HX5.out.fw P5.out HLF.out).mono (by omega)⟩
          · have em : max (sat l s.w).til (s.now + len) = (sat l s.w).til := by omega
            have hmx' : s.now + len ≤ (sat l s.w).til := by omega
            rw [em] at HJ HLF hwv
            clear em hmx
            go_wp2_with (first | (go_at_call 15; ((with_reducible refine HJ.out.mono ?_); rintro e w2 ⟨rfl, hp2, o2⟩; have HX := Lib.hid (HF3.out.turn o2); have HTa := Lib.hid (HT3.out.only o2 (by omega)); have P2 := Lib.hid hp2; have LI := lookI HX.out.oi HF3.out.F hwf hq; obtain ⟨m0, m1, m2, m3, m4⟩ := st_cells HTa.out; clear hp2)) | (at_mapUpdate; refine wpList_mapUpdate_own _ rfl _ _ _ 53 rfl 3 2 kdI Try.underlying53 _ mh (3 * k) MH rfl HX.out.oh (by unfold maxLen; omega) _ _ (KI s.w) rfl rfl (keyI hwf) (vT ((sat l s.w).til)) [] (plainElem_int Try.underlying2 hwv) ?_; intro w5 oH gH; have HX5 := Lib.hid (HX.out.turnH oH gH); have P5 := Lib.hid (P2.out.grownN gH (by have := HX.out.ap; omega)); clear oH gH))
            all_goals go_meet
            all_goals exact ⟨_, _, _, _, (HX5.out.fw P5.out HLF.out).mono (by omega)⟩
        · have hJL : beatL len l s.w s.inc s.now = l := by unfold beatL; rw [if_neg hC]
          have HJ := Lib.hid (beat_any HF3.out.p s.w s.inc s.now)
          rw [hJL] at HJ
          have hCb : (beatC l s.w s.inc s.now == 0) = false := by simpa using hC
          clear hC hJL
          generalize beatC l s.w s.inc s.now = c at *
          go_wp2_with (first | (go_at_call 15; ((with_reducible refine HJ.out.mono ?_); rintro e w2 ⟨rfl, hp2, o2⟩; have HX := Lib.hid (HF3.out.turn o2); have P2 := Lib.hid hp2; clear hp2)))
          all_goals go_meet
          all_goals exact ⟨l, MH, MS, MI, (HX.out.fw P2.out HF3.out.F).mono (by omega)⟩
      have q1' : (s.d == 1) = false := by simp [q1]
      clear q1
      by_cases q3 : s.d = 3
      · as_aux_lemma =>
        have q2' : (s.d == 2) = false := by simp [q3]
        have q3' : (s.d == 3) = true := by simp [q3]
        clear q3
        have HL1 := lookH HF3.out.oh HF3.out.F hwf
        have HFa := Lib.hid (HF3.out.alloc (.cells #[.int .i64 s.w] 3))
        have HTa := Lib.hid (HT3.out.alloc (.cells #[.int .i64 s.w] 3))
        have HJ : Hid (Calls _ _ #[.pointer (some ⟨b, 0, none⟩), .slice (some ⟨wt.heap.size, 0, none⟩) 1 1] _ (CodePost _ _ _ (if onQ l s.w = true then 1 else 0) (leave1 l s.w))) :=
          Lib.hid (by
            have := leave_any HFa.out.p wt.heap.size 3 [s.w] (Blk.new wt _ _) (by have := HF3.out.p.blk.lt; omega) (by simp)
            have e : ((leaveC l [s.w] : Nat) : Int) = if onQ l s.w = true then 1 else 0 := by
              unfold leaveC leaveC leaveN onQ
              split <;> simp
            rw [e] at this
            exact this)
        have HLF := Lib.hid (lfair_off HF3.out.F s.w)
        cases hq : onQ l s.w with
        | true =>
          rw [hq] at HL1 HJ
          rw [if_pos rfl] at HL1 HJ
          go_wp2_with (first | (go_at_call 20; ((with_reducible refine HJ.out.mono ?_); rintro e w2 ⟨rfl, hp2, o2⟩; have HX := Lib.hid (HFa.out.turn o2); have HTb := Lib.hid (HTa.out.only o2 (by omega)); have P2 := Lib.hid hp2; obtain ⟨m0, m1, m2, m3, m4⟩ := st_cells HTb.out; clear hp2)) | (at_delete; refine wpList_delete_own _ rfl _ _ 53 3 rfl 2 kdI Try.underlying53 _ mh (3 * k) MH rfl HX.out.oh _ (KI s.w) rfl (keyI hwf) ?_; intro w5 oH tH; have HX5 := Lib.hid (HX.out.turnH (oH.mono (Nat.le_succ _)) tH.grown); have P5 := Lib.hid (P2.out.grownN tH.grown (by have := HX.out.ap; omega)); clear oH tH))
          all_goals go_meet
          all_goals exact ⟨_, _, _, _, (HX5.out.fw P5.out HLF.out).mono (by omega)⟩
        | false =>
          rw [hq] at HL1 HJ
          rw [if_neg (by decide)] at HL1 HJ
          go_wp2_with (first | (go_at_call 20; ((with_reducible refine HJ.out.mono ?_); rintro e w2 ⟨rfl, hp2, o2⟩; have HX := Lib.hid (HFa.out.turn o2); have HTb := Lib.hid (HTa.out.only o2 (by omega)); have P2 := Lib.hid hp2; obtain ⟨m0, m1, m2, m3, m4⟩ := st_cells HTb.out; clear hp2)) | (at_delete; refine wpList_delete_own _ rfl _ _ 53 3 rfl 2 kdI Try.underlying53 _ mh (3 * k) MH rfl HX.out.oh _ (KI s.w) rfl (keyI hwf) ?_; intro w5 oH tH; have HX5 := Lib.hid (HX.out.turnH (oH.mono (Nat.le_succ _)) tH.grown); have P5 := Lib.hid (P2.out.grownN tH.grown (by have := HX.out.ap; omega)); clear oH tH))
          all_goals go_meet
          all_goals exact ⟨_, _, _, _, (HX5.out.fw P5.out HLF.out).mono (by omega)⟩
      have q3' : (s.d == 3) = false := by simp [q3]
      clear q3
      by_cases q2 : s.d = 2
      · as_aux_lemma =>
        have q2' : (s.d == 2) = true := by simp [q2]
        clear q2
        have HJ := Lib.hid (expire_any HF3.out.p s.now)
        cases ht : okT s.now with
        | false =>
          rw [ht] at HJ
          rw [if_neg (by decide), if_neg (by decide), if_neg (by decide)] at HJ
          go_wp2_with (first | (go_at_call 17; ((with_reducible refine HJ.out.mono ?_); rintro e w2 ⟨v1, rfl, own1, hp2, o2⟩; have HX := Lib.hid (HF3.out.turn o2); have P2 := Lib.hid hp2; clear hp2 own1)))
          all_goals go_meet
          all_goals exact ⟨l, MH, MS, MI, (HX.out.fw P2.out HF3.out.F).mono (by omega)⟩
        | true =>
          rw [ht] at HJ
          rw [if_pos rfl, if_pos rfl, if_pos rfl] at HJ
          have hn33 := HF3.out.F.n
          have hown := HF3.out.F.own
          have HEA := Lib.hid (fun j hj => exp_at (l := l) hn33 hown s.now (j := j) hj)
          have HEL := Lib.hid (fun x h => exp_left (l := l) hn33 s.now (x := x) h)
          have HEO := Lib.hid (exp_off hn33 hown s.now 33 (by omega))
          have hlen := expI_len l s.now 33
          go_upto_region 32 with (first | (go_at_call 17; ((with_reducible refine HJ.out.mono ?_); rintro e w2 ⟨v1, rfl, own1, hp2, o2⟩; have HX := Lib.hid (HF3.out.turn o2); have HTa := Lib.hid (HT3.out.only o2 (by omega)); have P2 := Lib.hid hp2; obtain ⟨pr, capr, rfl, hrow⟩ := row_shape own1; have HR := Lib.hid hrow; clear hp2 own1 hrow)))
          have hst : XRel W w2 b mh l s.now (3 * k) MS MI (.int .i64 0) w2 := ⟨0, MH, by omega, rfl, HX.out, HF3.out.F, Only.refl _ _⟩
          have hbt : mh < wt.heap.size := HF3.out.oh.lt
          clear HJ
          go_wp2_with fail
          go_loopw [20] (fun u wq => XRel W w2 b mh l s.now (3 * k) MS MI u wq) (fun u _ => (((expI l s.now 33).length : Int) - intOf u).toNat)
          case atStart => exact hst
          case round =>
            obtain ⟨j, D, hj1, rfl, hXq, hFq, hoq⟩ := hrel
            have HXq := Lib.hid hXq
            have HFq := Lib.hid hFq
            have HOq := Lib.hid hoq
            have HTq := Lib.hid (HTa.out.only hoq (by omega))
            obtain ⟨m0, m1, m2, m3, m4⟩ := st_cells HTq.out
            by_cases hj : j < (expI l s.now 33).length
            · obtain ⟨gr, rfl, hgr, hcr⟩ := HR.out (by omega)
              have c0 : wr.cell? ⟨gr, j, none⟩ = some (.int .i64 ((expI l s.now 33)[j] : Nat)) := hoq.cell (by rw [hcr j (by omega), ints_at hj]) (by omega)
              obtain ⟨hon, htil, hxw⟩ := HEA.out j hj
              have HL2 := lookH hXq.oh hFq hxw
              rw [hon] at HL2
              rw [if_pos rfl] at HL2
              have HLo := Lib.hid (lfair_off hFq ((expI l s.now 33)[j] : Nat))
              rw [← offL_snoc, ← take_snoc _ hj] at HLo
              generalize htl : (sat (offL l ((expI l s.now 33).take j)) ((expI l s.now 33)[j] : Nat)).til = tl at *
              by_cases hj0 : j = 0
              · subst hj0
                have hj2 : (0 : Int) < ((expI l s.now 33).length : Int) := by omega
                clear hXq hFq hoq hcr hst HEA HR
                generalize (expI l s.now 33)[0] = x at *
                go_wp2_with fail
                refine Reg.wp_text (by kernel_rfl) (by kernel_rfl) ?_
                go_wp2_with fail
                refine Reg.fin (by kernel_rfl) ?_
                have HXd := Lib.hid (HXq.out.grow ((Below.refl _ _).drew))
                have HOd := Lib.hid (HOq.out.drew)
                go_wp2_with (at_delete; refine wpList_delete_own _ rfl _ _ 53 3 rfl 2 kdI Try.underlying53 _ mh (3 * k) D rfl HXd.out.oh _ (KI x) rfl (keyI hxw) ?_; intro w5 oH tH; have HX5 := Lib.hid (HXd.out.turnH0 oH tH.grown); have HO5 := Lib.hid (HOd.out.trans (only_grown tH.grown)); clear oH tH)
                go_roundw
                case rel => exact ⟨1, _, by omega, rfl, HX5.out, HLo.out, HO5.out⟩
                case measure => simp [intOf]; omega
              · have hup := exp_up (l := l) (now := s.now) (by omega) hj
                have c1 : wr.cell? ⟨gr, j - 1, none⟩ = some (.int .i64 ((expI l s.now 33)[j - 1]'(by omega) : Nat)) := hoq.cell (by rw [hcr (j - 1) (by omega), ints_at (by omega)]) (by omega)
                have hj0' : ((0 : Int) < (j : Int)) := by omega
                have hj0b : decide ((0 : Int) < (j : Int)) = true := by simp; omega
                obtain ⟨i, rfl⟩ : ∃ i, j = i + 1 := ⟨j - 1, by omega⟩
                have hi0 : (0 : Int) ≤ (i : Int) := by omega
                have hi1 : (i : Int) < ((expI l s.now 33).length : Int) := by omega
                have hi2 : ((i + 1 : Nat) : Int) < ((expI l s.now 33).length : Int) := by omega
                have hi3 : (i : Int) ≤ 33 := by omega
                clear hXq hFq hoq hcr hst HEA HR
                simp only [Nat.add_sub_cancel] at c1 hup
                generalize (expI l s.now 33)[i + 1] = x at *
                generalize (expI l s.now 33)[i] = y at *
                have hxy : ((y : Int) < (x : Int)) := by omega
                go_wp2_with fail
                refine Reg.wp_text (by kernel_rfl) (by kernel_rfl) ?_
                go_wp2_with fail
                refine Reg.fin (by kernel_rfl) ?_
                have HXd := Lib.hid (HXq.out.grow ((Below.refl _ _).drew))
                have HOd := Lib.hid (HOq.out.drew)
                go_wp2_with (at_delete; refine wpList_delete_own _ rfl _ _ 53 3 rfl 2 kdI Try.underlying53 _ mh (3 * k) D rfl HXd.out.oh _ (KI x) rfl (keyI hxw) ?_; intro w5 oH tH; have HX5 := Lib.hid (HXd.out.turnH0 oH tH.grown); have HO5 := Lib.hid (HOd.out.trans (only_grown tH.grown)); clear oH tH)
                go_roundw
                case rel => exact ⟨i + 1 + 1, _, by omega, rfl, HX5.out, HLo.out, HO5.out⟩
                case measure => simp [intOf]; omega
            · have hje : j = (expI l s.now 33).length := by omega
              subst hje
              rw [List.take_length, HEO.out] at HFq
              have Pq := Lib.hid (P2.out.only hoq (by have := HXq.out.ap; omega))
              clear hXq hFq hoq hst hj hj1 HEA HR
              obtain ⟨wz, rfl⟩ : ∃ wz, wz = wr := ⟨_, rfl⟩
              have hrz : mh + 1 + 1 < wz.heap.size ∧ b < wz.heap.size ∧ t < wz.heap.size := ⟨HXq.out.oi.lt, Pq.out.blk.lt, HTq.out.lt⟩
              have HRZ := Lib.hid hrz
              clear hrz
              go_wp2_with (at_range; refine wpList_range_own _ rfl _ 53 rfl 3 2 kdI Try.underlying53 _ mh (3 * k) D rfl HXq.out.oh ?_; intro w3 hR gR szR; have HRg := Lib.hid hR; have GR := Lib.hid (below_of_grown gR); clear hR gR szR)
              simp only [Act.put, List.setIfInBounds_toArray, List.set_cons_succ, List.set_cons_zero]
              have hy0 : YRel w3 mh wz.heap.size (expL l s.now 33) (3 * k) D w3 := ⟨_, _, HRg.out, fun x h => by rw [← HFq.out.hHas]; exact h, Only.refl _ _⟩
              go_loopw [] (fun wq => YRel w3 mh wz.heap.size (expL l s.now 33) (3 * k) D wq) (fun wq => wq.rangeLeft mh wz.heap.size)
              case atStart => exact hy0
              case round =>
                obtain ⟨left, cnt, hr, hl, ho⟩ := hrel
                have hle := hr.left_eq
                have HRr := Lib.hid hr
                have HLr := Lib.hid hl
                have HOr := Lib.hid ho
                have HLE := Lib.hid hle
                have HTy := Lib.hid ((HTq.out.below GR.out).only ho (by have := HRZ.out; omega))
                obtain ⟨y0, y1, y2, y3, y4⟩ := st_cells HTy.out
                clear hr hl ho hle hy0
                go_wp2_with (at_next; refine wpList_next_ranges_ii _ rfl _ rfl 3 2 .i64 .i64 kdI Try.underlying3 Try.underlying2 mh wz.heap.size (3 * k) D left cnt rfl HRr.out (fun h0 hl0 => ?done) (fun x c w4 cnt2 hwx hwc hlx hat hr2 hlt2 gr2 szr2 hen => ?more); case' more => (have HTz := Lib.hid (HTy.out.grownN gr2 (by have := HRZ.out; omega)); obtain ⟨z0, z1, z2, z3, z4⟩ := st_cells HTz.out; have hcn : s.now < c := by (rw [← till_of HFq.out (HLr.out x hlx) hat]; exact HEL.out x (HLr.out x hlx))))
                · exact ⟨⟨_, cnt2, hr2, fun x' h => HLr.out x' (by simp only [Bool.and_eq_true] at h; exact h.1), HOr.out.trans (only_grown gr2)⟩, by rw [hr2.left_eq, HLE.out]; exact hlt2⟩
                · go_meet
                  exact ⟨_, _, _, _, (((HXq.out.grow GR.out).other HOr.out (by have := HRZ.out; omega)).fw ((Pq.out.below GR.out HRZ.out.2.1).only HOr.out (by have := HRZ.out; omega)) HFq.out).mono (by omega)⟩
      have q2' : (s.d == 2) = false := by simp [q2]
      clear q2
      go_wp2_with fail
      all_goals go_meet
      all_goals exact ⟨l, MH, MS, MI, HF3.out.mono (by omega)⟩
    · have : k = n := by omega
      subst this
      have HB := Lib.hid hF
      clear hF
      go_wp2_with (go_at_call 11; ((with_reducible refine (works_any _).mono ?_); rintro e w9 ⟨rfl, hb9⟩))
      go_ret
      exact ⟨rfl, HB.out.bel.trans (hb9.mono HB.out.bel.size)⟩
end Go.Proofs.Ytppkfpphefonoaa
