import Derived.Test.YtgdgonmhgpflcaaRpeH
import Derived.Test.YtgdgonmhgpflcaaRpcS

/- The walk of RpcHears. No condition but that the script reads as one. -/
namespace Go.Proofs.Ytgdgonmhgpflcaa
open Go.RowKit Go.Maps Wire Rp
set_option linter.unusedVariables false
set_option linter.unusedSimpArgs false
def HsR (W : World) (n : Nat) (v u : Value) (wr : World) : Prop := ∃ (i : Nat) (acc : Int), v = .int .i64 acc ∧ u = .int .i64 i ∧ i ≤ n ∧ i ≤ 400 ∧ wr = W
def HeR (w0 : World) (c h r n : Nat) (u : Value) (wr : World) : Prop := ∃ (i : Nat) (s d : List Pe), u = .int .i64 i ∧ i ≤ n ∧ HW w0 wr c h r s d i ∧ Sim s d ∧ LD i d
theorem hears_works {w0 W : World} (hb : Below w0.heap.size w0 W) : Calls Try.prog 9 #[] W fun e w' => e = .returned (.bool true) ∧ Below w0.heap.size w0 w' :=
  (works_t W).mono fun e w' ⟨he, h⟩ => ⟨he, hb.trans (h.mono hb.size)⟩
set_option maxRecDepth 100000 in
set_option maxHeartbeats 8000000 in
theorem hears_t {w0 : World} {v : Value} {n : Nat} {sx : Nat → HdR} (hv : HearsR w0 v n sx) : Calls Try.prog 4 #[v] w0 fun e w' => e = .returned (.bool true) ∧ Below w0.heap.size w0 w' := by
  have HV := Lib.hid hv
  obtain ⟨p, cap, rfl, _⟩ := hv
  have HWK := Lib.hid (hears_works (Below.refl w0.heap.size w0))
  go_enter Try.func4, Try.ntmps4
  go_wp2_with fail
  go_loopw [3, 4] (fun v u wr => HsR w0 n v u wr) (fun _ u _ => ((401 : Int) - intOf u).toNat)
  case atStart => exact ⟨0, 0, rfl, rfl, Nat.zero_le _, by decide, rfl⟩
  case round =>
    obtain ⟨i, acc, rfl, rfl, hi, hi3, hwr⟩ := hrel
    have hwr := hwr.symm
    subst hwr
    have HI := Lib.hid (And.intro hi hi3)
    clear hi hi3
    by_cases hin : i < n
    · have hin' : (i : Int) < (n : Int) := by omega
      by_cases h3 : i < 400
      · have h3' : (i : Int) < 400 := by omega
        have hi0 : (0 : Int) ≤ (i : Int) := by omega
        obtain ⟨p', c', e1, hx⟩ := HV.out
        injection e1 with e1 e2 e3
        subst e1 e3
        obtain ⟨g, off, rfl, hg, hx⟩ := hx (by omega)
        obtain ⟨⟨x0, x1, x2, x3, x4, x5⟩, _⟩ := hx i hin
        have HE : Hid (wrap64 ((i : Int) + 1) = ((i + 1 : Nat) : Int)) := Lib.hid (Sou.w64n rfl (by omega))
        have HLN := Lib.hid (And.intro hin h3)
        clear hx x0 x1 x2 x3 x4 hin h3 e2
        generalize (sx i).p.body = sb at *
        go_wp2_with fail
        go_roundw
        case rel => exact ⟨i + 1, _, rfl, rfl, HLN.out.1, by have := HLN.out.2; omega, rfl⟩
        case measure => have := HLN.out; simp [intOf]; omega
      · have h3' : ¬ (i : Int) < 400 := by omega
        have hn' : (300 : Int) < (n : Int) := by omega
        clear hin h3
        go_wp2_with (go_at_call 9; ((with_reducible refine Calls.mono HWK.out ?_); rintro e w5 ⟨rfl, hbw⟩; have HBW := Lib.hid hbw; clear hbw))
        go_ret
        exact ⟨rfl, HBW.out⟩
    · obtain rfl : i = n := by have := HI.out; omega
      have hin' : ¬ (i : Int) < (i : Int) := by omega
      clear hin
      by_cases h150 : 300 < i
      · have h150' : (300 : Int) < (i : Int) := by omega
        clear h150
        go_wp2_with (go_at_call 9; ((with_reducible refine Calls.mono HWK.out ?_); rintro e w5 ⟨rfl, hbw⟩; have HBW := Lib.hid hbw; clear hbw))
        go_ret
        exact ⟨rfl, HBW.out⟩
      · have h150' : ¬ (300 : Int) < (i : Int) := by omega
        have H300 : Hid (i ≤ 300) := Lib.hid (by omega)
        clear h150
        by_cases hacc : (32768 : Int) < acc
        · skip
          go_wp2_with (go_at_call 9; ((with_reducible refine Calls.mono HWK.out ?_); rintro e w5 ⟨rfl, hbw⟩; have HBW := Lib.hid hbw; clear hbw))
          go_ret
          exact ⟨rfl, HBW.out⟩
        · have HNW := Lib.hid (newd_any w0 (B0 := w0.heap.size) (Nat.le_refl _))
          clear HI
          generalize i = n at *
          go_upto_region 12 with (go_at_call 15; go_loud ((with_reducible refine HNW.out.mono ?_); rintro e w1 ⟨c, h, rfl, hc, hb, _, _⟩; have HM0 := Lib.hid (hw_new hb hc); clear hc hb))
          generalize w1.alloc (.cells #[.slice none 0 0] 44) = W at *
          generalize w1.heap.size = r at *
          have HST : Hid (HeR w0 c h r n (.int .i64 0) W) := Lib.hid ⟨0, [], [], rfl, Nat.zero_le _, HM0.out, ⟨fun fr x hx => (by cases hx), fun fr _ => .inl rfl⟩, Nat.zero_le _, fun x hx => (by cases hx)⟩
          clear hacc h150' hin' HM0
          go_wp2_with fail
          go_loopw [7] (fun u wr => HeR w0 c h r n u wr) (fun u _ => ((n : Int) - intOf u).toNat)
          case atStart => exact HST.out
          case round =>
            obtain ⟨i, s, d, rfl, hi, hm, hsi, hld⟩ := hrel
            have HI := Lib.hid hi
            have HM0 := Lib.hid hm
            have HSIM := Lib.hid hsi
            have HLD := Lib.hid hld
            clear hi hm hsi hld
            by_cases hin : i < n
            · have hin' : (i : Int) < (n : Int) := by omega
              have hi0 : (0 : Int) ≤ (i : Int) := by omega
              obtain ⟨p', c', e1, hx⟩ := HV.out.below HM0.out.bel
              injection e1 with e1 e2 e3
              subst e1 e3
              obtain ⟨g, off, rfl, hg, hx⟩ := hx (by omega)
              obtain ⟨⟨x0, x1, x2, x3, x4, x5⟩, hok⟩ := hx i hin
              have HE : Hid (wrap64 ((i : Int) + 1) = ((i + 1 : Nat) : Int)) := Lib.hid (Sou.w64n rfl (by have := H300.out; omega))
              have HIN := Lib.hid hin
              have HOK := Lib.hid hok
              clear hx hin e2 hok hg
              generalize sx i = st at *
              obtain ⟨sa, fr, ⟨pa, pi, ps, pb⟩⟩ := st
              unfold HdOk at HOK
              dsimp only at x0 x1 x2 x3 x4 x5 HOK
              go_upto_region 16 with fail
              have HM := Lib.hid (HM0.out.below ((Below.refl _ wr).alloc (Nat.le_refl _) (.cells #[.bool sa, .int .i64 fr, .bool pa, .int .u64 pi, .int .u64 ps, .string pb] 38)))
              have HP := Lib.hid (Blk.new wr 38 #[.bool sa, .int .i64 fr, .bool pa, .int .u64 pi, .int .u64 ps, .string pb])
              clear HM0 x0 x1 x2 x3 x4 x5
              generalize wr.alloc (.cells #[.bool sa, .int .i64 fr, .bool pa, .int .u64 pi, .int .u64 ps, .string pb] 38) = V at *
              generalize wr.heap.size = Q at *
              have x0 : V.cell? ⟨Q, 0, none⟩ = some (.bool sa) := by rw [HP.out.cell 0]; rfl
              have x1 : V.cell? ⟨Q, 1, none⟩ = some (.int .i64 fr) := by rw [HP.out.cell 1]; rfl
              have x2 : V.cell? ⟨Q, 2, none⟩ = some (.bool pa) := by rw [HP.out.cell 2]; rfl
              have x3 : V.cell? ⟨Q, 3, none⟩ = some (.int .u64 pi) := by rw [HP.out.cell 3]; rfl
              have x4 : V.cell? ⟨Q, 4, none⟩ = some (.int .u64 ps) := by rw [HP.out.cell 4]; rfl
              have x5 : V.cell? ⟨Q, 5, none⟩ = some (.string pb) := by rw [HP.out.cell 5]; rfl
              cases sa with
              | true =>
                skip
                obtain ⟨q2, hq2⟩ : ∃ q, ansD s fr pi ps pb = q := ⟨_, rfl⟩
                obtain ⟨q1, hq1⟩ : ∃ q, ansR d fr pi ps pb = q := ⟨_, rfl⟩
                have HSS := Lib.hid (sim_ans HSIM.out fr pi ps pb)
                have HLD2 := Lib.hid (LD.ans HLD.out fr pi ps pb)
                rw [hq1, hq2] at HSS
                rw [hq1] at HLD2
                obtain ⟨⟨T, E⟩, s2⟩ := q2
                obtain ⟨⟨T', E'⟩, d2⟩ := q1
                have he := HSS.out.1
                dsimp only at he HLD2
                injection he with he1 he2
                subst he1 he2
                have HSI2 : Hid (Sim s2 d2) := Lib.hid HSS.out.2
                have HC1 := Lib.hid (hw_ans HM.out (by have := HIN.out; have := H300.out; omega) ⟨HOK.out.2.2.1, HOK.out.1⟩ hq2)
                dsimp only at HC1
                go_upto_region 18 with (go_at_call 16; go_loud ((with_reducible refine Calls.mono HC1.out ?_); rintro e w4 ⟨rfl, hm4, hk4⟩; have HM4 := Lib.hid hm4; have HP4 := Lib.hid (hk4 _ _ HP.out); clear hm4 hk4))
                clear HC1 HM HP x0 x1 x2 x3 x4 x5
                have HC2 := Lib.hid (hw_rans HM4.out HLD.out (by have := HIN.out; have := H300.out; omega) ⟨HOK.out.2.1, HOK.out.2.2.1⟩ hq1)
                have x1 : w4.cell? ⟨Q, 1, none⟩ = some (.int .i64 fr) := by rw [HP4.out.cell 1]; rfl
                have x3 : w4.cell? ⟨Q, 3, none⟩ = some (.int .u64 pi) := by rw [HP4.out.cell 3]; rfl
                have x4 : w4.cell? ⟨Q, 4, none⟩ = some (.int .u64 ps) := by rw [HP4.out.cell 4]; rfl
                have x5 : w4.cell? ⟨Q, 5, none⟩ = some (.string pb) := by rw [HP4.out.cell 5]; rfl
                dsimp only at HC2
                clear hq1 hq2
                go_upto_region 25 with (go_at_call 17; go_loud ((with_reducible refine Calls.mono HC2.out ?_); rintro e w5 ⟨rfl, hm5, hk5⟩; have HM := Lib.hid hm5; have HP := Lib.hid (hk5 _ _ HP4.out); clear hm5 hk5))
                clear HC2 HM4 HP4 x1 x3 x4 x5
                have y1 : w5.cell? ⟨Q, 1, none⟩ = some (.int .i64 fr) := by rw [HP.out.cell 1]; rfl
                have HI1 := Lib.hid (hw_inc (HM.out.below (Below.refl _ w5).drew) HOK.out.1)
                have HI2 := Lib.hid (hw_rinc (HM.out.below (Below.refl _ w5).drew) HLD2.out (by have := HIN.out; have := H300.out; omega) (fr := fr))
                rw [Sim.inc HSI2.out fr] at HI2
                have HMD := Lib.hid (HM.out.below (Below.refl _ w5).drew)
                have z1 : w5.drew.cell? ⟨Q, 1, none⟩ = some (.int .i64 fr) := y1
                generalize incD s2 fr = ic at *
                have HFN : Hid (HeR w0 c h r n (.int .i64 ((i + 1 : Nat) : Int)) w5.drew) := Lib.hid ⟨i + 1, s2, d2, rfl, HIN.out, HMD.out, HSI2.out, HLD2.out⟩
                clear HM HMD HP
                go_region_held3 (fun w' => w'.cell? ⟨Q, 1, none⟩ = some (.int .i64 fr)) (first | exact y1 | exact z1 | go_keep) (first
                  | ((refine step_call (by rfl) 20 #[.pointer (some ⟨c, 0, none⟩), .int .i64 fr] (by simp only [execOp]; go_simp) HI1.out (fun e w' h => ⟨_, h.1⟩) ?_; intro v5 w5 h5; obtain ⟨hv5, hw5⟩ := h5; injection hv5 with hv5; subst hv5; subst hw5; clear HI1))
                  | ((refine step_call (by rfl) 21 #[.pointer (some ⟨r, 0, none⟩), .int .i64 fr] (by simp only [execOp]; go_simp) HI2.out (fun e w' h => ⟨_, h.1⟩) ?_; intro v6 w6 h6; obtain ⟨hv6, hw6⟩ := h6; injection hv6 with hv6; subst hv6; subst hw6; clear HI2)))
                go_wp2_with fail
                go_roundw
                case rel => rw [HE.out]; exact HFN.out
                case measure => have := HIN.out; rw [HE.out]; simp [intOf]; omega
              | false =>
                skip
                obtain ⟨q2, hq2⟩ : ∃ q, takeD s fr ⟨pa, pi, ps, pb⟩ = q := ⟨_, rfl⟩
                obtain ⟨q1, hq1⟩ : ∃ q, takeR d fr ⟨pa, pi, ps, pb⟩ = q := ⟨_, rfl⟩
                have HSS := Lib.hid (sim_take HSIM.out fr ⟨pa, pi, ps, pb⟩)
                have HLD2 := Lib.hid (LD.take HLD.out fr ⟨pa, pi, ps, pb⟩)
                rw [hq1, hq2] at HSS
                rw [hq1] at HLD2
                obtain ⟨⟨K, T, E⟩, s2⟩ := q2
                obtain ⟨⟨K', T', E'⟩, d2⟩ := q1
                have he := HSS.out.1
                dsimp only at he HLD2
                injection he with he1 he2
                injection he2 with he2 he3
                subst he1 he2 he3
                have HSI2 : Hid (Sim s2 d2) := Lib.hid HSS.out.2
                have HC1 := Lib.hid (hw_take HM.out (by have := HIN.out; have := H300.out; omega) (p := ⟨pa, pi, ps, pb⟩) ⟨HOK.out.2.2.1, HOK.out.1⟩ hq2)
                unfold pv pcells at HC1
                dsimp only at HC1
                go_upto_region 22 with (go_at_call 18; go_loud ((with_reducible refine Calls.mono HC1.out ?_); rintro e w4 ⟨rfl, hm4, hk4⟩; have HM4 := Lib.hid hm4; have HP4 := Lib.hid (hk4 _ _ HP.out); clear hm4 hk4))
                clear HC1 HM HP x0 x1 x2 x3 x4 x5
                have HC2 := Lib.hid (hw_rtake HM4.out HLD.out (by have := HIN.out; have := H300.out; omega) (p := ⟨pa, pi, ps, pb⟩) hq1)
                have x1 : w4.cell? ⟨Q, 1, none⟩ = some (.int .i64 fr) := by rw [HP4.out.cell 1]; rfl
                have x2 : w4.cell? ⟨Q, 2, none⟩ = some (.bool pa) := by rw [HP4.out.cell 2]; rfl
                have x3 : w4.cell? ⟨Q, 3, none⟩ = some (.int .u64 pi) := by rw [HP4.out.cell 3]; rfl
                have x4 : w4.cell? ⟨Q, 4, none⟩ = some (.int .u64 ps) := by rw [HP4.out.cell 4]; rfl
                have x5 : w4.cell? ⟨Q, 5, none⟩ = some (.string pb) := by rw [HP4.out.cell 5]; rfl
                unfold pv pcells at HC2
                dsimp only at HC2
                clear hq1 hq2
                go_upto_region 25 with (go_at_call 19; go_loud ((with_reducible refine Calls.mono HC2.out ?_); rintro e w5 ⟨rfl, hm5, hk5⟩; have HM := Lib.hid hm5; have HP := Lib.hid (hk5 _ _ HP4.out); clear hm5 hk5))
                clear HC2 HM4 HP4 x1 x2 x3 x4 x5
                have y1 : w5.cell? ⟨Q, 1, none⟩ = some (.int .i64 fr) := by rw [HP.out.cell 1]; rfl
                have HI1 := Lib.hid (hw_inc (HM.out.below (Below.refl _ w5).drew) HOK.out.1)
                have HI2 := Lib.hid (hw_rinc (HM.out.below (Below.refl _ w5).drew) HLD2.out (by have := HIN.out; have := H300.out; omega) (fr := fr))
                rw [Sim.inc HSI2.out fr] at HI2
                have HMD := Lib.hid (HM.out.below (Below.refl _ w5).drew)
                have z1 : w5.drew.cell? ⟨Q, 1, none⟩ = some (.int .i64 fr) := y1
                generalize incD s2 fr = ic at *
                have HFN : Hid (HeR w0 c h r n (.int .i64 ((i + 1 : Nat) : Int)) w5.drew) := Lib.hid ⟨i + 1, s2, d2, rfl, HIN.out, HMD.out, HSI2.out, HLD2.out⟩
                clear HM HMD HP
                go_region_held3 (fun w' => w'.cell? ⟨Q, 1, none⟩ = some (.int .i64 fr)) (first | exact y1 | exact z1 | go_keep) (first
                  | ((refine step_call (by rfl) 20 #[.pointer (some ⟨c, 0, none⟩), .int .i64 fr] (by simp only [execOp]; go_simp) HI1.out (fun e w' h => ⟨_, h.1⟩) ?_; intro v5 w5 h5; obtain ⟨hv5, hw5⟩ := h5; injection hv5 with hv5; subst hv5; subst hw5; clear HI1))
                  | ((refine step_call (by rfl) 21 #[.pointer (some ⟨r, 0, none⟩), .int .i64 fr] (by simp only [execOp]; go_simp) HI2.out (fun e w' h => ⟨_, h.1⟩) ?_; intro v6 w6 h6; obtain ⟨hv6, hw6⟩ := h6; injection hv6 with hv6; subst hv6; subst hw6; clear HI2)))
                go_wp2_with fail
                go_roundw
                case rel => rw [HE.out]; exact HFN.out
                case measure => have := HIN.out; rw [HE.out]; simp [intOf]; omega
            · obtain rfl : i = n := by have := HI.out; omega
              have hin' : ¬ (i : Int) < (i : Int) := by omega
              have HWK2 := Lib.hid (hears_works HM0.out.bel)
              clear hin HWK
              have HWK := HWK2
              go_wp2_with (go_at_call 9; ((with_reducible refine Calls.mono HWK.out ?_); rintro e w5 ⟨rfl, hbw⟩; have HBW := Lib.hid hbw; clear hbw))
              go_ret
              exact ⟨rfl, HBW.out⟩
end Go.Proofs.Ytgdgonmhgpflcaa
