
/- The walk of the document's answer on whether two programs are the same. No condition but that rows are not too long. -/
import Derived.Test.YtbpakckiglgjfaaCodeF
import Derived.Test.YtbpakckiglgjfaaCodeT
namespace Go.Proofs.Ytbpakckiglgjfaa
open Go.RowKit Cd
set_option linter.unusedVariables false
def SCut (w : World) (f g : FunV) (v u : Value) (p q : Value) (wc : World) : Prop := ∃ b c, p = .pointer (some ⟨b, 0, none⟩) ∧ q = .pointer (some ⟨c, 0, none⟩) ∧ Blk wc b 41 #[.int .i64 f.args, .int .i64 f.regs, v] ∧ Blk wc c 41 #[.int .i64 g.args, .int .i64 g.regs, u] ∧ Below w.heap.size w wc
set_option maxRecDepth 100000 in
set_option maxHeartbeats 8000000 in
theorem rsame_go {l m : List FunV} {W : World} {v u : Value} (hv : FunsAt W v l) (hu : FunsAt W u m) (hl : Lim l) :
    Calls Try.prog 17 #[.agg #[v], .agg #[u]] W fun e w' => (∃ r : Bool, e = .returned (.bool r) ∧ r = decide (l = m)) ∧ Below W.heap.size W w' := by
  have HB0 := Lib.hid (((Below.refl _ W).alloc (Nat.le_refl _) (.cells #[v] 24)).alloc (by simp) (.cells #[u] 24))
  have HT1 := Lib.hid ((Blk.new W 24 #[v]).alloc (.cells #[u] 24))
  have HT2 : Hid (Blk ((W.alloc (.cells #[v] 24)).alloc (.cells #[u] 24)) (W.heap.size + 1) 24 #[u]) := Lib.hid (by
    have := Blk.new (W.alloc (.cells #[v] 24)) 24 #[u]
    simpa using this)
  have HV := Lib.hid hv
  have HW := Lib.hid hu
  have HLL := Lib.hid hl.2
  have hl60 := hl.1
  obtain ⟨p1, c1, rfl⟩ := hv.slice
  obtain ⟨p2, c2, rfl⟩ := hu.slice
  clear hv hu hl
  by_cases hlen : l.length = m.length
  · have hlen' : ((l.length : Int) == (m.length : Int)) = true := by simp [hlen]
    have HLEN := Lib.hid hlen
    clear hlen
    go_enter Try.func17, Try.ntmps17
    go_wp2
    clear hlen'
    generalize ((l.length : Int) != (m.length : Int)) = bz
    have hz0 : EqRel l m ((W.alloc (.cells #[.slice p1 l.length c1] 24)).alloc (.cells #[.slice p2 m.length c2] 24)) (.int .i64 0) ((W.alloc (.cells #[.slice p1 l.length c1] 24)).alloc (.cells #[.slice p2 m.length c2] 24)) := ⟨0, by omega, rfl, rfl, Below.refl _ _⟩
    generalize (W.alloc (.cells #[.slice p1 l.length c1] 24)).alloc (.cells #[.slice p2 m.length c2] 24) = w0 at *
    go_loopw [5] (fun i wr => EqRel l m w0 i wr) (fun i _ => ((l.length : Int) - intOf i).toNat)
    case atStart => exact hz0
    case round =>
      clear hz0
      obtain ⟨k, hk1, rfl, htk, hb⟩ := hrel
      have HB := Lib.hid hb
      have z0 : wr.cell? ⟨W.heap.size, 0, none⟩ = some (.slice p1 l.length c1) := (HT1.out.below hb).cell 0
      have z1 : wr.cell? ⟨W.heap.size + 1, 0, none⟩ = some (.slice p2 m.length c2) := (HT2.out.below hb).cell 0
      have hzl := And.intro (HT1.out.below hb).lt (HT2.out.below hb).lt
      by_cases hk : k < l.length
      · have hk2 : k < m.length := by have := HLEN.out; omega
        obtain ⟨p1', c1', e1, hx⟩ := HV.out
        injection e1 with e1 e2 e3
        subst e1 e3
        obtain ⟨g1, o1, rfl, hg1, hx⟩ := hx (by omega)
        obtain ⟨p2', c2', e1, hy⟩ := HW.out
        injection e1 with e1 e2 e3
        subst e1 e3
        obtain ⟨g2, o2, rfl, hg2, hy⟩ := hy (by omega)
        obtain ⟨x0, x1, vo, x2, hvo⟩ := hx k hk
        obtain ⟨y0, y1, uo, y2, huo⟩ := hy k hk2
        have hbW := HB0.out.trans (hb.mono HB0.out.size)
        rw [← hbW.cell (p := ⟨g1, _, none⟩) hg1] at x0 x1 x2
        rw [← hbW.cell (p := ⟨g2, _, none⟩) hg2] at y0 y1 y2
        obtain ⟨p3, c3, rfl⟩ := hvo.slice
        obtain ⟨p4, c4, rfl⟩ := huo.slice
        have hne := fun e => ne_of_at (a := l) (b := m) hk hk2 e
        have heq := fun e => take_succ_eq (a := l) (b := m) hk hk2 htk e
        have hki : (k : Int) < (m.length : Int) := by omega
        have hki1 : (k : Int) < (l.length : Int) := by omega
        have hki0 : (0 : Int) ≤ (k : Int) := by omega
        have hgl : g1 < wr.heap.size ∧ g2 < wr.heap.size := by have := hbW.size; omega
        have HVO := Lib.hid hvo
        have HUO := Lib.hid huo
        have HBW := Lib.hid hbW
        have hfl := HLL.out _ (List.getElem_mem hk)
        clear hx hy hb htk hvo huo hbW
        generalize l[k] = fa at *
        generalize m[k] = fb at *
        have HNE := Lib.hid hne
        have HEQ := Lib.hid heq
        clear hne heq
        go_upto_region 6 with fail
        go_cut [6, 7] (fun p q wc => SCut wr fa fb (.slice p3 fa.ops.length c3) (.slice p4 fb.ops.length c4) p q wc)
        case first => as_aux_lemma =>
          clear HNE HEQ HVO HUO HBW HB HB0 HT1 HT2 HV HW HLL HLEN
          go_region
          all_goals (go_wp2_with fail; go_meet)
          all_goals first
            | exact ⟨_, _, rfl, rfl, ((Blk.new _ _ _).alloc _).drew, (Blk.new2 _ _ _ _).drew, (((Below.refl _ wr).alloc (Nat.le_refl _) _).alloc (by simp) _).drew⟩
            | exact ⟨_, _, rfl, rfl, (Blk.new2 _ _ _ _).drew, ((Blk.new _ _ _).alloc _).drew, (((Below.refl _ wr).alloc (Nat.le_refl _) _).alloc (by simp) _).drew⟩
        case rest =>
          obtain ⟨fb1, fc1, rfl, rfl, hF, hG, hbc⟩ := hcut
          have HBC := Lib.hid (HB.out.trans (hbc.mono HB.out.size))
          have HVC := Lib.hid ((HVO.out.below HBW.out).below hbc)
          have HUC := Lib.hid ((HUO.out.below HBW.out).below hbc)
          have HFc := Lib.hid hF
          have HGc := Lib.hid hG
          obtain ⟨a0, a1, al⟩ := fa
          obtain ⟨b0, b1, bl⟩ := fb
          simp only at HFc HGc HVC HUC hfl
          have u0 : wc.cell? ⟨fb1, 0, none⟩ = some (.int .i64 a0) := HFc.out.cell 0
          have u1 : wc.cell? ⟨fb1, 1, none⟩ = some (.int .i64 a1) := HFc.out.cell 1
          have u2 : wc.cell? ⟨fb1, 2, none⟩ = some (.slice p3 al.length c3) := HFc.out.cell 2
          have v0 : wc.cell? ⟨fc1, 0, none⟩ = some (.int .i64 b0) := HGc.out.cell 0
          have v1 : wc.cell? ⟨fc1, 1, none⟩ = some (.int .i64 b1) := HGc.out.cell 1
          have v2 : wc.cell? ⟨fc1, 2, none⟩ = some (.slice p4 bl.length c4) := HGc.out.cell 2
          clear hF hG hbc x0 x1 x2 y0 y1 y2 z0 z1 HVO HUO HBW HB hgl hzl hx hy
          by_cases e0 : a0 = b0
          · subst e0
            by_cases e1 : a1 = b1
            · subst e1
              by_cases e2 : al.length = bl.length
              · have e2' : ((al.length : Int) == (bl.length : Int)) = true := by simp [e2]
                have hne2 := fun (h : ¬ al = bl) => HNE.out (fun e => h (congrArg FunV.ops e))
                have heq2 := fun (h : al = bl) => HEQ.out (by rw [h])
                have HNE2 := Lib.hid hne2
                have HEQ2 := Lib.hid heq2
                have E2 := Lib.hid e2
                clear hne2 heq2 HNE HEQ e2
                go_wp2
                clear e2'
                generalize ((al.length : Int) != (bl.length : Int)) = bz2
                have hz1 : EqRel al bl wc (.int .i64 0) wc := ⟨0, by omega, rfl, rfl, Below.refl _ _⟩
                clear u0 u1 u2 v0 v1 v2
                go_loopw [8] (fun i wq => EqRel al bl wc i wq) (fun i _ => ((al.length : Int) - intOf i).toNat)
                case atStart => exact hz1
                case round =>
                  clear hz1
                  obtain ⟨j, hj1, rfl, htj, hb2⟩ := hrel
                  have HB2 := Lib.hid hb2
                  have u2 : wr.cell? ⟨fb1, 2, none⟩ = some (.slice p3 al.length c3) := (HFc.out.below hb2).cell 2
                  have v2 : wr.cell? ⟨fc1, 2, none⟩ = some (.slice p4 bl.length c4) := (HGc.out.below hb2).cell 2
                  by_cases hj : j < al.length
                  · have hj2 : j < bl.length := by have := E2.out; omega
                    obtain ⟨p5, c5, e5, hx⟩ := HVC.out
                    injection e5 with e5 e6 e7
                    subst e5 e7
                    obtain ⟨g3, o3, rfl, hg3, hx⟩ := hx (by omega)
                    obtain ⟨p6, c6, e5, hy⟩ := HUC.out
                    injection e5 with e5 e6 e7
                    subst e5 e7
                    obtain ⟨g4, o4, rfl, hg4, hy⟩ := hy (by omega)
                    have x0 := hx j hj 0 (by omega)
                    have x1 := hx j hj 1 (by omega)
                    have x2 := hx j hj 2 (by omega)
                    have x3 := hx j hj 3 (by omega)
                    have x4 := hx j hj 4 (by omega)
                    have y0 := hy j hj2 0 (by omega)
                    have y1 := hy j hj2 1 (by omega)
                    have y2 := hy j hj2 2 (by omega)
                    have y3 := hy j hj2 3 (by omega)
                    have y4 := hy j hj2 4 (by omega)
                    rw [← hb2.cell (p := ⟨g3, _, none⟩) hg3] at x0 x1 x2 x3 x4
                    rw [← hb2.cell (p := ⟨g4, _, none⟩) hg4] at y0 y1 y2 y3 y4
                    have hne := fun e => HNE2.out (ne_of_at (a := al) (b := bl) hj hj2 e)
                    have heq := fun e => take_succ_eq (a := al) (b := bl) hj hj2 htj e
                    have hki : (j : Int) < (bl.length : Int) := by omega
                    have hki1 : (j : Int) < (al.length : Int) := by omega
                    have hki0 : (0 : Int) ≤ (j : Int) := by omega
                    clear hx hy hb2 htj
                    generalize al[j] = oa at *
                    generalize bl[j] = ob at *
                    obtain ⟨q0, q1, q2, q3, q4⟩ := oa
                    obtain ⟨r0, r1, r2, r3, r4⟩ := ob
                    simp only [opA] at x0 x1 x2 x3 x4 y0 y1 y2 y3 y4
                    simp at x0 x1 x2 x3 x4 y0 y1 y2 y3 y4
                    have HNE := Lib.hid hne
                    have HEQ := Lib.hid heq
                    clear hne heq HFc HGc HVC HUC HNE2 HEQ2
                    by_cases e0 : q0 = r0
                    · subst e0
                      by_cases e1 : q1 = r1
                      · subst e1
                        by_cases e2 : q2 = r2
                        · subst e2
                          by_cases e3 : q3 = r3
                          · subst e3
                            by_cases e4 : q4 = r4
                            · subst e4
                              have hn := Lib.hid (HEQ.out rfl)
                              clear HEQ HNE
                              go_wp2
                              go_quiet (fail)
                              go_wp2
                              go_roundw
                              case rel => exact ⟨j + 1, by omega, rfl, hn.out, HB2.out.trans ((drewN_below' wr _).mono HB2.out.size)⟩
                              case measure => simp [intOf]; omega
                            · as_aux_lemma =>
                              have hn := Lib.hid (HNE.out (fun h => e4 (congrArg OpV.n h)))
                              have hb' : (q4 == r4) = false := by simpa using e4
                              clear HEQ HNE e4
                              go_wp2
                              go_quiet (fail)
                              go_wp2
                              go_ret
                              exact ⟨⟨false, rfl, (decide_eq_false hn.out).symm⟩, HB0.out.trans ((HBC.out.trans ((HB2.out.trans ((drewN_below' wr _).mono HB2.out.size)).mono HBC.out.size)).mono HB0.out.size)⟩
                          · as_aux_lemma =>
                            have hn := Lib.hid (HNE.out (fun h => e3 (congrArg OpV.b h)))
                            have hb' : (q3 == r3) = false := by simpa using e3
                            clear HEQ HNE e3
                            go_wp2
                            go_quiet (fail)
                            go_wp2
                            go_ret
                            exact ⟨⟨false, rfl, (decide_eq_false hn.out).symm⟩, HB0.out.trans ((HBC.out.trans ((HB2.out.trans ((drewN_below' wr _).mono HB2.out.size)).mono HBC.out.size)).mono HB0.out.size)⟩
                        · as_aux_lemma =>
                          have hn := Lib.hid (HNE.out (fun h => e2 (congrArg OpV.a h)))
                          have hb' : (q2 == r2) = false := by simpa using e2
                          clear HEQ HNE e2
                          go_wp2
                          go_quiet (fail)
                          go_wp2
                          go_ret
                          exact ⟨⟨false, rfl, (decide_eq_false hn.out).symm⟩, HB0.out.trans ((HBC.out.trans ((HB2.out.trans ((drewN_below' wr _).mono HB2.out.size)).mono HBC.out.size)).mono HB0.out.size)⟩
                      · as_aux_lemma =>
                        have hn := Lib.hid (HNE.out (fun h => e1 (congrArg OpV.d h)))
                        have hb' : (q1 == r1) = false := by simpa using e1
                        clear HEQ HNE e1
                        go_wp2
                        go_quiet (fail)
                        go_wp2
                        go_ret
                        exact ⟨⟨false, rfl, (decide_eq_false hn.out).symm⟩, HB0.out.trans ((HBC.out.trans ((HB2.out.trans ((drewN_below' wr _).mono HB2.out.size)).mono HBC.out.size)).mono HB0.out.size)⟩
                    · as_aux_lemma =>
                      have hn := Lib.hid (HNE.out (fun h => e0 (congrArg OpV.k h)))
                      have hb' : (q0 == r0) = false := by simpa using e0
                      clear HEQ HNE e0
                      go_wp2
                      go_quiet (fail)
                      go_wp2
                      go_ret
                      exact ⟨⟨false, rfl, (decide_eq_false hn.out).symm⟩, HB0.out.trans ((HBC.out.trans ((HB2.out.trans ((drewN_below' wr _).mono HB2.out.size)).mono HBC.out.size)).mono HB0.out.size)⟩
                  · have : j = al.length := by omega
                    subst this
                    have HE := Lib.hid (HEQ2.out (eq_of_take E2.out htj))
                    clear htj HFc HGc HVC HUC HNE2 HEQ2 hb2
                    go_wp2
                    go_roundw
                    case rel => exact ⟨k + 1, by omega, rfl, HE.out, HBC.out.trans (HB2.out.mono HBC.out.size)⟩
                    case measure => simp [intOf]; omega
              · have e2' : ((al.length : Int) == (bl.length : Int)) = false := by simpa using fun e => e2 (by omega)
                have hn := Lib.hid (HNE.out (fun h => e2 (congrArg (fun f : FunV => f.ops.length) h)))
                clear HNE HEQ e2 HVC HUC HFc HGc
                go_wp2
                go_ret
                first | exact ⟨⟨false, rfl, (decide_eq_false hn.out).symm⟩, HB0.out.trans (HBC.out.mono HB0.out.size)⟩ | exact ⟨by rw [decide_eq_false hn.out]; rfl, HB0.out.trans (HBC.out.mono HB0.out.size)⟩
            · have e1' : (a1 == b1) = false := by simpa using e1
              have hn := Lib.hid (HNE.out (fun h => e1 (congrArg FunV.regs h)))
              clear HNE HEQ e1 HVC HUC HFc HGc
              go_wp2
              go_ret
              first | exact ⟨⟨false, rfl, (decide_eq_false hn.out).symm⟩, HB0.out.trans (HBC.out.mono HB0.out.size)⟩ | exact ⟨by rw [decide_eq_false hn.out]; rfl, HB0.out.trans (HBC.out.mono HB0.out.size)⟩
          · have e0' : (a0 == b0) = false := by simpa using e0
            have hn := Lib.hid (HNE.out (fun h => e0 (congrArg FunV.args h)))
            clear HNE HEQ e0 HVC HUC HFc HGc
            go_wp2
            all_goals go_ret
            all_goals first | exact ⟨⟨false, rfl, (decide_eq_false hn.out).symm⟩, HB0.out.trans (HBC.out.mono HB0.out.size)⟩ | exact ⟨by rw [decide_eq_false hn.out]; rfl, HB0.out.trans (HBC.out.mono HB0.out.size)⟩
      · have : k = l.length := by omega
        subst this
        have HE := Lib.hid (eq_of_take HLEN.out htk)
        clear htk
        go_wp2
        go_ret
        exact ⟨⟨true, rfl, (decide_eq_true HE.out).symm⟩, HB0.out.trans (HB.out.mono HB0.out.size)⟩
  · have hlen' : ((l.length : Int) == (m.length : Int)) = false := by simpa using fun e => hlen (by omega)
    have HN := Lib.hid (show ¬ l = m from fun e => hlen (by rw [e]))
    clear hlen
    go_enter Try.func17, Try.ntmps17
    go_wp2
    go_ret
    exact ⟨⟨false, rfl, (decide_eq_false HN.out).symm⟩, HB0.out⟩
theorem rsame_any {l m : List FunV} {W : World} {v u : Value} (hv : FunsAt W v l) (hu : FunsAt W u m) (hl : Lim l) :
    Calls Try.prog 17 #[.agg #[v], .agg #[u]] W fun e w' => e = .returned (.bool (decide (l = m))) ∧ Below W.heap.size W w' :=
  (rsame_go hv hu hl).mono fun e w' ⟨⟨r, he, hr⟩, hb⟩ => ⟨by rw [he, hr], hb⟩
end Go.Proofs.Ytbpakckiglgjfaa
