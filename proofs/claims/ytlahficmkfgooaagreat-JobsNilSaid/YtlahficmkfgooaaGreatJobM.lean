import Derived.Test.YtlahficmkfgooaaGreatMgn
import Derived.Test.YtlahficmkfgooaaGreatMgo

/- The walk of may: which rows may be. No condition but that rows are not too many and their texts not beyond any bound. -/
namespace Go.Proofs.YtlahficmkfgooaaGreat
open Go.RowKit Go.Maps Jb
set_option linter.unusedVariables false
set_option linter.unusedSimpArgs false
namespace Jb
def icE : Value → Option (Ml.DV × List MemPlace)
  | .int .i64 x => some (.lit (.int .i64 x), [])
  | _ => none
theorem icE_inv {v : Value} {a : Int} {ps : List MemPlace} (h : icE v = some (.lit (.int .i64 a), ps)) : v = .int .i64 a := by
  unfold icE at h
  split at h
  · simp only [Option.some.injEq, Prod.mk.injEq, DataW.lit.injEq, Lit.int.injEq, true_and] at h
    rw [h.1]
  · cases h
/-- Tokens that were met, each once. -/
def layM : Ml.Lay ByteArray where
  key a := KT a
  val _ := .int .i64 1
  dat _ := .lit (.int .i64 1)
  rd := icE
  rdm _ := rfl
  inv _ _ _ h := icE_inv h
  lit _ := trivial
end Jb
theorem zI (w : World) : (zeroValue 3).run Tryz.prog w = .ok (.int .i64 0) w := Tryz.zeroValue3 w
theorem met_hit {w : World} {h N : Nat} {L : List ByteArray} (m : Ml.At layM Tryz.prog 9 w h L N) {t : ByteArray} (ht : t ∈ L) (hs : t.size ≤ maxLen) : (Instr.lookup 113 (.map (some h)) (.string t) false).run Tryz.prog w = .ok (.int .i64 1) w :=
  m.at jkdT Tryz.underlying113 (zI w) (zd := .lit (.int .i64 0)) rfl ht (jkeyT hs)
theorem met_miss {w : World} {h N : Nat} {L : List ByteArray} (m : Ml.At layM Tryz.prog 9 w h L N) {t : ByteArray} (ht : t ∉ L) (hs : t.size ≤ maxLen) : (Instr.lookup 113 (.map (some h)) (.string t) false).run Tryz.prog w = .ok (.int .i64 0) w := by
  obtain ⟨D, o, h1, h2, h3⟩ := m
  obtain ⟨v, ps, hr, hv⟩ := World.ownsMap.lookup o jkdT Tryz.underlying113 (zI w) (zd := .lit (.int .i64 0)) rfl (jkeyT hs)
  have hf : Maps.has D (KT t) = false := by
    cases hh : Maps.has D (KT t) with
    | false => rfl
    | true =>
      obtain ⟨a, ha, e⟩ := (h2 _).1 hh
      exact absurd (by have : a = t := KT_inj e; exact this ▸ ha) ht
  rw [atKey_of_not_has hf] at hv
  rw [hr, icE_inv hv]
/-- Rows whose numbers and texts fit their kinds. -/
def JOk (l : List JR) : Prop := ∀ r ∈ l, U64 r.job ∧ r.tok.size ≤ maxLen ∧ r.inp.length ≤ 100
structure MyI (W : World) (l : List JR) (last : Int) (hm i : Nat) (wr : World) : Prop where
  eq : rowsB last (l.take i) (l.drop i) = rowsB last [] l
  mp : Ml.At layM Tryz.prog 9 wr hm ((l.take i).map (·.tok)) i
  bel : Below W.heap.size W wr
  ge : W.heap.size ≤ hm
def MyP (w : World) (l : List JR) (last : Int) (e : Ending) (w' : World) : Prop := e = .returned (.bool (mayB l last)) ∧ Below w.heap.size w w'
set_option maxRecDepth 100000 in
set_option maxHeartbeats 8000000 in
theorem may_w {W : World} {v : Value} {l : List JR} {last : Int} (hv : RowsAt W v l) (hl : l.length ≤ 1000000) (ho : JOk l) : Calls Tryz.prog 31 #[v, .int .u64 last] W (MyP W l last) := by
  have HV := Lib.hid hv
  have HL := Lib.hid (And.intro hl ho)
  obtain ⟨p, cap, rfl⟩ := hv.slice
  obtain ⟨n, hn⟩ : ∃ n, n = l.length := ⟨_, rfl⟩
  rw [← hn] at HV ⊢
  have HN := Lib.hid hn
  have HM0 := Lib.hid ((Ml.At.made W Tryz.prog 9 layM))
  have HB0 := Lib.hid ((Below.refl _ W).alloc (Nat.le_refl _) (.map #[] 0))
  have hmm := @run_makeMap Tryz.prog
  clear hv hl ho hn
  go_enter Tryz.func31, Tryz.ntmps31
  go_wp2_with fail
  clear hmm
  have hst : MyI W l last W.heap.size 0 (W.alloc (.map #[] 0)) := ⟨rfl, HM0.out, HB0.out, Nat.le_refl _⟩
  have HST := Lib.hid hst
  clear hst HM0 HB0
  generalize W.alloc (.map #[] 0) = w0 at *
  generalize hh : W.heap.size = hm at *
  have HH := Lib.hid hh
  clear hh
  go_loopw [6, 13] (fun u6 u13 wr => ∃ i : Nat, i ≤ n ∧ u13 = .int .i64 (i : Nat) ∧ u6 = .int .u64 (lastJ (l.take i)) ∧ MyI W l last hm i wr) (fun _ u13 _ => ((n : Int) - intOf u13).toNat)
  case atStart => exact ⟨0, Nat.zero_le _, rfl, rfl, HST.out⟩
  case round =>
    clear HST
    obtain ⟨i, hi0, rfl, rfl, hI⟩ := hrel
    have HI := Lib.hid hI
    by_cases hi : i < n
    · have hil : i < l.length := by have := HN.out; omega
      have hrw := HV.out.below (by have := hI.bel; exact this)
      obtain ⟨p', cap', e1, hx⟩ := hrw
      injection e1 with e1 e2 e3
      subst e1 e3
      clear e2
      obtain ⟨g, off, hpe, hgl, hx2⟩ := hx (by omega)
      clear hx
      subst hpe
      obtain ⟨vi, hvi, hcl⟩ := hx2 i hil
      have hok := HL.out.2 _ (List.getElem_mem hil)
      have HSP : Hid (l.take (i + 1) = l.take i ++ [l[i]] ∧ l.drop i = l[i] :: l.drop (i + 1)) := Lib.hid ⟨List.take_succ_eq_append_getElem hil, (List.getElem_cons_drop hil).symm⟩
      clear hx2
      generalize l[i] = x at *
      clear hil
      obtain ⟨xj, xt, xp, xi, xf, xs, xv, xe⟩ := x
      obtain ⟨pi, ci, rfl⟩ := hvi.slice
      obtain ⟨k, hk⟩ : ∃ k, k = xi.length := ⟨_, rfl⟩
      dsimp only at hok hvi hk
      have HCL := Lib.hid hcl
      have hvi' := hvi
      dsimp only at hcl
      rw [← hk] at hvi'
      have HVI := Lib.hid hvi'
      have HK := Lib.hid hk
      have HOK := Lib.hid hok
      have HIN := Lib.hid hi
      have hi' : (i : Int) < (n : Int) := by omega
      have HE : Hid (wrap64 ((i : Int) + 1) = ((i + 1 : Nat) : Int)) := Lib.hid (by have := HL.out.1; have := HN.out; unfold wrap64; omega)
      have HCE : Hid (∀ j u, (jcells ⟨xj, xt, xp, xi, xf, xs, xv, xe⟩ (.slice pi k ci))[j]? = some u → wr.cell? ⟨g, off + i * 8 + j, none⟩ = some u) := Lib.hid (by rw [hk]; exact hcl)
      clear hvi hvi' hcl hok hk hi0 hi HCL hI
      go_upto_region 6 with (first
        | (refine wpl_load_part rfl _ _ rfl g (off + i * 8) rfl (jcells ⟨xj, xt, xp, xi, xf, xs, xv, xe⟩ (.slice pi k ci)) _ HCE.out Tryz.underlying48 rfl (by kernel_rfl) ?_)
        | (refine wpl_store_blk (c' := (jcells ⟨xj, xt, xp, xi, xf, xs, xv, xe⟩ (.slice pi k ci)).toArray) (Blk.new _ _ _) rfl _ _ _ rfl rfl rfl (by kernel_rfl) rfl (by simp [jcells, Value.oneCell']) ?_; go_loud (intro w1 hb1 ho1; have HP := Lib.hid hb1; have HW1 := Lib.hid (al_step ho1); clear hb1 ho1)))
      clear HCE
      have HI1 : Hid (MyI W l last hm i w1) := Lib.hid ⟨HI.out.eq, HI.out.mp.below HW1.out, HI.out.bel.trans (HW1.out.mono HI.out.bel.size), HI.out.ge⟩
      have HVI1 := Lib.hid (HVI.out.below HW1.out)
      clear HW1 HI
      obtain ⟨P, hP⟩ : ∃ P, P = wr.heap.size := ⟨_, rfl⟩
      rw [← hP] at HP ⊢
      clear hP
      have p5 : w1.cell? ⟨P, 5, none⟩ = some (.int .u8 xs) := HP.out.cell 5
      have p6 : w1.cell? ⟨P, 6, none⟩ = some (.int .i64 xv) := HP.out.cell 6
      have p7 : w1.cell? ⟨P, 7, none⟩ = some (.int .i64 xe) := HP.out.cell 7
      obtain ⟨sb, hsb⟩ : ∃ sb, sb = stB ⟨xj, xt, xp, xi, xf, xs, xv, xe⟩ := ⟨_, rfl⟩
      have HSB := Lib.hid hsb
      clear hsb
      go_frame
      go_cut [9] (fun u9 wc => u9 = .bool sb ∧ wc = w1)
      case first =>
        have HX := Lib.hid (HSB.out.trans (by unfold stB; rfl))
        by_cases h2 : xs = 2
        · subst h2
          have hb : sb = true := by rw [HX.out]; simp
          subst hb
          go_wp2_with fail
          go_meet
          exact ⟨rfl, rfl⟩
        · have h2' : (xs == 2) = false := by simpa using h2
          by_cases h1 : xs = 1
          · subst h1
            by_cases hv0 : xv = 0
            · by_cases he0 : xe = 0
              · subst hv0 he0
                have hb : sb = true := by rw [HX.out]; simp
                subst hb
                clear h2
                go_wp2_with fail
                go_meet
                exact ⟨rfl, rfl⟩
              · have he0' : (xe == 0) = false := by simpa using he0
                have hb : sb = false := by rw [HX.out]; simp [he0]
                subst hb hv0
                clear h2 he0
                go_wp2_with fail
                go_meet
                exact ⟨rfl, rfl⟩
            · have hv0' : (xv == 0) = false := by simpa using hv0
              have hb : sb = false := by rw [HX.out]; simp [hv0]
              subst hb
              clear h2 hv0
              go_wp2_with fail
              go_meet
              exact ⟨rfl, rfl⟩
          · have h1' : (xs == 1) = false := by simpa using h1
            by_cases h3 : xs = 3
            · subst h3
              clear h1 h1'
              by_cases hv0 : xv = 0
              · by_cases he0 : xe = 0
                · subst hv0 he0
                  have hb : sb = true := by rw [HX.out]; simp
                  subst hb
                  clear h2
                  go_wp2_with fail
                  go_meet
                  exact ⟨rfl, rfl⟩
                · have he0' : (xe == 0) = false := by simpa using he0
                  have hb : sb = false := by rw [HX.out]; simp [he0]
                  subst hb hv0
                  clear h2 he0
                  go_wp2_with fail
                  go_meet
                  exact ⟨rfl, rfl⟩
              · have hv0' : (xv == 0) = false := by simpa using hv0
                have hb : sb = false := by rw [HX.out]; simp [hv0]
                subst hb
                clear h2 hv0
                go_wp2_with fail
                go_meet
                exact ⟨rfl, rfl⟩
            · have h3' : (xs == 3) = false := by simpa using h3
              have hb : sb = false := by rw [HX.out]; simp [h1, h2, h3]
              subst hb
              clear h1 h2 h3
              go_wp2_with fail
              go_meet
              exact ⟨rfl, rfl⟩
      case rest =>
        obtain ⟨rfl, hwc⟩ := hcut
        have hwc := hwc.symm
        subst hwc
        clear p5 p6 p7
        have p0 : w1.cell? ⟨P, 0, none⟩ = some (.int .u64 xj) := HP.out.cell 0
        have p1 : w1.cell? ⟨P, 1, none⟩ = some (.string xt) := HP.out.cell 1
        have p2 : w1.cell? ⟨P, 2, none⟩ = some (.string xp) := HP.out.cell 2
        have p3 : w1.cell? ⟨P, 3, none⟩ = some (.slice pi k ci) := HP.out.cell 3
        have p4 : w1.cell? ⟨P, 4, none⟩ = some (.int .i64 xf) := HP.out.cell 4
        have HTO := Lib.hid (token_any xt w1)
        obtain ⟨ak, hak⟩ : ∃ ak, ak = askE xp xi.length xf := ⟨_, rfl⟩
        have HAK : Hid (Calls Tryz.prog 50 #[.string xp, .slice pi k ci, .int .i64 xf] w1 fun e w' => e = .returned (.int .i64 ak) ∧ Below w1.heap.size w1 w') := Lib.hid (by rw [hak, ← HK.out]; exact asked_any xp pi k ci xf w1)
        have HAKE := Lib.hid hak
        obtain ⟨a, ha⟩ : ∃ a, a = lastJ (l.take i) := ⟨_, rfl⟩
        rw [← ha]
        have HA := Lib.hid ha
        have HMB : Hid (rowB last (l.take i) ⟨xj, xt, xp, xi, xf, xs, xv, xe⟩ = false → mayB l last = false) := Lib.hid (fun hb => by
          unfold mayB
          rw [← HI1.out.eq, HSP.out.2]
          show ((rowB last (l.take i) ⟨xj, xt, xp, xi, xf, xs, xv, xe⟩ && _) && _) = false
          rw [hb]; rfl)
        have HRB := Lib.hid (rowB_iff (last := last) (ahead := l.take i) (r := ⟨xj, xt, xp, xi, xf, xs, xv, xe⟩))
        clear hak ha
        by_cases g1 : xj ≤ a
        · have HMF : Hid (mayB l last = false) := Lib.hid (HMB.out (Bool.eq_false_iff.2 (fun hb => by have h1 := (HRB.out.1 hb).1; rw [← HA.out] at h1; dsimp only at h1; omega)))
          go_wp2_with fail
          go_ret
          exact ⟨by rw [HMF.out]; rfl, HI1.out.bel⟩
        · by_cases g2 : last < xj
          · have HMF : Hid (mayB l last = false) := Lib.hid (HMB.out (Bool.eq_false_iff.2 (fun hb => by have h1 := (HRB.out.1 hb).2.1; dsimp only at h1; omega)))
            go_wp2_with fail
            go_ret
            exact ⟨by rw [HMF.out]; rfl, HI1.out.bel⟩
          · cases g3 : tokB xt with
            | false =>
              rw [g3] at HTO
              have HMF : Hid (mayB l last = false) := Lib.hid (HMB.out (Bool.eq_false_iff.2 (fun hb => by have h1 := (HRB.out.1 hb).2.2.1; dsimp only at h1; rw [g3] at h1; cases h1)))
              clear g3
              go_wp2_with (go_at_call 48; go_loud ((with_reducible refine HTO.out.mono ?_); rintro e w9 ⟨rfl, hw9⟩; have hw9 := hw9.symm; subst hw9))
              go_ret
              exact ⟨by rw [HMF.out]; rfl, HI1.out.bel⟩
            | true =>
              rw [g3] at HTO
              have HTB := Lib.hid g3
              clear g3
              by_cases g4 : xt ∈ (l.take i).map (·.tok)
              · have hlk := met_hit HI1.out.mp g4 HOK.out.2.1
                have HMF : Hid (mayB l last = false) := Lib.hid (HMB.out (Bool.eq_false_iff.2 (fun hb => by
                  have h1 := (HRB.out.1 hb).2.2.2.1
                  obtain ⟨y, hy, e⟩ := List.mem_map.1 g4
                  exact h1 y hy e)))
                clear g4
                go_wp2_with (go_at_call 48; go_loud ((with_reducible refine HTO.out.mono ?_); rintro e w9 ⟨rfl, hw9⟩; have hw9 := hw9.symm; subst hw9))
                go_ret
                exact ⟨by rw [HMF.out]; rfl, HI1.out.bel⟩
              · have hlk := met_miss HI1.out.mp g4 HOK.out.2.1
                have HNM := Lib.hid g4
                clear g4
                by_cases g5 : ak = 0
                · subst g5
                  cases sb with
                  | false =>
                    have HMF : Hid (mayB l last = false) := Lib.hid (HMB.out (Bool.eq_false_iff.2 (fun hb => by have h1 := (HRB.out.1 hb).2.2.2.2.2.1; rw [← HSB.out] at h1; cases h1)))
                    go_wp2_with (first | (go_at_call 48; go_loud ((with_reducible refine HTO.out.mono ?_); rintro e w9 ⟨rfl, hw9⟩; have hw9 := hw9.symm; subst hw9)) | (go_at_call 50; go_loud ((with_reducible refine HAK.out.mono ?_); rintro e w4 ⟨rfl, hb1⟩; have HB4 := Lib.hid hb1; have p6 : w4.cell? ⟨P, 6, none⟩ = some (.int .i64 xv) := (HP.out.below hb1).cell 6; have p7 : w4.cell? ⟨P, 7, none⟩ = some (.int .i64 xe) := (HP.out.below hb1).cell 7; clear hb1 hlk)))
                    go_ret
                    exact ⟨by rw [HMF.out]; rfl, HI1.out.bel.trans (HB4.out.mono HI1.out.bel.size)⟩
                  | true =>
                    obtain ⟨rb, hrb⟩ : ∃ rb, rb = resB xv xe := ⟨_, rfl⟩
                    have HRS := Lib.hid hrb.symm
                    clear hrb
                    cases rb with
                    | false =>
                      have HMF : Hid (mayB l last = false) := Lib.hid (HMB.out (Bool.eq_false_iff.2 (fun hb => by have h1 := (HRB.out.1 hb).2.2.2.2.2.2; dsimp only at h1; rw [HRS.out] at h1; cases h1)))
                      go_wp2_with (first | (go_at_call 48; go_loud ((with_reducible refine HTO.out.mono ?_); rintro e w9 ⟨rfl, hw9⟩; have hw9 := hw9.symm; subst hw9)) | (go_at_call 50; go_loud ((with_reducible refine HAK.out.mono ?_); rintro e w4 ⟨rfl, hb1⟩; have HB4 := Lib.hid hb1; have p6 : w4.cell? ⟨P, 6, none⟩ = some (.int .i64 xv) := (HP.out.below hb1).cell 6; have p7 : w4.cell? ⟨P, 7, none⟩ = some (.int .i64 xe) := (HP.out.below hb1).cell 7; clear hb1 hlk)) | (go_at_call 57; go_loud ((with_reducible refine (jformed_any xv xe _).mono ?_); rw [HRS.out]; rintro e w5 ⟨rfl, hb2⟩; have HB5 := Lib.hid hb2; clear hb2)))
                      go_ret
                      exact ⟨by rw [HMF.out]; rfl, (HI1.out.bel.trans (HB4.out.mono HI1.out.bel.size)).trans (HB5.out.mono (Nat.le_trans HI1.out.bel.size HB4.out.size))⟩
                    | true =>
                      have HROW : Hid (rowB last (l.take i) ⟨xj, xt, xp, xi, xf, xs, xv, xe⟩ = true) := Lib.hid (HRB.out.2 ⟨by rw [← HA.out]; dsimp only; omega, by dsimp only; omega, HTB.out, fun y hy e => HNM.out (List.mem_map.2 ⟨y, hy, e⟩), HAKE.out.symm, HSB.out.symm, HRS.out⟩)
                      go_upto_region 9 with (first | (go_at_call 48; go_loud ((with_reducible refine HTO.out.mono ?_); rintro e w9 ⟨rfl, hw9⟩; have hw9 := hw9.symm; subst hw9)) | (go_at_call 50; go_loud ((with_reducible refine HAK.out.mono ?_); rintro e w4 ⟨rfl, hb1⟩; have HB4 := Lib.hid hb1; have p6 : w4.cell? ⟨P, 6, none⟩ = some (.int .i64 xv) := (HP.out.below hb1).cell 6; have p7 : w4.cell? ⟨P, 7, none⟩ = some (.int .i64 xe) := (HP.out.below hb1).cell 7; clear hb1 hlk)) | (go_at_call 57; go_loud ((with_reducible refine (jformed_any xv xe _).mono ?_); rw [HRS.out]; rintro e w5 ⟨rfl, hb2⟩; have HB5 := Lib.hid hb2; clear hb2)))
                      clear p0 p1 p2 p3 p4 p6 p7
                      have HI5 : Hid (MyI W l last hm i w5) := Lib.hid ⟨HI1.out.eq, (HI1.out.mp.below HB4.out).below HB5.out, (HI1.out.bel.trans (HB4.out.mono HI1.out.bel.size)).trans (HB5.out.mono (Nat.le_trans HI1.out.bel.size HB4.out.size)), HI1.out.ge⟩
                      have HP5 := Lib.hid ((HP.out.below HB4.out).below HB5.out)
                      have p0 : w5.cell? ⟨P, 0, none⟩ = some (.int .u64 xj) := HP5.out.cell 0
                      have p1 : w5.cell? ⟨P, 1, none⟩ = some (.string xt) := HP5.out.cell 1
                      have hlk := met_miss HI5.out.mp HNM.out HOK.out.2.1
                      obtain ⟨D, o, d1, d2, d3⟩ := HI5.out.mp
                      have HO := Lib.hid o
                      have HKY := Lib.hid (jkeyT HOK.out.2.1)
                      have HIL : Hid (i < maxLen) := Lib.hid (by have := HL.out.1; have := HN.out; have := HIN.out; unfold maxLen; omega)
                      have HPUT : Hid (∀ w6, w6.ownsMap Tryz.prog 9 icE hm (i + 1) (D.put (KT xt) (.lit (.int .i64 1))) → Ml.At layM Tryz.prog 9 w6 hm ((l.take i).map (·.tok) ++ [xt]) (i + 1)) := Lib.hid (fun w6 o6 => Ml.At.of_put (l := layM) (g := xt) jkdT o d1 d2 d3 (by
                        rintro ⟨y, hy, e⟩
                        have e' : y = xt := KT_inj e
                        exact HNM.out (e' ▸ hy)) o6)
                      clear o d1 d2 d3 HI1 g1 g2 HTO HAK
                      go_wp2_with (at_mapUpdate; go_loud (refine wpList_mapUpdate_own _ rfl _ _ _ 113 rfl 9 3 jkdT Tryz.underlying113 _ hm i D rfl HO.out HIL.out _ (.int .i64 1) (KT xt) rfl rfl HKY.out (.lit (.int .i64 1)) [] rfl ?_; intro w6 o6 g6; have HM6 := Lib.hid (HPUT.out w6 o6); have HG6 := Lib.hid (only_map g6); clear o6 g6 p0 p1 hlk))
                      go_roundw
                      case rel =>
                        refine ⟨i + 1, by have := HIN.out; omega, by first | rw [HE.out] | simp, by rw [HSP.out.1, lastJ_snoc], ⟨?_, ?_, HI5.out.bel.trans (HG6.out.below HI5.out.bel.size (fun j e => by have e' : j = hm := e; have := HI5.out.ge; omega)), HI5.out.ge⟩⟩
                        · rw [← HI5.out.eq, HSP.out.2, HSP.out.1]
                          show _ = (rowB last (l.take i) ⟨xj, xt, xp, xi, xf, xs, xv, xe⟩ && _)
                          rw [HROW.out, Bool.true_and]
                        · rw [HSP.out.1, List.map_append]
                          exact HM6.out
                      case measure => (try rw [HE.out]); simp [intOf]; have := HIN.out; omega
                · have g5' : (ak == 0) = false := by simpa using g5
                  have g5'' : (ak != 0) = true := by simpa using g5
                  have HMF : Hid (mayB l last = false) := Lib.hid (HMB.out (Bool.eq_false_iff.2 (fun hb => by have h1 := (HRB.out.1 hb).2.2.2.2.1; dsimp only at h1; rw [← HAKE.out] at h1; exact g5 h1)))
                  clear g5
                  go_wp2_with (first | (go_at_call 48; go_loud ((with_reducible refine HTO.out.mono ?_); rintro e w9 ⟨rfl, hw9⟩; have hw9 := hw9.symm; subst hw9)) | (go_at_call 50; go_loud ((with_reducible refine HAK.out.mono ?_); rintro e w4 ⟨rfl, hb1⟩; have HB4 := Lib.hid hb1; have p6 : w4.cell? ⟨P, 6, none⟩ = some (.int .i64 xv) := (HP.out.below hb1).cell 6; have p7 : w4.cell? ⟨P, 7, none⟩ = some (.int .i64 xe) := (HP.out.below hb1).cell 7; clear hb1 hlk)))
                  go_ret
                  exact ⟨by rw [HMF.out]; rfl, HI1.out.bel.trans (HB4.out.mono HI1.out.bel.size)⟩
    · have hi' : ¬ (i : Int) < (n : Int) := by omega
      have hni : i = n := by omega
      have HRW : Hid (rowsB last [] l = true) := Lib.hid (by
        rw [← hI.eq, List.drop_eq_nil_of_le (by have := HN.out; omega)]
        rfl)
      have HMB : Hid (mayB l last = (decide (n ≤ 256) && decide (last ≤ 281474976710656))) := Lib.hid (by unfold mayB; rw [HRW.out, Bool.true_and, HN.out])
      clear hI hi hi0 hni
      by_cases g1 : n ≤ 256
      · have g1' : (n : Int) ≤ 256 := by omega
        by_cases g2 : last ≤ 281474976710656
        · have HMF : Hid (mayB l last = true) := Lib.hid (by rw [HMB.out, decide_eq_true g1, decide_eq_true g2]; rfl)
          clear g1
          go_wp2_with fail
          go_ret
          exact ⟨by rw [HMF.out]; rfl, HI.out.bel⟩
        · have HMF : Hid (mayB l last = false) := Lib.hid (by rw [HMB.out, decide_eq_false g2, Bool.and_false])
          clear g1
          go_wp2_with fail
          go_ret
          exact ⟨by rw [HMF.out]; rfl, HI.out.bel⟩
      · have g1' : ¬ (n : Int) ≤ 256 := by omega
        have HMF : Hid (mayB l last = false) := Lib.hid (by rw [HMB.out, decide_eq_false g1, Bool.false_and])
        clear g1
        go_wp2_with fail
        go_ret
        exact ⟨by rw [HMF.out]; rfl, HI.out.bel⟩
end Go.Proofs.YtlahficmkfgooaaGreat
