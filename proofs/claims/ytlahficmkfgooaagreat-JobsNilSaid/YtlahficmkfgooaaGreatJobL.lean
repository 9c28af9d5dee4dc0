import Derived.Test.YtlahficmkfgooaaGreatJobM
import Derived.Test.YtlahficmkfgooaaGreatJobH

/- The walk of Load. No condition but that rows are not too many and their texts not beyond any bound. -/
namespace Go.Proofs.YtlahficmkfgooaaGreat
open Go.RowKit Go.Maps Jb
set_option linter.unusedVariables false
set_option linter.unusedSimpArgs false
namespace Jb
/-- Why rows may not be loaded. -/
def loadE (most : Int) (l : List JR) (last : Int) : Int := if most < 1 ∨ 256 < most then 2 else if mayB l last = true then 0 else 8
theorem Good.take {last : Int} {l : List JR} (h : Good last l) (i : Nat) : Good last (l.take i) :=
  ⟨h.ris.sublist (List.take_sublist i l), h.tok.sublist (List.take_sublist i l), fun r hr => h.one r (List.mem_of_mem_take hr)⟩
end Jb
def LoadP (w : World) (most : Int) (l : List JR) (last : Int) (e : Ending) (w' : World) : Prop :=
  ∃ v, e = .returned (.tuple #[v, .int .i64 (loadE most l last)]) ∧ Below w.heap.size w w' ∧ (loadE most l last ≠ 0 → v = .pointer none) ∧ (loadE most l last = 0 → ∃ b h t B V, v = .pointer (some ⟨b, 0, none⟩) ∧ JW w' w.heap.size b h t B V ⟨most, last, l⟩ l.length)
set_option maxRecDepth 100000 in
set_option maxHeartbeats 8000000 in
theorem load_any {W : World} {v : Value} {l : List JR} {most last : Int} (hv : RowsAt W v l) (hl : l.length ≤ 1000000) (ho : JOk l) (hu : U64 last) : Calls Tryz.prog 22 #[.int .i64 most, v, .int .u64 last] W (LoadP W most l last) := by
  obtain ⟨p, cap, rfl⟩ := hv.slice
  obtain ⟨n, hn⟩ : ∃ n, n = l.length := ⟨_, rfl⟩
  rw [← hn] at hv ⊢
  have HV := Lib.hid hv
  have HL := Lib.hid (And.intro hl (And.intro ho hu))
  have HN := Lib.hid hn
  clear hv hl ho hu hn
  by_cases h1 : most < 1 ∨ 256 < most
  · have HLE : Hid (loadE most l last = 2) := Lib.hid (by unfold loadE; rw [if_pos h1])
    have HNW := Lib.hid (newj_bad h1 W)
    clear h1
    go_enter Tryz.func22, Tryz.ntmps22
    go_wp2_with (go_at_call 25; go_loud ((with_reducible refine HNW.out.mono ?_); rintro e w9 ⟨rfl, hw9⟩; have hw9 := hw9.symm; subst hw9))
    go_ret2
    exact ⟨.pointer none, by rw [HLE.out]; rfl, Below.refl _ _, fun _ => rfl, fun e => by rw [HLE.out] at e; cases e⟩
  · have HNW := Lib.hid (newj_any (m := most) (by omega) (by omega) W (B0 := W.heap.size) (Nat.le_refl _))
    have HMO : Hid (1 ≤ most ∧ most ≤ 256) := Lib.hid (by omega)
    have HLD : Hid (loadE most l last = if mayB l last = true then 0 else 8) := Lib.hid (by unfold loadE; rw [if_neg h1])
    clear h1
    go_enter Tryz.func22, Tryz.ntmps22
    go_upto_region 4 with (go_at_call 25; go_loud ((with_reducible refine HNW.out.mono ?_); rintro e w1 ⟨b, h, t, rfl, hc, hb⟩; have HC1 := Lib.hid hc; have HB1 := Lib.hid hb; clear hc hb))
    have HMY := Lib.hid (may_w (last := last) (HV.out.below HB1.out) HL.out.1 HL.out.2.1)
    obtain ⟨mb, hmb⟩ : ∃ mb, mb = mayB l last := ⟨_, rfl⟩
    unfold MyP at HMY
    rw [← hmb] at HMY HLD
    have HMB := Lib.hid hmb
    clear hmb
    cases mb with
    | false =>
      have HLE : Hid (loadE most l last = 8) := Lib.hid (by rw [HLD.out]; rfl)
      go_wp2_with (go_at_call 31; go_loud ((with_reducible refine HMY.out.mono ?_); rintro e w2 ⟨rfl, hb⟩; have HB2 := Lib.hid hb; clear hb))
      go_ret2
      exact ⟨.pointer none, by rw [HLE.out]; rfl, HB1.out.step HB2.out, fun _ => rfl, fun e => by rw [HLE.out] at e; cases e⟩
    | true =>
      have HLE : Hid (loadE most l last = 0) := Lib.hid (by rw [HLD.out]; rfl)
      have HGO := Lib.hid (mayB_iff.1 HMB.out.symm)
      go_upto_region 6 with (go_at_call 31; go_loud ((with_reducible refine HMY.out.mono ?_); rintro e w2 ⟨rfl, hb⟩; have HB2 := Lib.hid hb; clear hb))
      have HC2 := Lib.hid (HC1.out.below HB2.out)
      have HJI : Hid (∀ i, JInv ⟨most, last, l.take i⟩) := Lib.hid (fun i => ⟨HMO.out, HL.out.2.2.1, mayB_iff.2 ⟨HGO.out.1.take i, by have := HGO.out.2.1; rw [List.length_take]; omega, HGO.out.2.2⟩⟩)
      have HSL := Lib.hid (HC2.out.setLast (L := last) (HJI.out 0))
      have f1 := HC2.out.blk.frozen 1
      have c1 := HC2.out.c1
      go_upto_region 7 with fail
      have HBW : Hid (Below W.heap.size W (w2.setCell ⟨b, 1, none⟩ (.int .u64 last))) := Lib.hid (((HB1.out.step HB2.out)).trans (OnJ.below HC2.out HSL.out.2))
      clear f1 c1 HC1 HC2 HMY HNW
      generalize w2.setCell ⟨b, 1, none⟩ (.int .u64 last) = w3 at *
      go_wp2_with fail
      go_loopw [30] (fun u wr => ∃ i : Nat, ∃ B V, i ≤ n ∧ u = .int .i64 (i : Nat) ∧ JW wr W.heap.size b h t B V ⟨most, last, l.take i⟩ i ∧ Below W.heap.size W wr) (fun u _ => ((n : Int) - intOf u).toNat)
      case atStart => exact ⟨0, _, _, Nat.zero_le _, rfl, HSL.out.1, HBW.out⟩
      case round =>
        obtain ⟨i, B, V, hi0, rfl, hc, hbel⟩ := hrel
        have HC := Lib.hid hc
        have HBL := Lib.hid hbel
        clear hc
        by_cases hi : i < n
        · have hil : i < l.length := by have := HN.out; omega
          have hrw := HV.out.below hbel
          obtain ⟨p', cap', e1, hx⟩ := hrw
          injection e1 with e1 e2 e3
          subst e1 e3
          clear e2
          obtain ⟨g, off, hpe, hgl, hx2⟩ := hx (by omega)
          clear hx
          subst hpe
          obtain ⟨vi, hvi, hcl⟩ := hx2 i hil
          have hok := HL.out.2.1 _ (List.getElem_mem hil)
          have HSP : Hid (l.take (i + 1) = l.take i ++ [l[i]]) := Lib.hid (List.take_succ_eq_append_getElem hil)
          clear hx2
          generalize l[i] = x at *
          clear hil
          obtain ⟨pi, ci, rfl⟩ := hvi.slice
          obtain ⟨k, hk⟩ : ∃ k, k = x.inp.length := ⟨_, rfl⟩
          rw [← hk] at hvi hcl
          have HVI := Lib.hid hvi
          have HK := Lib.hid hk
          have HOK := Lib.hid hok
          have HIN := Lib.hid hi
          have hi' : (i : Int) < (n : Int) := by omega
          have HE : Hid (wrap64 ((i : Int) + 1) = ((i + 1 : Nat) : Int)) := Lib.hid (by have := HL.out.1; have := HN.out; unfold wrap64; omega)
          have HCE := Lib.hid hcl
          clear hvi hcl hok hk hi0 hi hbel
          go_upto_region 10 with (first
            | (refine wpl_load_part rfl _ _ rfl g (off + i * 8) rfl (jcells x (.slice pi k ci)) _ HCE.out Tryz.underlying48 rfl (by kernel_rfl) ?_)
            | (refine wpl_store_blk (c' := (jcells x (.slice pi k ci)).toArray) (Blk.new _ _ _) rfl _ _ _ rfl rfl rfl (by kernel_rfl) rfl (by simp [jcells, Value.oneCell']) ?_; go_loud (intro w4 hb1 ho1; have HP := Lib.hid hb1; have HW4 := Lib.hid (al_step ho1); clear hb1 ho1)))
          have HC4 := Lib.hid (HC.out.below HW4.out)
          have HB4 := Lib.hid (HBL.out.trans (HW4.out.mono HBL.out.size))
          have HPL : Hid (Blk w4 wr.heap.size 48 #[.int .u64 x.job, .string x.tok, .string x.prog, .slice pi k ci, .int .i64 x.fuel, .int .u8 x.st, .int .i64 x.val, .int .i64 x.err]) := Lib.hid HP.out
          have HPU := Lib.hid (put_any HC4.out (x := x) (HVI.out.below HW4.out) ⟨HOK.out.1, HOK.out.2.2⟩ (by have := HJI.out (i + 1); rw [HSP.out] at this; exact this) (by have := HL.out.1; have := HN.out; have := HIN.out; unfold maxLen; omega))
          go_wp2_with (first | (refine wpl_load_blk HPL.out rfl _ _ rfl rfl Tryz.underlying48 rfl (by kernel_rfl) ?_) | (go_at_call 51; go_loud ((with_reducible refine HPU.out.mono ?_); rintro e w5 ⟨rfl, B', V', hc, ho⟩; have HC5 := Lib.hid hc; have HB5 := Lib.hid (HB4.out.trans (OnJ.below HC4.out ho)); clear hc ho)))
          go_roundw
          case rel => exact ⟨i + 1, _, _, by have := HIN.out; omega, by first | rw [HE.out] | simp, by rw [HSP.out]; exact HC5.out, HB5.out⟩
          case measure => (try rw [HE.out]); simp [intOf]; have := HIN.out; omega
        · have hi' : ¬ (i : Int) < (n : Int) := by omega
          have hni : n = i := by omega
          have HNI := Lib.hid hni
          clear hi hi0 hni hbel
          go_wp2_with fail
          go_ret2
          exact ⟨.pointer (some ⟨b, 0, none⟩), by rw [HLE.out]; rfl, HBL.out, fun e => absurd HLE.out e, fun _ => ⟨b, h, t, B, V, rfl, by
            have h9 := HC.out
            rw [← HNI.out, HN.out, List.take_length] at h9
            exact h9⟩⟩
end Go.Proofs.YtlahficmkfgooaaGreat
