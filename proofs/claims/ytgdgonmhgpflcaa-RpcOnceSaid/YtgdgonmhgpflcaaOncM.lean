import Derived.Test.YtgdgonmhgpflcaaOncL
import Derived.Test.YtgdgonmhgpflcaaOncH
import Derived.Test.YtgdgonmhgpflcaaOncG
import Derived.Deep.CutBlock

/- The walk of RpcOnce's 'act'. No condition but that there is not too much. -/
namespace Go.Proofs.Ytgdgonmhgpflcaa
open Go.RowKit Go.Maps Wire Rp
set_option linter.unusedVariables false
set_option linter.unusedSimpArgs false
/-- A text comes. -/
theorem wcomes_any {w0 w : World} {g N : Nat} {d : Wd} (hx : OP w0 w g d true N) (hv : OInv d) {bk : Bool} {t : ByteArray} (hy : WayOk d (bk, t)) (hl : d.jobs.length ≤ 1000000000 ∧ d.ways.length ≤ 1000000000) (ho : d.c.ov.length ≤ 1000000) (hN : N ≤ 900000) :
    Calls Try.prog 25 #[.pointer (some ⟨g, 0, none⟩), .agg #[.bool bk, .string t]] w fun e w' => e = .returned (.tuple #[]) ∧ ∃ d' N', OP w0 w' g d' true N' ∧ Mid d d' ∧ pot d' ≤ pot d + (if bk then 0 else 2) ∧ N' ≤ N + 3 := by
  obtain ⟨p, ht, hm, ha, hi⟩ := hy.pk
  subst ht
  obtain ⟨an, pi, ps, pb⟩ := p
  have ha' : an = bk := ha
  subst ha'
  cases an with
  | true =>
    refine (wback_any hx hm ho).mono ?_
    rintro e w' ⟨rfl, h1⟩
    have hs : SInv (takeS d.c 2 ⟨true, pi, ps, pb⟩).2.2 := by
      obtain ⟨_, _, _, _, _, _, _, _, _, _, _, _, _, _, _, x⟩ := h1
      exact x.duo.cw.inv
    have hmid := mid_back hv hy hm hs
    exact ⟨rfl, _, _, h1, hmid.1, by rw [hmid.2]; exact Nat.le_add_right _ _, Nat.le_add_right _ _⟩
  | false =>
    refine (wcome_any hx hv hm hi hy hl hN).mono ?_
    rintro e w' ⟨rfl, h1⟩
    have hmid := mid_come hv hy hm rfl hi
    exact ⟨rfl, _, _, h1, hmid.1, hmid.2, Nat.le_refl _⟩
structure AcR where
  what : Int
  n : Int
  by' : Int
  s : ByteArray
  keep : Bool
def acells (a : AcR) : Array Value := #[.int .i64 a.what, .int .u16 a.n, .int .u16 a.by', .string a.s, .bool a.keep]
def AcOk (a : AcR) : Prop := I64 a.what ∧ (0 ≤ a.n ∧ a.n ≤ 65535) ∧ (0 ≤ a.by' ∧ a.by' ≤ 65535) ∧ a.s.size ≤ maxLen
def ActP (w0 : World) (g : Nat) (d : Wd) (N : Nat) (e : Ending) (w' : World) : Prop := e = .returned (.tuple #[]) ∧ ∃ d' N', OP w0 w' g d' true N' ∧ Step d N d' N'
theorem OP.below {w0 w w' : World} {g N : Nat} {d : Wd} {fn : Bool} (h : OP w0 w g d fn N) (hb : Below w.heap.size w w') : OP w0 w' g d fn N := by
  obtain ⟨_, _, _, _, _, _, _, _, _, _, _, _, _, _, _, x⟩ := h
  exact ⟨_, _, _, _, _, _, _, _, _, _, _, _, _, _, _, x.below hb⟩
theorem OP.inv {w0 w : World} {g N : Nat} {d : Wd} {fn : Bool} (h : OP w0 w g d fn N) : SInv d.c := by
  obtain ⟨_, _, _, _, _, _, _, _, _, _, _, _, _, _, _, x⟩ := h
  exact x.duo.cw.inv
set_option maxRecDepth 100000 in
set_option maxHeartbeats 8000000 in
theorem wact_any {w0 w : World} {g N : Nat} {d : Wd} (hx : OP w0 w g d true N) (ha : At0 d) {a : AcR} (hk : AcOk a) (hp : pot d ≤ 400000) (hN : N ≤ 800000) (hb : d.now ≤ 990000 ∧ d.inc ≤ 990000 ∧ d.c.last ≤ 990000) :
    Calls Try.prog 23 #[.pointer (some ⟨g, 0, none⟩), .agg (acells a)] w (ActP w0 g d N) := by
  obtain ⟨what, an, ay, sb, ak⟩ := a
  unfold acells
  dsimp only
  have HX0 := Lib.hid (hx.below ((Below.refl _ w).alloc (Nat.le_refl _) (.cells #[.int .i64 what, .int .u16 an, .int .u16 ay, .string sb, .bool ak] 53)))
  have HQ0 := Lib.hid (Blk.new w 53 #[.int .i64 what, .int .u16 an, .int .u16 ay, .string sb, .bool ak])
  have HA := Lib.hid ha
  have HK := Lib.hid hk
  have HP := Lib.hid hp
  have HN := Lib.hid hN
  have HB := Lib.hid hb
  clear hx ha hk hp hN hb
  go_enter Try.func23, Try.ntmps23
  go_upto_region 1 with fail
  generalize w.alloc (.cells #[.int .i64 what, .int .u16 an, .int .u16 ay, .string sb, .bool ak] 53) = w1 at *
  generalize w.heap.size = aq at *
  have y0 : w1.cell? ⟨aq, 0, none⟩ = some (.int .i64 what) := HQ0.out.cell 0
  go_upto_block 0 with fail
  go_cut [] (fun wc => ∃ d' N', OP w0 wc g d' true N' ∧ Adv d N d' N')
  case first =>
    by_cases h0 : what = 0
    · have h0' : (what == 0) = true := by simpa using h0
      obtain ⟨b, h, cx, hx', bd, bo, B, Bp, Mp, vd, vo, vw, vj, ha, hd', x⟩ := HX0.out
      have HX := Lib.hid x
      obtain ⟨⟨rn, re, rs⟩, hr⟩ : ∃ r, callS d.c 2 sb d.now = r := ⟨_, rfl⟩
      have HR := Lib.hid hr
      obtain ⟨WA, hWA⟩ : ∃ WA, WA = wcells b cx d vw vj ha hd' true := ⟨_, rfl⟩
      have HWA : Hid (WA[0]? = some (.pointer (some ⟨b, 0, none⟩)) ∧ WA[3]? = some (.int .i64 d.now)) := Lib.hid ⟨by rw [hWA]; rfl, by rw [hWA]; rfl⟩
      have HJ0 := Lib.hid (x.below (Below.refl _ w1).drew)
      have HI0 : Hid (Blk w1.drew g 61 WA ∧ Blk w1.drew aq 53 #[.int .i64 what, .int .u16 an, .int .u16 ay, .string sb, .bool ak]) := Lib.hid ⟨hWA ▸ HJ0.out.blk, HQ0.out.drew⟩
      have HST : Hid (∀ wa wb, OnC w0.heap.size b h bd bo wa wb → (Blk wa g 61 WA ∧ Blk wa aq 53 #[.int .i64 what, .int .u16 an, .int .u16 ay, .string sb, .bool ak]) → (Blk wb g 61 WA ∧ Blk wb aq 53 #[.int .i64 what, .int .u16 an, .int .u16 ay, .string sb, .bool ak])) := Lib.hid (by
        have hgb : g ≠ b := fun e => by have h1 := x.blk; rw [e] at h1; exact absurd (blk_ne h1 x.duo.cw.blk) (by decide)
        have hgh : g ≠ h := fun e => at_ne x.duo.cw.mp x.blk e.symm
        have hab : aq ≠ b := fun e => by have h1 := HQ0.out; rw [e] at h1; exact absurd (blk_ne h1 x.duo.cw.blk) (by decide)
        have hah : aq ≠ h := fun e => at_ne x.duo.cw.mp HQ0.out e.symm
        intro wa wb ho hI
        refine ⟨hI.1.only ho (fun hs => ?_), hI.2.only ho (fun hs => ?_)⟩
        · rcases hs with e | e | ⟨_, A', e⟩ | ⟨_, A', e⟩ | ⟨_, A', e⟩
          · exact hgb e
          · exact hgh e
          · exact absurd (blk_ne hI.1 e) (by decide)
          · exact absurd (blk_ne hI.1 e) (by decide)
          · exact absurd (blk_ne hI.1 e) (by decide)
        · rcases hs with e | e | ⟨_, A', e⟩ | ⟨_, A', e⟩ | ⟨_, A', e⟩
          · exact hab e
          · exact hah e
          · exact absurd (blk_ne hI.2 e) (by decide)
          · exact absurd (blk_ne hI.2 e) (by decide)
          · exact absurd (blk_ne hI.2 e) (by decide))
      have HTK : Hid (∀ wa, OW w0 wa g b h cx hx' bd bo B Bp Mp d vd vo vw vj ha hd' N true → Calls Try.prog 30 #[.pointer (some ⟨b, 0, none⟩), .int .i64 2, .string sb, .int .i64 d.now] wa fun e wb => ∃ v, e = .returned v ∧ (v = .tuple #[.int .u64 rn, .int .i64 re] ∧ ∃ B' vd' vo', OW w0 wb g b h cx hx' bd bo B' Bp Mp { d with c := rs } vd' vo' vw vj ha hd' (N + 1) true) ∧ OnC w0.heap.size b h bd bo wa wb) := Lib.hid (fun wa x => by
        refine (call_any x.duo.cw (by have := HA.out.du; rw [this]; decide) (by have := HN.out; omega) HR.out).mono ?_
        rintro e wb ⟨rfl, B', vd', N', hc, hn', ho⟩
        exact ⟨_, rfl, ⟨rfl, _, _, _, x.onC (Nat.le_succ N) (hc.mono hn') ho⟩, ho⟩)
      have HNW : Hid (re = 0 → rn = d.c.last + 1) := Lib.hid (fun he => by
        have h1 := HR.out
        subst he
        unfold callS at h1
        split at h1
        · injection h1 with _ h1; injection h1 with h1; exact absurd h1 (by decide)
        · split at h1
          · injection h1 with _ h1; injection h1 with h1; exact absurd h1 (by decide)
          · split at h1
            · injection h1 with _ h1; injection h1 with h1; exact absurd h1 (by decide)
            · split at h1
              · injection h1 with _ h1; injection h1 with h1; exact absurd h1 (by decide)
              · injection h1 with h1 _; exact h1.symm)
      have HCW : Hid (callW d sb = { d with c := rs, ask := if re = 0 then d.ask ++ [(rn, sb)] else d.ask }) := Lib.hid (by unfold callW; rw [HR.out])
      clear x h0 y0 hr hWA
      go_upto_region 3 with fail
      go_cut [4, 5] (fun sn se wz => sn = .int .u64 rn ∧ se = .int .i64 re ∧ (∃ B' vd' vo', OW w0 wz g b h cx hx' bd bo B' Bp Mp { d with c := rs } vd' vo' vw vj ha hd' (N + 1) true) ∧ Blk wz aq 53 #[.int .i64 what, .int .u16 an, .int .u16 ay, .string sb, .bool ak])
      case first =>
        -- region 3
        refine Reg.wp_rely 16 (fun w => Blk w g 61 WA ∧ Blk w aq 53 #[.int .i64 what, .int .u16 an, .int .u16 ay, .string sb, .bool ak]) (by kernel_rfl) (Reg.relyOk_of (by kernel_rfl)) HI0.out (fun w w' h hI => ⟨hI.1.below h, hI.2.below h⟩) ?_
        refine Reg.rely_plain (.pointer (some ⟨g, 0, none⟩)) rfl (fun a w hI hF => by
            have f1 : a.tmps.getD 0 undef = .pointer (some ⟨g, 0, none⟩) := hF 0 (Reg.looksB (by kernel_rfl))
            clear hF hI
            simp only [Array.getD_eq_getD_getElem?] at f1
            simp only [execOp]; go_simp) ?_
        refine Reg.rely_plain (.pointer (some ⟨g, 0, none⟩)) rfl (fun a w hI hF => by
            have f1 : a.tmps.getD 14 undef = .pointer (some ⟨g, 0, none⟩) := hF 14 (Reg.looksB (by kernel_rfl))
            clear hF hI
            simp only [Array.getD_eq_getD_getElem?] at f1
            simp only [execOp]; go_simp) ?_
        refine Reg.rely_plain (.pointer (some ⟨g, 0, none⟩)) rfl (fun a w hI hF => by
            have f1 : a.tmps.getD 15 undef = .pointer (some ⟨g, 0, none⟩) := hF 15 (Reg.looksB (by kernel_rfl))
            clear hF hI
            simp only [Array.getD_eq_getD_getElem?] at f1
            simp only [execOp]; go_simp) ?_
        refine Reg.rely_plain (.pointer (some ⟨b, 0, none⟩)) rfl (fun a w hI hF => by
            have f1 : a.tmps.getD 16 undef = .pointer (some ⟨g, 0, none⟩) := hF 16 (Reg.looksB (by kernel_rfl))
            have hc : w.cell? ⟨g, 0, none⟩ = some (.pointer (some ⟨b, 0, none⟩)) := (hI.1.cell 0).trans HWA.out.1
            clear hF hI
            simp only [Array.getD_eq_getD_getElem?] at f1
            simp only [execOp]; go_simp) ?_
        refine Reg.rely_plain (.pointer (some ⟨aq, 3, none⟩)) rfl (fun a w hI hF => by
            have f1 : a.tmps.getD 3 undef = .pointer (some ⟨aq, 0, none⟩) := hF 3 (Reg.looksB (by kernel_rfl))
            clear hF hI
            simp only [Array.getD_eq_getD_getElem?] at f1
            simp only [execOp]; go_simp) ?_
        refine Reg.rely_plain (.string sb) rfl (fun a w hI hF => by
            have f1 : a.tmps.getD 18 undef = .pointer (some ⟨aq, 3, none⟩) := hF 18 (Reg.looksB (by kernel_rfl))
            have hc : w.cell? ⟨aq, 3, none⟩ = some (.string sb) := hI.2.cell 3
            clear hF hI
            simp only [Array.getD_eq_getD_getElem?] at f1
            simp only [execOp]; go_simp) ?_
        refine Reg.rely_plain (.pointer (some ⟨g, 0, none⟩)) rfl (fun a w hI hF => by
            have f1 : a.tmps.getD 0 undef = .pointer (some ⟨g, 0, none⟩) := hF 0 (Reg.looksB (by kernel_rfl))
            clear hF hI
            simp only [Array.getD_eq_getD_getElem?] at f1
            simp only [execOp]; go_simp) ?_
        refine Reg.rely_plain (.pointer (some ⟨g, 0, none⟩)) rfl (fun a w hI hF => by
            have f1 : a.tmps.getD 20 undef = .pointer (some ⟨g, 0, none⟩) := hF 20 (Reg.looksB (by kernel_rfl))
            clear hF hI
            simp only [Array.getD_eq_getD_getElem?] at f1
            simp only [execOp]; go_simp) ?_
        refine Reg.rely_plain (.pointer (some ⟨g, 3, none⟩)) rfl (fun a w hI hF => by
            have f1 : a.tmps.getD 21 undef = .pointer (some ⟨g, 0, none⟩) := hF 21 (Reg.looksB (by kernel_rfl))
            clear hF hI
            simp only [Array.getD_eq_getD_getElem?] at f1
            simp only [execOp]; go_simp) ?_
        refine Reg.rely_plain (.int .i64 d.now) rfl (fun a w hI hF => by
            have f1 : a.tmps.getD 22 undef = .pointer (some ⟨g, 3, none⟩) := hF 22 (Reg.looksB (by kernel_rfl))
            have hc : w.cell? ⟨g, 3, none⟩ = some (.int .i64 d.now) := (hI.1.cell 3).trans HWA.out.2
            clear hF hI
            simp only [Array.getD_eq_getD_getElem?] at f1
            simp only [execOp]; go_simp) ?_
        refine Reg.rely_call (fun v w => v = .tuple #[.int .u64 rn, .int .i64 re] ∧ ∃ B' vd' vo', OW w0 w g b h cx hx' bd bo B' Bp Mp { d with c := rs } vd' vo' vw vj ha hd' (N + 1) true) (fun w w' => OnC w0.heap.size b h bd bo w w') (fun w => OW w0 w g b h cx hx' bd bo B Bp Mp d vd vo vw vj ha hd' N true) (fun v w w' h hS => ⟨hS.1, by obtain ⟨B', vd', vo', hx⟩ := hS.2; exact ⟨_, _, _, hx.below h⟩⟩) (fun G hG => by cases hG) (fun w w' h hI => HST.out w w' h hI) ?_ rfl (fun w w' h hJ => hJ.below h) HJ0.out (fun G hG => by cases hG) (fun G hG => by cases hG) 30 #[.pointer (some ⟨b, 0, none⟩), .int .i64 2, .string sb, .int .i64 d.now] (fun a w hI hF => ?_) (fun w hI hJ => (HTK.out w hJ)) ?_
        · intro p hp
          repeat (rcases List.mem_cons.1 hp with rfl | hp; exact Reg.stab_is _ _)
          cases hp
        · have f1 : a.tmps.getD 17 undef = .pointer (some ⟨b, 0, none⟩) := hF 17 (Reg.looksB (by kernel_rfl))
          have f2 : a.tmps.getD 19 undef = .string sb := hF 19 (Reg.looksB (by kernel_rfl))
          have f3 : a.tmps.getD 23 undef = .int .i64 d.now := hF 23 (Reg.looksB (by kernel_rfl))
          clear hF hI
          simp only [Array.getD_eq_getD_getElem?] at f1 f2 f3
          simp only [execOp]; go_simp
        refine Reg.rely_is (.tuple #[.int .u64 rn, .int .i64 re]) (fun a w hI hF => Reg.det_plain rfl ?_) ?_
        · have f1 : a.tmps.getD 24 undef = .tuple #[.int .u64 rn, .int .i64 re] := (hF 24 (Reg.looksB (by kernel_rfl))).1
          clear hF hI
          simp only [Array.getD_eq_getD_getElem?] at f1
          simp only [execOp]; go_simp
        refine Reg.rely_plain (.int .u64 rn) rfl (fun a w hI hF => by
            have f1 : a.tmps.getD 13 undef = .tuple #[.int .u64 rn, .int .i64 re] := hF 13 (Reg.looksB (by kernel_rfl))
            clear hF hI
            simp only [Array.getD_eq_getD_getElem?] at f1
            simp only [execOp]; go_simp) ?_
        refine Reg.rely_plain (.int .i64 re) rfl (fun a w hI hF => by
            have f1 : a.tmps.getD 13 undef = .tuple #[.int .u64 rn, .int .i64 re] := hF 13 (Reg.looksB (by kernel_rfl))
            clear hF hI
            simp only [Array.getD_eq_getD_getElem?] at f1
            simp only [execOp]; go_simp) ?_
        refine Reg.rely_plain (.int .u64 rn) rfl (fun a w hI hF => by
            have f1 : a.tmps.getD 25 undef = .int .u64 rn := hF 25 (Reg.looksB (by kernel_rfl))
            clear hF hI
            simp only [Array.getD_eq_getD_getElem?] at f1
            simp only [execOp]; go_simp) ?_
        refine Reg.rely_plain (.int .i64 re) rfl (fun a w hI hF => by
            have f1 : a.tmps.getD 26 undef = .int .i64 re := hF 26 (Reg.looksB (by kernel_rfl))
            clear hF hI
            simp only [Array.getD_eq_getD_getElem?] at f1
            simp only [execOp]; go_simp) ?_
        refine Reg.rely_nil ?_
        refine Reg.final_is ?_
        refine Reg.final_is ?_
        refine Reg.final_is ?_
        refine Reg.final_is ?_
        refine Reg.final_is ?_
        refine Reg.final_rel (fun v24 => ?_)
        refine Reg.final_is ?_
        refine Reg.final_is ?_
        refine Reg.final_is ?_
        refine Reg.final_is ?_
        refine Reg.final_is ?_
        refine Reg.final_is ?_
        refine Reg.final_is ?_
        refine Reg.final_is ?_
        refine Reg.final_is ?_
        refine Reg.final_is ?_
        refine Reg.final_nil (fun w9 hF => ?_)
        -- region 3 ends
        obtain ⟨hI9, hS9⟩ := hF
        have hx7 := hS9.2
        have hp7 := hI9.2
        clear hI9 hS9
        simp only [List.drop_succ_cons, List.drop_zero]
        go_simp
        go_wp2_with fail
        refine Reg.fin (by kernel_rfl) ?_
        go_wp2_with fail
        go_meet
        exact ⟨rfl, rfl, hx7, hp7⟩
      case rest =>
        obtain ⟨rfl, rfl, ⟨B', vd', vo', hx7⟩, hp7⟩ := hcut
        obtain ⟨w7, hw7⟩ : ∃ w7, w7 = wc := ⟨_, rfl⟩
        subst hw7
        have HX7 := Lib.hid hx7
        have HP7 := Lib.hid hp7
        clear hx7 hp7 HTK HI0 HJ0 HST HWA HX HX0 HQ0
        have HCR : Hid (rs = (callS d.c 2 sb d.now).2.2) := Lib.hid (by rw [HR.out])
        by_cases he : re = 0
        · have he' : (re == 0) = true := by simpa using he
          have hnw := HNW.out he
          rw [if_pos he] at HCW
          have hno : ∀ a ∈ d.ask, a.1 ≠ rn := fun a ha e => by have := (HA.out.inv.ask a ha).2.1; omega
          have hu : U64 rn := by have := HA.out.inv.last; unfold U64; omega
          have c6 : w7.cell? ⟨g, 6, none⟩ = some (.map (some ha)) := HX7.out.blk.cell 6
          have y3 : w7.cell? ⟨aq, 3, none⟩ = some (.string sb) := HP7.out.cell 3
          obtain ⟨D, o, hput⟩ := (HX7.out.below (Below.refl _ w7).drew).putA (s := rn) (t := sb) hno
          have HOO := Lib.hid o
          have HPU := Lib.hid hput
          have HKEY := Lib.hid (keyR hu)
          have HNM : Hid (N + 1 < maxLen) := Lib.hid (by have := HN.out; unfold maxLen; omega)
          clear hput o hno hu hnw he
          go_upto_region 5 with fail
          go_still_tail 7, (by kernel_rfl)
          go_wp2_with (at_mapUpdate; go_loud (refine wpList_mapUpdate_own _ rfl _ _ _ 58 rfl 22 9 kdR Try.underlying58 _ ha (N + 1) D rfl HOO.out HNM.out _ (.string sb) (KR rn) rfl rfl HKEY.out (.lit (.string sb.data.toList)) [] rfl ?_; intro w9 o9 g9; have HX9 := Lib.hid (HPU.out w9 o9 g9); clear o9 g9))
          go_meet
          exact ⟨_, _, ⟨_, _, _, _, _, _, _, _, _, _, _, _, _, _, _, HX9.out⟩, by have h2 := Adv.call (N := N) (N' := N + 1 + 1) HA.out sb (by have := HB.out; omega) (by rw [← HCR.out]; exact HX9.out.duo.cw.inv) (Nat.le_refl _); rw [HCW.out] at h2; exact h2⟩
        · have he' : (re == 0) = false := by simpa using he
          rw [if_neg he] at HCW
          clear he
          go_wp2_with fail
          go_meet
          exact ⟨_, _, ⟨_, _, _, _, _, _, _, _, _, _, _, _, _, _, _, HX7.out⟩, by have h2 := Adv.call (N := N) (N' := N + 1) HA.out sb (by have := HB.out; omega) (by rw [← HCR.out]; exact HX7.out.duo.cw.inv) (by omega); rw [HCW.out] at h2; exact h2⟩
    · have h0' : (what == 0) = false := by simpa using h0
      by_cases h12 : what = 1 ∨ what = 2
      · have hsel : Hid (((what == 1) = true ∧ (what == 2) = false) ∨ ((what == 1) = false ∧ (what == 2) = true)) := Lib.hid (by rcases h12 with rfl | rfl; exact .inl ⟨rfl, rfl⟩; exact .inr ⟨rfl, rfl⟩)
        obtain ⟨b, h, cx, hx', bd, bo, B, Bp, Mp, vd, vo, vw, vj, ha, hd', x⟩ := HX0.out
        have HX := Lib.hid x
        obtain ⟨pw, cw, hvw⟩ := x.wr.slice
        subst hvw
        obtain ⟨kw, hkw⟩ : ∃ kw, kw = d.ways.length := ⟨_, rfl⟩
        have HKW := Lib.hid hkw
        have c4 : w1.cell? ⟨g, 4, none⟩ = some (.slice pw kw cw) := by rw [hkw]; exact x.blk.cell 4
        have y1 : w1.cell? ⟨aq, 1, none⟩ = some (.int .u16 an) := HQ0.out.cell 1
        have hw12 : (what == 1 || what == 2) = true := by rcases h12 with rfl | rfl <;> rfl
        clear x h0 hkw
        by_cases hz : kw = 0
        · subst hz
          rcases hsel.out with ⟨hs1, hs2⟩ | ⟨hs1, hs2⟩
          all_goals (clear h12 hsel hw12)
          all_goals (go_wp2_with fail)
          all_goals go_meet
          all_goals exact ⟨_, _, HX0.out, Adv.same HA.out⟩
        · have hk0 : (0 : Int) < (kw : Int) := by omega
          have hk1 : ¬ (kw : Int) = 0 := by omega
          have hkz : ((kw : Int) == 0) = false := by simpa using hk1
          have hnn : 0 ≤ an ∧ an ≤ 65535 := HK.out.2.1
          have hem := Int.emod_nonneg an hk1
          have hel := Int.emod_lt_of_pos an hk0
          obtain ⟨i, hi⟩ : ∃ i : Nat, an % (kw : Int) = i := ⟨(an % (kw : Int)).toNat, by omega⟩
          have HI := Lib.hid hi
          have HIL : Hid (i < kw) := Lib.hid (by omega)
          have HY0 : Hid (∃ y, d.ways[i]? = some y) := Lib.hid ⟨_, List.getElem?_eq_getElem (by have := HKW.out; omega)⟩
          rcases hsel.out with ⟨hs1, hs2⟩ | ⟨hs1, hs2⟩
          · clear h12 hsel hw12 hz hem hel hi
            go_upto_region 9 with fail
            go_cut [6] (fun s6 wz => s6 = .int .i64 (i : Nat) ∧ OW w0 wz g b h cx hx' bd bo B Bp Mp d vd vo (.slice pw kw cw) vj ha hd' N true ∧ Blk wz aq 53 #[.int .i64 what, .int .u16 an, .int .u16 ay, .string sb, .bool ak])
            case first =>
              go_region
              go_wp2_with fail
              go_meet
              exact ⟨by rw [HI.out], by rw [HKW.out]; exact HX.out.below (Below.refl _ w1).drew, HQ0.out.drew⟩
            case rest =>
              obtain ⟨rfl, hx2, hq2⟩ := hcut
              obtain ⟨w2, hw2⟩ : ∃ w2, w2 = wc := ⟨_, rfl⟩
              subst hw2
              have hrv : RowV w2 w0.heap.size 66 2 (.slice pw kw cw) kw (d.ways.flatMap wrow) := by have := hx2.wr; rw [← HKW.out] at this; exact this
              obtain ⟨gw, ofw, cw', hpw, hcw, hgl, hfz, hcell⟩ := hrv.at (by have := HIL.out; omega)
              injection hpw with hpw _ hcc
              subst hpw hcc
              obtain ⟨⟨bk, t⟩, hy⟩ := HY0.out
              obtain ⟨hil2, hget⟩ := List.getElem?_eq_some_iff.1 hy
              have v0 : w2.cell? ⟨gw, ofw + i * 2, none⟩ = some (.bool bk) := hcell (i * 2) _ (by have h1 := flat_get wrow_len d.ways i 0 hil2 (by decide); rw [hget] at h1; exact h1)
              have v1 : w2.cell? ⟨gw, ofw + i * 2 + 1, none⟩ = some (.string t) := hcell (i * 2 + 1) _ (by have h1 := flat_get wrow_len d.ways i 1 hil2 (by decide); rw [hget] at h1; exact h1)
              have HWO : Hid (WayOk d (bk, t)) := Lib.hid (hget ▸ HA.out.inv.ways _ (List.getElem_mem hil2))
              have c4 : w2.cell? ⟨g, 4, none⟩ = some (.slice (some ⟨gw, ofw, none⟩) kw cw) := hx2.blk.cell 4
              have hi1 : (i : Int) < (kw : Int) := by have := HIL.out; omega
              have hi2 : ¬ (i : Int) < 0 := by omega
              have HX2 := Lib.hid hx2
              have HQ2 := Lib.hid hq2
              have HCE := Lib.hid hcell
              have HRV := Lib.hid hrv
              have HCW := Lib.hid hcw
              clear hx2 hq2 hcell hrv hil2 hget hy hcw hfz HX HX0 HQ0 y0 y1
              go_upto_region 11 with (refine wpl_store_blk (c' := #[.bool bk, .string t]) (Blk.new _ _ _) rfl _ _ _ rfl rfl rfl (by kernel_rfl) rfl (by simp [Value.oneCell']) ?_; go_loud (intro w3 hb3 ho3; have HY3 := Lib.hid hb3; have HW3 := Lib.hid (al_step ho3); have HX3 := Lib.hid (HX2.out.below (al_step ho3)); have HQ3 := Lib.hid (HQ2.out.below (al_step ho3)); clear hb3 ho3))
              clear v0 v1 c4 HX2 HQ2
              have y0 : w3.cell? ⟨aq, 0, none⟩ = some (.int .i64 what) := HQ3.out.cell 0
              have y4 : w3.cell? ⟨aq, 4, none⟩ = some (.bool ak) := HQ3.out.cell 4
              have v0 : w3.cell? ⟨w2.heap.size, 0, none⟩ = some (.bool bk) := HY3.out.cell 0
              have v1 : w3.cell? ⟨w2.heap.size, 1, none⟩ = some (.string t) := HY3.out.cell 1
              have HGL : Hid (gw < w3.heap.size) := Lib.hid (Nat.lt_of_lt_of_le hgl HW3.out.size)
              have hakd : ak = true ∨ ak = false := by cases ak; exact .inr rfl; exact .inl rfl
              generalize w2.heap.size = xq at *
              rcases hakd with hak | hak
              · rw [hak] at y4
                clear hak
                have HOP3 : Hid (OP w0 w3 g d true N) := Lib.hid ⟨_, _, _, _, _, _, _, _, _, _, _, _, _, _, _, HX3.out⟩
                have HCM := Lib.hid (wcomes_any HOP3.out HA.out.inv HWO.out (by have := pot_ways d; have := pot_jobs d; have := HP.out; omega) (by have := HA.out.ov; rw [this]; exact Nat.zero_le _) (by have := HN.out; omega))
                go_wp2_with (go_at_call 25; go_loud ((with_reducible refine HCM.out.mono ?_); rintro e w9 ⟨rfl, d', N', hx9, hmid, hpt, hnn9⟩; have HX9 := Lib.hid (And.intro hx9 (And.intro hmid (And.intro hpt hnn9))); clear hx9 hmid hpt hnn9))
                go_meet
                exact ⟨_, _, HX9.out.1, Adv.mid HA.out HX9.out.2.1 (by have h1 := HX9.out.2.2.1; have h2 := HX9.out.2.2.2; split at h1 <;> omega)⟩
              · rw [hak] at y4
                clear hak
                have HC3 : Hid (∀ k u, (d.ways.flatMap wrow)[k]? = some u → w3.cell? ⟨gw, ofw + k, none⟩ = some u) := Lib.hid (fun k u hk => by rw [HW3.out.cell (p := ⟨gw, ofw + k, none⟩) hgl]; exact HCE.out k u hk)
                have c4 : w3.cell? ⟨g, 4, none⟩ = some (.slice (some ⟨gw, ofw, none⟩) kw cw) := HX3.out.blk.cell 4
                have hcap : (i : Int) ≤ (cw : Int) := by have := HCW.out; have := HIL.out; omega
                have HLI : Hid (i < d.ways.length) := Lib.hid (by have := HIL.out; have := HKW.out; omega)
                have HLN : Hid (d.ways.length ≤ 400000) := Lib.hid (Nat.le_trans (pot_ways d) HP.out)
                have HXL : Hid (xq < w3.heap.size ∧ aq < w3.heap.size) := Lib.hid ⟨HY3.out.lt, HQ3.out.lt⟩
                go_upto_region 14 with (at_builtin; go_loud (refine wpl_append_cells (ys := (d.ways.take i).flatMap wrow) (v := .slice none 0 0) (n := 0) (xs := []) rfl rfl rfl rfl Try.underlying56 info_way rfl (by decide) (by decide) ⟨by simp, .inl ⟨rfl, rfl⟩⟩ (by rw [flat_len wrow_len, List.length_take, Nat.min_eq_left (Nat.le_of_lt HLI.out)]) (fun k u hk => by rw [flat_take wrow_len _ _ (Nat.le_of_lt HLI.out), List.getElem?_take] at hk; split at hk; (exact HC3.out k u hk); cases hk) (flat_one wrow_one _) (by have := HLI.out; have := HLN.out; omega) (base := w3.heap.size) (Nat.le_refl _) ?_; intro v4 w4 h4 o4; rw [Nat.zero_add, List.nil_append] at h4; obtain ⟨p4, e4, rfl⟩ := owns_slice h4; have HR4 := Lib.hid h4; have HW4 := Lib.hid (Only.below o4 (Nat.le_refl _) (fun k e => by cases e)); clear h4 o4))
                have HC4 : Hid (∀ k u, (d.ways.flatMap wrow)[k]? = some u → w4.cell? ⟨gw, ofw + k, none⟩ = some u) := Lib.hid (fun k u hk => by rw [HW4.out.cell (p := ⟨gw, ofw + k, none⟩) HGL.out]; exact HC3.out k u hk)
                have HX4 := Lib.hid (HX3.out.below HW4.out)
                have HY4 := Lib.hid (HY3.out.below HW4.out)
                have HQ4 := Lib.hid (HQ3.out.below HW4.out)
                have f4 := HX4.out.blk.frozen 4
                have hi4 : wrap64 ((i : Int) + 1) = (i : Int) + 1 := by have := HLN.out; have := HLI.out; unfold wrap64; omega
                have HSZ : Hid (w0.heap.size ≤ w3.heap.size ∧ w3.heap.size ≤ w4.heap.size) := Lib.hid ⟨HX3.out.duo.bel.size, HW4.out.size⟩
                clear c4 hcap y0 y4 v0 v1 HX3 HY3 HQ3
                have HFIN : Hid (∀ v5 w5 m, m = kw - (i + 1) → w5.ownsRow w3.heap.size 66 2 v5 (i + m) ((d.ways.take i).flatMap wrow ++ (d.ways.drop (i + 1)).flatMap wrow) → Only (fun k => (Value.slice p4 i e4).ownBlock = some k) w4 w5 → Blk w5 g 61 (wcells b cx d (.slice (some ⟨gw, ofw, none⟩) kw cw) vj ha hd' true) ∧ OW w0 (w5.setCell ⟨g, 4, none⟩ v5) g b h cx hx' bd bo B Bp Mp { d with ways := d.ways.take i ++ d.ways.drop (i + 1) } vd vo v5 vj ha hd' N true ∧ Blk (w5.setCell ⟨g, 4, none⟩ v5) xq 66 #[.bool bk, .string t] ∧ Blk (w5.setCell ⟨g, 4, none⟩ v5) aq 53 #[.int .i64 what, .int .u16 an, .int .u16 ay, .string sb, .bool ak]) := Lib.hid (fun v5 w5 m hm h5 o5 => by
                  subst hm
                  have hlen : i + (kw - (i + 1)) = (d.ways.take i ++ d.ways.drop (i + 1)).length := by rw [List.length_append, List.length_take, List.length_drop, ← HKW.out]; have := HIL.out; omega
                  rw [← List.flatMap_append] at h5
                  rw [hlen] at h5
                  have hb5 := HY4.out.only o5 (fun e => by have := (owns_type HR4.out e).choose_spec.2.1; have := HXL.out.1; omega)
                  have hq5 := HQ4.out.only o5 (fun e => by have := (owns_type HR4.out e).choose_spec.2.1; have := HXL.out.2; omega)
                  have hj := HX4.out.wset (fun k hk => by obtain ⟨A, hA, hl, _⟩ := owns_type HR4.out hk; exact ⟨A, hA, Nat.le_trans HSZ.out.1 hl⟩) (.of_own (owns_ge h5 HSZ.out.1)) o5
                  exact ⟨hj.1, hj.2, hb5.only ((Only.refl (· = g) w5).set1) (fun e => by have e' : xq = g := e; rw [e'] at hb5; exact absurd (blk_ne hb5 hj.1) (by decide)), hq5.only ((Only.refl (· = g) w5).set1) (fun e => by have e' : aq = g := e; rw [e'] at hq5; exact absurd (blk_ne hq5 hj.1) (by decide))⟩)
                go_cut [] (fun wz => (∃ v5, OW w0 wz g b h cx hx' bd bo B Bp Mp { d with ways := d.ways.take i ++ d.ways.drop (i + 1) } vd vo v5 vj ha hd' N true) ∧ Blk wz xq 66 #[.bool bk, .string t] ∧ Blk wz aq 53 #[.int .i64 what, .int .u16 an, .int .u16 ay, .string sb, .bool ak])
                case first =>
                  by_cases hz : cw = i + 1
                  · have hn : kw = i + 1 := by have := HCW.out; have := HIL.out; omega
                    subst hz hn
                    have c4 : w4.cell? ⟨g, 4, none⟩ = some (.slice (some ⟨gw, ofw, none⟩) (i + 1) (i + 1)) := HX4.out.blk.cell 4
                    have hnil : Hid ((d.ways.drop (i + 1)) = []) := Lib.hid (List.drop_eq_nil_of_le (by have := HKW.out; omega))
                    clear hi1
                    go_wp2_with (at_builtin; go_loud (refine wpl_append_cells (off := ofw) (ys := (d.ways.drop (i + 1)).flatMap wrow) rfl rfl rfl rfl Try.underlying56 info_way rfl (by decide) (by decide) HR4.out (by rw [hnil.out]; rfl) (fun k u hk => by rw [hnil.out] at hk; simp at hk) (flat_one wrow_one _) (by have := HLN.out; have := HLI.out; omega) HSZ.out.2 ?_; intro v5 w5 h5 o5; obtain ⟨b5, hx5, hy5, hq5⟩ := HFIN.out v5 w5 _ (by simp) h5 o5; have HX5 := Lib.hid hx5; have HY5 := Lib.hid hy5; have HQ5 := Lib.hid hq5; have d1 : w5.cell? ⟨g, 4, none⟩ = some (.slice (some ⟨gw, ofw, none⟩) (i + 1) (i + 1)) := b5.cell 4; have f1 := b5.frozen 4; obtain ⟨p5, c5, rfl⟩ := owns_slice h5; clear h5 o5 b5 hx5 hy5 hq5))
                    go_meet
                    exact ⟨⟨_, HX5.out⟩, HY5.out, HQ5.out⟩
                  · have c4 : w4.cell? ⟨g, 4, none⟩ = some (.slice (some ⟨gw, ofw, none⟩) kw cw) := HX4.out.blk.cell 4
                    have hi3 : (i : Int) + 1 ≤ (kw : Int) := by omega
                    have hcap : (kw : Int) ≤ (cw : Int) := by have := HCW.out; omega
                    go_wp2_with (at_builtin; go_loud (refine wpl_append_cells (off := ofw + (i + 1) * 2) (ys := (d.ways.drop (i + 1)).flatMap wrow) rfl rfl rfl rfl Try.underlying56 info_way rfl (by decide) (by decide) HR4.out (by rw [flat_len wrow_len, List.length_drop, ← HKW.out]) (fun k u hk => by have := HLI.out; rw [flat_drop wrow_len _ _ (by omega), List.getElem?_drop] at hk; have h9 := HC4.out _ u hk; rw [← Nat.add_assoc] at h9; exact h9) (flat_one wrow_one _) (by have := HLN.out; have := HLI.out; have := HKW.out; omega) HSZ.out.2 ?_; intro v5 w5 h5 o5; obtain ⟨b5, hx5, hy5, hq5⟩ := HFIN.out v5 w5 _ rfl h5 o5; have HX5 := Lib.hid hx5; have HY5 := Lib.hid hy5; have HQ5 := Lib.hid hq5; have d1 : w5.cell? ⟨g, 4, none⟩ = some (.slice (some ⟨gw, ofw, none⟩) kw cw) := b5.cell 4; have f1 := b5.frozen 4; obtain ⟨p5, c5, rfl⟩ := owns_slice h5; clear h5 o5 b5 hx5 hy5 hq5))
                    go_meet
                    exact ⟨⟨_, HX5.out⟩, HY5.out, HQ5.out⟩
                case rest =>
                  obtain ⟨⟨v5, hx5⟩, hy5, hq5⟩ := hcut
                  obtain ⟨w6, hw6⟩ : ∃ w6, w6 = wc := ⟨_, rfl⟩
                  subst hw6
                  have HX6 : Hid (OP w0 w6 g { d with ways := d.ways.take i ++ d.ways.drop (i + 1) } true N) := Lib.hid ⟨_, _, _, _, _, _, _, _, _, _, _, _, _, _, _, hx5⟩
                  have HA2 := Lib.hid (HA.out.cut i)
                  have HPT := Lib.hid (pot_cut d i HLI.out)
                  have y0 : w6.cell? ⟨aq, 0, none⟩ = some (.int .i64 what) := hq5.cell 0
                  have v0 : w6.cell? ⟨xq, 0, none⟩ = some (.bool bk) := hy5.cell 0
                  have v1 : w6.cell? ⟨xq, 1, none⟩ = some (.string t) := hy5.cell 1
                  clear hx5 hy5 hq5 HFIN HC4 HX4 HY4 HQ4 HR4 HW4 hi4 f4
                  have HCM := Lib.hid (wcomes_any HX6.out HA2.out.inv (HWO.out.more rfl (fun _ e => e) (fun _ e => e)) (by have h1 := pot_ways { d with ways := d.ways.take i ++ d.ways.drop (i + 1) }; have h2 := pot_jobs d; have := HP.out; have := HPT.out; dsimp only at *; omega) (by have := HA2.out.ov; rw [this]; exact Nat.zero_le _) (by have := HN.out; omega))
                  go_wp2_with (go_at_call 25; go_loud ((with_reducible refine HCM.out.mono ?_); rintro e w9 ⟨rfl, d', N', hx9, hmid, hpt, hnn9⟩; have HX9 := Lib.hid (And.intro hx9 (And.intro hmid (And.intro hpt hnn9))); clear hx9 hmid hpt hnn9))
                  go_meet
                  exact ⟨_, _, HX9.out.1, Adv.mid HA.out ⟨HX9.out.2.1.inv, HX9.out.2.1.now, HX9.out.2.1.inc, HX9.out.2.1.last, HX9.out.2.1.du, HX9.out.2.1.ov, HX9.out.2.1.L⟩ (by have h1 := HX9.out.2.2.1; have h2 := HX9.out.2.2.2; have h3 := HPT.out; split at h1 <;> split at h3 <;> omega)⟩
          · clear h12 hsel hw12 hz hem hel hi
            go_upto_region 9 with fail
            go_cut [6] (fun s6 wz => s6 = .int .i64 (i : Nat) ∧ OW w0 wz g b h cx hx' bd bo B Bp Mp d vd vo (.slice pw kw cw) vj ha hd' N true ∧ Blk wz aq 53 #[.int .i64 what, .int .u16 an, .int .u16 ay, .string sb, .bool ak])
            case first =>
              go_region
              go_wp2_with fail
              go_meet
              exact ⟨by rw [HI.out], by rw [HKW.out]; exact HX.out.below (Below.refl _ w1).drew, HQ0.out.drew⟩
            case rest =>
              obtain ⟨rfl, hx2, hq2⟩ := hcut
              obtain ⟨w2, hw2⟩ : ∃ w2, w2 = wc := ⟨_, rfl⟩
              subst hw2
              have hrv : RowV w2 w0.heap.size 66 2 (.slice pw kw cw) kw (d.ways.flatMap wrow) := by have := hx2.wr; rw [← HKW.out] at this; exact this
              obtain ⟨gw, ofw, cw', hpw, hcw, hgl, hfz, hcell⟩ := hrv.at (by have := HIL.out; omega)
              injection hpw with hpw _ hcc
              subst hpw hcc
              obtain ⟨⟨bk, t⟩, hy⟩ := HY0.out
              obtain ⟨hil2, hget⟩ := List.getElem?_eq_some_iff.1 hy
              have v0 : w2.cell? ⟨gw, ofw + i * 2, none⟩ = some (.bool bk) := hcell (i * 2) _ (by have h1 := flat_get wrow_len d.ways i 0 hil2 (by decide); rw [hget] at h1; exact h1)
              have v1 : w2.cell? ⟨gw, ofw + i * 2 + 1, none⟩ = some (.string t) := hcell (i * 2 + 1) _ (by have h1 := flat_get wrow_len d.ways i 1 hil2 (by decide); rw [hget] at h1; exact h1)
              have HWO : Hid (WayOk d (bk, t)) := Lib.hid (hget ▸ HA.out.inv.ways _ (List.getElem_mem hil2))
              have c4 : w2.cell? ⟨g, 4, none⟩ = some (.slice (some ⟨gw, ofw, none⟩) kw cw) := hx2.blk.cell 4
              have hi1 : (i : Int) < (kw : Int) := by have := HIL.out; omega
              have hi2 : ¬ (i : Int) < 0 := by omega
              have HX2 := Lib.hid hx2
              have HQ2 := Lib.hid hq2
              have HCE := Lib.hid hcell
              have HRV := Lib.hid hrv
              have HCW := Lib.hid hcw
              clear hx2 hq2 hcell hrv hil2 hget hy hcw hfz HX HX0 HQ0 y0 y1
              go_upto_region 11 with (refine wpl_store_blk (c' := #[.bool bk, .string t]) (Blk.new _ _ _) rfl _ _ _ rfl rfl rfl (by kernel_rfl) rfl (by simp [Value.oneCell']) ?_; go_loud (intro w3 hb3 ho3; have HY3 := Lib.hid hb3; have HW3 := Lib.hid (al_step ho3); have HX3 := Lib.hid (HX2.out.below (al_step ho3)); have HQ3 := Lib.hid (HQ2.out.below (al_step ho3)); clear hb3 ho3))
              clear v0 v1 c4 HX2 HQ2
              have y0 : w3.cell? ⟨aq, 0, none⟩ = some (.int .i64 what) := HQ3.out.cell 0
              have y4 : w3.cell? ⟨aq, 4, none⟩ = some (.bool ak) := HQ3.out.cell 4
              have v0 : w3.cell? ⟨w2.heap.size, 0, none⟩ = some (.bool bk) := HY3.out.cell 0
              have v1 : w3.cell? ⟨w2.heap.size, 1, none⟩ = some (.string t) := HY3.out.cell 1
              have HGL : Hid (gw < w3.heap.size) := Lib.hid (Nat.lt_of_lt_of_le hgl HW3.out.size)
              have hakd : ak = true ∨ ak = false := by cases ak; exact .inr rfl; exact .inl rfl
              generalize w2.heap.size = xq at *
              rcases hakd with hak | hak
              · rw [hak] at y4
                clear hak
                have HC3 : Hid (∀ k u, (d.ways.flatMap wrow)[k]? = some u → w3.cell? ⟨gw, ofw + k, none⟩ = some u) := Lib.hid (fun k u hk => by rw [HW3.out.cell (p := ⟨gw, ofw + k, none⟩) hgl]; exact HCE.out k u hk)
                have c4 : w3.cell? ⟨g, 4, none⟩ = some (.slice (some ⟨gw, ofw, none⟩) kw cw) := HX3.out.blk.cell 4
                have hcap : (i : Int) ≤ (cw : Int) := by have := HCW.out; have := HIL.out; omega
                have HLI : Hid (i < d.ways.length) := Lib.hid (by have := HIL.out; have := HKW.out; omega)
                have HLN : Hid (d.ways.length ≤ 400000) := Lib.hid (Nat.le_trans (pot_ways d) HP.out)
                have HXL : Hid (xq < w3.heap.size ∧ aq < w3.heap.size) := Lib.hid ⟨HY3.out.lt, HQ3.out.lt⟩
                go_upto_region 14 with (at_builtin; go_loud (refine wpl_append_cells (ys := (d.ways.take i).flatMap wrow) (v := .slice none 0 0) (n := 0) (xs := []) rfl rfl rfl rfl Try.underlying56 info_way rfl (by decide) (by decide) ⟨by simp, .inl ⟨rfl, rfl⟩⟩ (by rw [flat_len wrow_len, List.length_take, Nat.min_eq_left (Nat.le_of_lt HLI.out)]) (fun k u hk => by rw [flat_take wrow_len _ _ (Nat.le_of_lt HLI.out), List.getElem?_take] at hk; split at hk; (exact HC3.out k u hk); cases hk) (flat_one wrow_one _) (by have := HLI.out; have := HLN.out; omega) (base := w3.heap.size) (Nat.le_refl _) ?_; intro v4 w4 h4 o4; rw [Nat.zero_add, List.nil_append] at h4; obtain ⟨p4, e4, rfl⟩ := owns_slice h4; have HR4 := Lib.hid h4; have HW4 := Lib.hid (Only.below o4 (Nat.le_refl _) (fun k e => by cases e)); clear h4 o4))
                have HC4 : Hid (∀ k u, (d.ways.flatMap wrow)[k]? = some u → w4.cell? ⟨gw, ofw + k, none⟩ = some u) := Lib.hid (fun k u hk => by rw [HW4.out.cell (p := ⟨gw, ofw + k, none⟩) HGL.out]; exact HC3.out k u hk)
                have HX4 := Lib.hid (HX3.out.below HW4.out)
                have HY4 := Lib.hid (HY3.out.below HW4.out)
                have HQ4 := Lib.hid (HQ3.out.below HW4.out)
                have f4 := HX4.out.blk.frozen 4
                have hi4 : wrap64 ((i : Int) + 1) = (i : Int) + 1 := by have := HLN.out; have := HLI.out; unfold wrap64; omega
                have HSZ : Hid (w0.heap.size ≤ w3.heap.size ∧ w3.heap.size ≤ w4.heap.size) := Lib.hid ⟨HX3.out.duo.bel.size, HW4.out.size⟩
                clear c4 hcap y0 y4 v0 v1 HX3 HY3 HQ3
                have HFIN : Hid (∀ v5 w5 m, m = kw - (i + 1) → w5.ownsRow w3.heap.size 66 2 v5 (i + m) ((d.ways.take i).flatMap wrow ++ (d.ways.drop (i + 1)).flatMap wrow) → Only (fun k => (Value.slice p4 i e4).ownBlock = some k) w4 w5 → Blk w5 g 61 (wcells b cx d (.slice (some ⟨gw, ofw, none⟩) kw cw) vj ha hd' true) ∧ OW w0 (w5.setCell ⟨g, 4, none⟩ v5) g b h cx hx' bd bo B Bp Mp { d with ways := d.ways.take i ++ d.ways.drop (i + 1) } vd vo v5 vj ha hd' N true ∧ Blk (w5.setCell ⟨g, 4, none⟩ v5) xq 66 #[.bool bk, .string t] ∧ Blk (w5.setCell ⟨g, 4, none⟩ v5) aq 53 #[.int .i64 what, .int .u16 an, .int .u16 ay, .string sb, .bool ak]) := Lib.hid (fun v5 w5 m hm h5 o5 => by
                  subst hm
                  have hlen : i + (kw - (i + 1)) = (d.ways.take i ++ d.ways.drop (i + 1)).length := by rw [List.length_append, List.length_take, List.length_drop, ← HKW.out]; have := HIL.out; omega
                  rw [← List.flatMap_append] at h5
                  rw [hlen] at h5
                  have hb5 := HY4.out.only o5 (fun e => by have := (owns_type HR4.out e).choose_spec.2.1; have := HXL.out.1; omega)
                  have hq5 := HQ4.out.only o5 (fun e => by have := (owns_type HR4.out e).choose_spec.2.1; have := HXL.out.2; omega)
                  have hj := HX4.out.wset (fun k hk => by obtain ⟨A, hA, hl, _⟩ := owns_type HR4.out hk; exact ⟨A, hA, Nat.le_trans HSZ.out.1 hl⟩) (.of_own (owns_ge h5 HSZ.out.1)) o5
                  exact ⟨hj.1, hj.2, hb5.only ((Only.refl (· = g) w5).set1) (fun e => by have e' : xq = g := e; rw [e'] at hb5; exact absurd (blk_ne hb5 hj.1) (by decide)), hq5.only ((Only.refl (· = g) w5).set1) (fun e => by have e' : aq = g := e; rw [e'] at hq5; exact absurd (blk_ne hq5 hj.1) (by decide))⟩)
                go_cut [] (fun wz => (∃ v5, OW w0 wz g b h cx hx' bd bo B Bp Mp { d with ways := d.ways.take i ++ d.ways.drop (i + 1) } vd vo v5 vj ha hd' N true) ∧ Blk wz xq 66 #[.bool bk, .string t] ∧ Blk wz aq 53 #[.int .i64 what, .int .u16 an, .int .u16 ay, .string sb, .bool ak])
                case first =>
                  by_cases hz : cw = i + 1
                  · have hn : kw = i + 1 := by have := HCW.out; have := HIL.out; omega
                    subst hz hn
                    have c4 : w4.cell? ⟨g, 4, none⟩ = some (.slice (some ⟨gw, ofw, none⟩) (i + 1) (i + 1)) := HX4.out.blk.cell 4
                    have hnil : Hid ((d.ways.drop (i + 1)) = []) := Lib.hid (List.drop_eq_nil_of_le (by have := HKW.out; omega))
                    clear hi1
                    go_wp2_with (at_builtin; go_loud (refine wpl_append_cells (off := ofw) (ys := (d.ways.drop (i + 1)).flatMap wrow) rfl rfl rfl rfl Try.underlying56 info_way rfl (by decide) (by decide) HR4.out (by rw [hnil.out]; rfl) (fun k u hk => by rw [hnil.out] at hk; simp at hk) (flat_one wrow_one _) (by have := HLN.out; have := HLI.out; omega) HSZ.out.2 ?_; intro v5 w5 h5 o5; obtain ⟨b5, hx5, hy5, hq5⟩ := HFIN.out v5 w5 _ (by simp) h5 o5; have HX5 := Lib.hid hx5; have HY5 := Lib.hid hy5; have HQ5 := Lib.hid hq5; have d1 : w5.cell? ⟨g, 4, none⟩ = some (.slice (some ⟨gw, ofw, none⟩) (i + 1) (i + 1)) := b5.cell 4; have f1 := b5.frozen 4; obtain ⟨p5, c5, rfl⟩ := owns_slice h5; clear h5 o5 b5 hx5 hy5 hq5))
                    go_meet
                    exact ⟨⟨_, HX5.out⟩, HY5.out, HQ5.out⟩
                  · have c4 : w4.cell? ⟨g, 4, none⟩ = some (.slice (some ⟨gw, ofw, none⟩) kw cw) := HX4.out.blk.cell 4
                    have hi3 : (i : Int) + 1 ≤ (kw : Int) := by omega
                    have hcap : (kw : Int) ≤ (cw : Int) := by have := HCW.out; omega
                    go_wp2_with (at_builtin; go_loud (refine wpl_append_cells (off := ofw + (i + 1) * 2) (ys := (d.ways.drop (i + 1)).flatMap wrow) rfl rfl rfl rfl Try.underlying56 info_way rfl (by decide) (by decide) HR4.out (by rw [flat_len wrow_len, List.length_drop, ← HKW.out]) (fun k u hk => by have := HLI.out; rw [flat_drop wrow_len _ _ (by omega), List.getElem?_drop] at hk; have h9 := HC4.out _ u hk; rw [← Nat.add_assoc] at h9; exact h9) (flat_one wrow_one _) (by have := HLN.out; have := HLI.out; have := HKW.out; omega) HSZ.out.2 ?_; intro v5 w5 h5 o5; obtain ⟨b5, hx5, hy5, hq5⟩ := HFIN.out v5 w5 _ rfl h5 o5; have HX5 := Lib.hid hx5; have HY5 := Lib.hid hy5; have HQ5 := Lib.hid hq5; have d1 : w5.cell? ⟨g, 4, none⟩ = some (.slice (some ⟨gw, ofw, none⟩) kw cw) := b5.cell 4; have f1 := b5.frozen 4; obtain ⟨p5, c5, rfl⟩ := owns_slice h5; clear h5 o5 b5 hx5 hy5 hq5))
                    go_meet
                    exact ⟨⟨_, HX5.out⟩, HY5.out, HQ5.out⟩
                case rest =>
                  obtain ⟨⟨v5, hx5⟩, hy5, hq5⟩ := hcut
                  obtain ⟨w6, hw6⟩ : ∃ w6, w6 = wc := ⟨_, rfl⟩
                  subst hw6
                  have HX6 : Hid (OP w0 w6 g { d with ways := d.ways.take i ++ d.ways.drop (i + 1) } true N) := Lib.hid ⟨_, _, _, _, _, _, _, _, _, _, _, _, _, _, _, hx5⟩
                  have HA2 := Lib.hid (HA.out.cut i)
                  have HPT := Lib.hid (pot_cut d i HLI.out)
                  have y0 : w6.cell? ⟨aq, 0, none⟩ = some (.int .i64 what) := hq5.cell 0
                  have v0 : w6.cell? ⟨xq, 0, none⟩ = some (.bool bk) := hy5.cell 0
                  have v1 : w6.cell? ⟨xq, 1, none⟩ = some (.string t) := hy5.cell 1
                  clear hx5 hy5 hq5 HFIN HC4 HX4 HY4 HQ4 HR4 HW4 hi4 f4
                  go_wp2_with fail
                  go_meet
                  exact ⟨_, _, HX6.out, Adv.mid HA.out ⟨HA2.out.inv, rfl, rfl, rfl, rfl, Nat.le_succ _, fun x hx => hx⟩ (by have := HPT.out; omega)⟩
              · rw [hak] at y4
                clear hak
                have HC3 : Hid (∀ k u, (d.ways.flatMap wrow)[k]? = some u → w3.cell? ⟨gw, ofw + k, none⟩ = some u) := Lib.hid (fun k u hk => by rw [HW3.out.cell (p := ⟨gw, ofw + k, none⟩) hgl]; exact HCE.out k u hk)
                have c4 : w3.cell? ⟨g, 4, none⟩ = some (.slice (some ⟨gw, ofw, none⟩) kw cw) := HX3.out.blk.cell 4
                have hcap : (i : Int) ≤ (cw : Int) := by have := HCW.out; have := HIL.out; omega
                have HLI : Hid (i < d.ways.length) := Lib.hid (by have := HIL.out; have := HKW.out; omega)
                have HLN : Hid (d.ways.length ≤ 400000) := Lib.hid (Nat.le_trans (pot_ways d) HP.out)
                have HXL : Hid (xq < w3.heap.size ∧ aq < w3.heap.size) := Lib.hid ⟨HY3.out.lt, HQ3.out.lt⟩
                go_upto_region 14 with (at_builtin; go_loud (refine wpl_append_cells (ys := (d.ways.take i).flatMap wrow) (v := .slice none 0 0) (n := 0) (xs := []) rfl rfl rfl rfl Try.underlying56 info_way rfl (by decide) (by decide) ⟨by simp, .inl ⟨rfl, rfl⟩⟩ (by rw [flat_len wrow_len, List.length_take, Nat.min_eq_left (Nat.le_of_lt HLI.out)]) (fun k u hk => by rw [flat_take wrow_len _ _ (Nat.le_of_lt HLI.out), List.getElem?_take] at hk; split at hk; (exact HC3.out k u hk); cases hk) (flat_one wrow_one _) (by have := HLI.out; have := HLN.out; omega) (base := w3.heap.size) (Nat.le_refl _) ?_; intro v4 w4 h4 o4; rw [Nat.zero_add, List.nil_append] at h4; obtain ⟨p4, e4, rfl⟩ := owns_slice h4; have HR4 := Lib.hid h4; have HW4 := Lib.hid (Only.below o4 (Nat.le_refl _) (fun k e => by cases e)); clear h4 o4))
                have HC4 : Hid (∀ k u, (d.ways.flatMap wrow)[k]? = some u → w4.cell? ⟨gw, ofw + k, none⟩ = some u) := Lib.hid (fun k u hk => by rw [HW4.out.cell (p := ⟨gw, ofw + k, none⟩) HGL.out]; exact HC3.out k u hk)
                have HX4 := Lib.hid (HX3.out.below HW4.out)
                have HY4 := Lib.hid (HY3.out.below HW4.out)
                have HQ4 := Lib.hid (HQ3.out.below HW4.out)
                have f4 := HX4.out.blk.frozen 4
                have hi4 : wrap64 ((i : Int) + 1) = (i : Int) + 1 := by have := HLN.out; have := HLI.out; unfold wrap64; omega
                have HSZ : Hid (w0.heap.size ≤ w3.heap.size ∧ w3.heap.size ≤ w4.heap.size) := Lib.hid ⟨HX3.out.duo.bel.size, HW4.out.size⟩
                clear c4 hcap y0 y4 v0 v1 HX3 HY3 HQ3
                have HFIN : Hid (∀ v5 w5 m, m = kw - (i + 1) → w5.ownsRow w3.heap.size 66 2 v5 (i + m) ((d.ways.take i).flatMap wrow ++ (d.ways.drop (i + 1)).flatMap wrow) → Only (fun k => (Value.slice p4 i e4).ownBlock = some k) w4 w5 → Blk w5 g 61 (wcells b cx d (.slice (some ⟨gw, ofw, none⟩) kw cw) vj ha hd' true) ∧ OW w0 (w5.setCell ⟨g, 4, none⟩ v5) g b h cx hx' bd bo B Bp Mp { d with ways := d.ways.take i ++ d.ways.drop (i + 1) } vd vo v5 vj ha hd' N true ∧ Blk (w5.setCell ⟨g, 4, none⟩ v5) xq 66 #[.bool bk, .string t] ∧ Blk (w5.setCell ⟨g, 4, none⟩ v5) aq 53 #[.int .i64 what, .int .u16 an, .int .u16 ay, .string sb, .bool ak]) := Lib.hid (fun v5 w5 m hm h5 o5 => by
                  subst hm
                  have hlen : i + (kw - (i + 1)) = (d.ways.take i ++ d.ways.drop (i + 1)).length := by rw [List.length_append, List.length_take, List.length_drop, ← HKW.out]; have := HIL.out; omega
                  rw [← List.flatMap_append] at h5
                  rw [hlen] at h5
                  have hb5 := HY4.out.only o5 (fun e => by have := (owns_type HR4.out e).choose_spec.2.1; have := HXL.out.1; omega)
                  have hq5 := HQ4.out.only o5 (fun e => by have := (owns_type HR4.out e).choose_spec.2.1; have := HXL.out.2; omega)
                  have hj := HX4.out.wset (fun k hk => by obtain ⟨A, hA, hl, _⟩ := owns_type HR4.out hk; exact ⟨A, hA, Nat.le_trans HSZ.out.1 hl⟩) (.of_own (owns_ge h5 HSZ.out.1)) o5
                  exact ⟨hj.1, hj.2, hb5.only ((Only.refl (· = g) w5).set1) (fun e => by have e' : xq = g := e; rw [e'] at hb5; exact absurd (blk_ne hb5 hj.1) (by decide)), hq5.only ((Only.refl (· = g) w5).set1) (fun e => by have e' : aq = g := e; rw [e'] at hq5; exact absurd (blk_ne hq5 hj.1) (by decide))⟩)
                go_cut [] (fun wz => (∃ v5, OW w0 wz g b h cx hx' bd bo B Bp Mp { d with ways := d.ways.take i ++ d.ways.drop (i + 1) } vd vo v5 vj ha hd' N true) ∧ Blk wz xq 66 #[.bool bk, .string t] ∧ Blk wz aq 53 #[.int .i64 what, .int .u16 an, .int .u16 ay, .string sb, .bool ak])
                case first =>
                  by_cases hz : cw = i + 1
                  · have hn : kw = i + 1 := by have := HCW.out; have := HIL.out; omega
                    subst hz hn
                    have c4 : w4.cell? ⟨g, 4, none⟩ = some (.slice (some ⟨gw, ofw, none⟩) (i + 1) (i + 1)) := HX4.out.blk.cell 4
                    have hnil : Hid ((d.ways.drop (i + 1)) = []) := Lib.hid (List.drop_eq_nil_of_le (by have := HKW.out; omega))
                    clear hi1
                    go_wp2_with (at_builtin; go_loud (refine wpl_append_cells (off := ofw) (ys := (d.ways.drop (i + 1)).flatMap wrow) rfl rfl rfl rfl Try.underlying56 info_way rfl (by decide) (by decide) HR4.out (by rw [hnil.out]; rfl) (fun k u hk => by rw [hnil.out] at hk; simp at hk) (flat_one wrow_one _) (by have := HLN.out; have := HLI.out; omega) HSZ.out.2 ?_; intro v5 w5 h5 o5; obtain ⟨b5, hx5, hy5, hq5⟩ := HFIN.out v5 w5 _ (by simp) h5 o5; have HX5 := Lib.hid hx5; have HY5 := Lib.hid hy5; have HQ5 := Lib.hid hq5; have d1 : w5.cell? ⟨g, 4, none⟩ = some (.slice (some ⟨gw, ofw, none⟩) (i + 1) (i + 1)) := b5.cell 4; have f1 := b5.frozen 4; obtain ⟨p5, c5, rfl⟩ := owns_slice h5; clear h5 o5 b5 hx5 hy5 hq5))
                    go_meet
                    exact ⟨⟨_, HX5.out⟩, HY5.out, HQ5.out⟩
                  · have c4 : w4.cell? ⟨g, 4, none⟩ = some (.slice (some ⟨gw, ofw, none⟩) kw cw) := HX4.out.blk.cell 4
                    have hi3 : (i : Int) + 1 ≤ (kw : Int) := by omega
                    have hcap : (kw : Int) ≤ (cw : Int) := by have := HCW.out; omega
                    go_wp2_with (at_builtin; go_loud (refine wpl_append_cells (off := ofw + (i + 1) * 2) (ys := (d.ways.drop (i + 1)).flatMap wrow) rfl rfl rfl rfl Try.underlying56 info_way rfl (by decide) (by decide) HR4.out (by rw [flat_len wrow_len, List.length_drop, ← HKW.out]) (fun k u hk => by have := HLI.out; rw [flat_drop wrow_len _ _ (by omega), List.getElem?_drop] at hk; have h9 := HC4.out _ u hk; rw [← Nat.add_assoc] at h9; exact h9) (flat_one wrow_one _) (by have := HLN.out; have := HLI.out; have := HKW.out; omega) HSZ.out.2 ?_; intro v5 w5 h5 o5; obtain ⟨b5, hx5, hy5, hq5⟩ := HFIN.out v5 w5 _ rfl h5 o5; have HX5 := Lib.hid hx5; have HY5 := Lib.hid hy5; have HQ5 := Lib.hid hq5; have d1 : w5.cell? ⟨g, 4, none⟩ = some (.slice (some ⟨gw, ofw, none⟩) kw cw) := b5.cell 4; have f1 := b5.frozen 4; obtain ⟨p5, c5, rfl⟩ := owns_slice h5; clear h5 o5 b5 hx5 hy5 hq5))
                    go_meet
                    exact ⟨⟨_, HX5.out⟩, HY5.out, HQ5.out⟩
                case rest =>
                  obtain ⟨⟨v5, hx5⟩, hy5, hq5⟩ := hcut
                  obtain ⟨w6, hw6⟩ : ∃ w6, w6 = wc := ⟨_, rfl⟩
                  subst hw6
                  have HX6 : Hid (OP w0 w6 g { d with ways := d.ways.take i ++ d.ways.drop (i + 1) } true N) := Lib.hid ⟨_, _, _, _, _, _, _, _, _, _, _, _, _, _, _, hx5⟩
                  have HA2 := Lib.hid (HA.out.cut i)
                  have HPT := Lib.hid (pot_cut d i HLI.out)
                  have y0 : w6.cell? ⟨aq, 0, none⟩ = some (.int .i64 what) := hq5.cell 0
                  have v0 : w6.cell? ⟨xq, 0, none⟩ = some (.bool bk) := hy5.cell 0
                  have v1 : w6.cell? ⟨xq, 1, none⟩ = some (.string t) := hy5.cell 1
                  clear hx5 hy5 hq5 HFIN HC4 HX4 HY4 HQ4 HR4 HW4 hi4 f4
                  go_wp2_with fail
                  go_meet
                  exact ⟨_, _, HX6.out, Adv.mid HA.out ⟨HA2.out.inv, rfl, rfl, rfl, rfl, Nat.le_succ _, fun x hx => hx⟩ (by have := HPT.out; omega)⟩
      · have h1' : (what == 1) = false := by have : ¬ what = 1 := (fun e => h12 (.inl e)); simpa using this
        have h2' : (what == 2) = false := by have : ¬ what = 2 := (fun e => h12 (.inr e)); simpa using this
        by_cases h3 : what = 3
        · have h3' : (what == 3) = true := by simpa using h3
          obtain ⟨b, h, cx, hx', bd, bo, B, Bp, Mp, vd, vo, vw, vj, ha, hd', x⟩ := HX0.out
          have HX := Lib.hid x
          have c3 : w1.cell? ⟨g, 3, none⟩ = some (.int .i64 d.now) := x.blk.cell 3
          have f3 := x.blk.frozen 3
          have y2 : w1.cell? ⟨aq, 2, none⟩ = some (.int .u16 ay) := HQ0.out.cell 2
          clear x h0 h12 h3 y0
          have hnn : 0 ≤ ay ∧ ay ≤ 65535 := HK.out.2.2.1
          have hn0 := HA.out.inv.now
          have hnb := HB.out.1
          go_upto_region 18 with fail
          go_region
          obtain ⟨tn, htn⟩ : ∃ tn, tn = d.now + ay % 64 := ⟨_, rfl⟩
          have HTN := Lib.hid htn
          have HX8 : Hid (OW w0 ((w1.setCell ⟨g, 3, none⟩ (.int .i64 tn)).drew) g b h cx hx' bd bo B Bp Mp { d with now := tn } vd vo vw vj ha hd' N true) := Lib.hid ((HX.out.set (f := 3) (v := .int .i64 tn) (fn' := true) (vw' := vw) (vj' := vj) (d' := { d with now := tn }) rfl ⟨rfl, rfl, rfl, rfl⟩ HX.out.wr HX.out.jr).below (Below.refl _ _).drew)
          rw [← htn]
          clear htn c3 f3 y2 hnn hn0 hnb HX HX0 HQ0
          generalize (w1.setCell ⟨g, 3, none⟩ (.int .i64 tn)).drew = w8 at *
          have c0 : w8.cell? ⟨g, 0, none⟩ = some (.pointer (some ⟨b, 0, none⟩)) := HX8.out.blk.cell 0
          have c3 : w8.cell? ⟨g, 3, none⟩ = some (.int .i64 tn) := HX8.out.blk.cell 3
          have HTI := Lib.hid (w_tick (HX8.out.below (Below.refl _ w8).drew) (now := tn) ⟨by have := HA.out.du; dsimp only; rw [this]; exact Nat.zero_le _, by have := HA.out.ov; dsimp only; rw [this]; exact Nat.zero_le _⟩ rfl)
          go_upto_region 19 with fail
          go_region_with (go_at_call 28; ((with_reducible refine HTI.out.mono ?_); rintro e w9 ⟨rfl, B', vd', vo', hx9⟩; have HX9 := Lib.hid hx9; clear hx9))
          all_goals (go_wp2_with fail)
          all_goals go_meet
          all_goals exact ⟨_, _, ⟨_, _, _, _, _, _, _, _, _, _, _, _, _, _, _, HX9.out⟩, Adv.tick HA.out (now := tn) (by have := HTN.out; have := HK.out.2.2.1; have := HB.out; dsimp only at *; omega) HX9.out.duo.cw.inv⟩
        · have h3' : (what == 3) = false := by simpa using h3
          by_cases h4 : what = 4
          · have h4' : (what == 4) = true := by simpa using h4
            obtain ⟨b, h, cx, hx', bd, bo, B, Bp, Mp, vd, vo, vw, vj, ha, hd', x⟩ := HX0.out
            obtain ⟨pj, cj, hvj⟩ := owns_slice x.jr
            subst hvj
            obtain ⟨kj, hkj⟩ : ∃ kj, kj = d.jobs.length := ⟨_, rfl⟩
            have HKJ := Lib.hid hkj
            have c5 : w1.cell? ⟨g, 5, none⟩ = some (.slice pj kj cj) := by rw [hkj]; exact x.blk.cell 5
            have y1 : w1.cell? ⟨aq, 1, none⟩ = some (.int .u16 an) := HQ0.out.cell 1
            clear x h0 h12 h3 h4 y0 hkj
            by_cases hz : kj = 0
            · subst hz
              go_wp2_with fail
              go_meet
              exact ⟨_, _, HX0.out, Adv.same HA.out⟩
            · have hk0 : (0 : Int) < (kj : Int) := by omega
              have hk1 : ¬ (kj : Int) = 0 := by omega
              have hkz : ((kj : Int) == 0) = false := by simpa using hk1
              have hnn : 0 ≤ an ∧ an ≤ 65535 := HK.out.2.1
              have hem := Int.emod_nonneg an hk1
              have hel := Int.emod_lt_of_pos an hk0
              obtain ⟨i, hi⟩ : ∃ i : Nat, an % (kj : Int) = i := ⟨(an % (kj : Int)).toNat, by omega⟩
              have hil : i < d.jobs.length := by have := HKJ.out; omega
              have HIL := Lib.hid hil
              have HDO : Hid (Calls Try.prog 26 #[.pointer (some ⟨g, 0, none⟩), .int .i64 (an % (kj : Int))] w1.drew (DosP w0 g (doesW d i d.jobs[i] (ansD d.d 1 d.jobs[i].1 d.jobs[i].2.1 (did d.jobs[i].2.2))) (N + 2))) := Lib.hid (by rw [hi]; exact wdoes_any (HX0.out.below (Below.refl _ w1).drew) HA.out.inv (List.getElem?_eq_getElem hil) (by have := pot_ways d; have := pot_jobs d; have := HP.out; omega) (by have := HN.out; omega) rfl)
              clear hz hem hel hi hil
              go_upto_region 22 with fail
              go_region_with (go_at_call 26; ((with_reducible refine HDO.out.mono ?_); rintro e w9 ⟨rfl, hx9⟩; have HX9 := Lib.hid hx9; clear hx9))
              all_goals (go_wp2_with fail)
              all_goals go_meet
              all_goals exact ⟨_, _, HX9.out, Adv.mid HA.out (mid_does HA.out.inv i HIL.out).1 (by have := (mid_does HA.out.inv i HIL.out).2; omega)⟩
          · have h4' : (what == 4) = false := by simpa using h4
            by_cases h5 : what = 5
            · have h5' : (what == 5) = true := by simpa using h5
              obtain ⟨b, h, cx, hx', bd, bo, B, Bp, Mp, vd, vo, vw, vj, ha, hd', x⟩ := HX0.out
              have HCA := Lib.hid (caller_any x.ob ⟨by have := HA.out.inv.inc; omega, by have := HB.out; omega⟩)
              clear x h0 h12 h3 h4 h5 y0
              go_wp2_with (go_at_call 22; go_loud ((with_reducible refine HCA.out.mono ?_); rintro e w7 ⟨rfl, hx7⟩; have HX7 := Lib.hid hx7; clear hx7))
              go_meet
              exact ⟨_, _, HX7.out, Adv.crash HA.out (by have := HB.out; omega) HX7.out.inv⟩
            · have h5' : (what == 5) = false := by simpa using h5
              clear h0 h12 h3 h4 h5 y0
              go_wp2_with fail
              go_meet
              exact ⟨_, _, HX0.out, Adv.same HA.out⟩
  case rest =>
    obtain ⟨d', N', hx, hadv⟩ := hcut
    have HSN := Lib.hid (wsends_any hx hadv.inv (by have := pot_ways d'; have := hadv.pt; have := hadv.du; have := HP.out; have := HN.out; omega) (by have := hadv.du; omega) (by have := hadv.ov; omega))
    have HAD := Lib.hid hadv
    clear hx hadv y0 HX0 HQ0
    go_wp2_with (go_at_call 27; go_loud ((with_reducible refine HSN.out.mono ?_); rintro e w7 ⟨⟨z, rfl⟩, hx7⟩; have HX7 := Lib.hid hx7; clear hx7))
    go_end0
    exact ⟨rfl, _, _, HX7.out, HAD.out.sends⟩
end Go.Proofs.Ytgdgonmhgpflcaa
