import Derived.Test.YtgdgonmhgpflcaaRpeE
import Derived.Test.YtgdgonmhgpflcaaRpeDb

/- The walk of the document's Called.Answer. No condition but that the rows are not too long. -/
namespace Go.Proofs.Ytgdgonmhgpflcaa
open Go.RowKit Go.Maps Wire Rp
set_option linter.unusedVariables false
set_option linter.unusedSimpArgs false
theorem hF0 (a0 a1 a2 v : Value) : (#[a0, a1, a2] : Array Value).setIfInBounds 0 v = #[v, a1, a2] := rfl
theorem hF1 (a0 a1 a2 v : Value) : (#[a0, a1, a2] : Array Value).setIfInBounds 1 v = #[a0, v, a2] := rfl
theorem hF2 (a0 a1 a2 v : Value) : (#[a0, a1, a2] : Array Value).setIfInBounds 2 v = #[a0, a1, v] := rfl
theorem blk_set3 {w : World} {k : Nat} {T : TypeId} {a0 a1 a2 : Value} (h : Blk w k T #[a0, a1, a2]) (b0 b1 b2 : Value) : Blk (((w.setCell ⟨k, 0, none⟩ b0).setCell ⟨k, 1, none⟩ b1).setCell ⟨k, 2, none⟩ b2) k T #[b0, b1, b2] := by
  have h0 := h.set 0 b0
  rw [hF0] at h0
  have h1 := h0.set 1 b1
  rw [hF1] at h1
  have h2 := h1.set 2 b2
  rwa [hF2] at h2
/-- One of a row of what was heard. -/
theorem he_cells {w : World} {B n : Nat} {v : Value} {L : List He} (h : w.ownsRow B 134 3 v n (rowsHe L)) (hn : n = L.length) {j : Nat} (hj : j < L.length) : ∃ g cap, v = .slice (some ⟨g, 0, none⟩) n cap ∧ B ≤ g ∧ g < w.heap.size ∧ w.cell? ⟨g, j * 3, none⟩ = some (.int .u64 L[j].seq) ∧ w.cell? ⟨g, j * 3 + 1, none⟩ = some (.bool L[j].dn) ∧ w.cell? ⟨g, j * 3 + 2, none⟩ = some (.string L[j].body) := by
  subst hn
  obtain ⟨g, cap, ev, hb, hg, _, hz⟩ := owns_cells h (by omega)
  have key : ∀ k, k < 3 → w.cell? ⟨g, j * 3 + k, none⟩ = (hcells L[j])[k]? := fun k hk => by
    rw [hz (j * 3 + k) (by omega)]
    exact flat_at hcells 3 (fun _ => rfl) L j k hj hk
  exact ⟨g, cap, ev, hb, hg, key 0 (by decide), key 1 (by decide), key 2 (by decide)⟩
theorem he_take {w : World} {gl : Nat} {cur : Array Value} {L : List He} (hcur : ∀ j, j < L.length * 3 → cur[j]? = (rowsHe L)[j]?) (hw : Blk w gl 134 cur) (m : Nat) : ∀ j u, (rowsHe (L.take m))[j]? = some u → w.cell? ⟨gl, 0 + j, none⟩ = some u := fun j u hj => by
  have hjl : j < (L.take m).length * 3 := by
    rcases Nat.lt_or_ge j ((L.take m).length * 3) with h | h
    · exact h
    · rw [List.getElem?_eq_none (by rw [rowsHe_len]; omega)] at hj; cases hj
  have hlt : (L.take m).length ≤ L.length := by rw [List.length_take]; omega
  rw [Nat.zero_add, hw.cell j, hcur j (by omega), ← hj, rowsHe_split L m, List.getElem?_append_left (by rw [rowsHe_len]; exact hjl)]
theorem he_drop {w : World} {gl : Nat} {cur : Array Value} {L : List He} (hcur : ∀ j, j < L.length * 3 → cur[j]? = (rowsHe L)[j]?) (hw : Blk w gl 134 cur) (m : Nat) : ∀ j u, (rowsHe (L.drop m))[j]? = some u → w.cell? ⟨gl, m * 3 + j, none⟩ = some u := fun j u hj => by
  have hjl : j < (L.length - m) * 3 := by
    rcases Nat.lt_or_ge j ((L.length - m) * 3) with h | h
    · exact h
    · rw [List.getElem?_eq_none (by rw [rowsHe_len, List.length_drop]; omega)] at hj; cases hj
  rw [hw.cell _, hcur _ (by omega), ← hj, rowsHe_split L m, List.getElem?_append_right (by rw [rowsHe_len, List.length_take]; omega)]
  congr 1
  rw [rowsHe_len, List.length_take]; omega
def RDAnsP (w : World) (B0 r : Nat) (q : (ByteArray × Int) × List Pe) (e : Ending) (w' : World) : Prop := e = .returned (.tuple #[.string q.1.1, .int .i64 q.1.2]) ∧ ∃ vP' l', RD w' B0 r vP' l' ∧ peV l' = q.2 ∧ OnR B0 r w w'
def AnL1 (W : World) (xL : List He) (sq : Int) (vk u : Value) (wr : World) : Prop := ∃ (j : Nat) (kz : Int), u = .int .i64 j ∧ j ≤ xL.length ∧ vk = .int .i64 kz ∧ KInv xL sq j kz ∧ wr = W
def AnL2 (W : World) (L' : List He) (vl vd vz u : Value) (wr : World) : Prop := ∃ (j : Nat) (z : Int), u = .int .i64 j ∧ j ≤ L'.length ∧ vd = .int .i64 (cntD true (L'.take j) : Nat) ∧ vz = .int .i64 z ∧ LInv L' j z ∧ wr.ownsRow W.heap.size 134 3 vl j (rowsHe (L'.take j)) ∧ Below W.heap.size W wr
theorem AnL2.next {W : World} {L' : List He} {j : Nat} {z : Int} {vl : Value} {w6 : World} {h : He} (hj : j < L'.length) (hh : L'[j] = h) {cn : Nat} (hc : cntD true (L'.take j) = cn) (hl : LInv L' (j + 1) z) (hr : w6.ownsRow W.heap.size 134 3 vl (j + 1) (rowsHe (L'.take j) ++ hcells h)) (hb : Below W.heap.size W w6) {cn' : Nat} (hcn : cn' = cn + (if h.dn then 1 else 0)) :
    AnL2 W L' vl (.int .i64 (cn' : Nat)) (.int .i64 z) (.int .i64 ((j + 1 : Nat) : Int)) w6 := by
  refine ⟨j + 1, z, rfl, hj, ?_, rfl, hl, ?_, hb⟩
  · rw [cntT_take hj, hc, hh, hcn]
  · have e : rowsHe (L'.take (j + 1)) = rowsHe (L'.take j) ++ hcells h := by rw [List.take_succ_eq_append_getElem hj, rowsHe_app, hh]; unfold rowsHe; simp
    rw [e]; exact hr
theorem AnL2.drewn {W : World} {L' : List He} {vl vd vz u : Value} {wr : World} (h : AnL2 W L' vl vd vz u wr) : AnL2 W L' vl vd vz u wr.drew := by
  obtain ⟨j, z, h1, h2, h3, h4, h5, h6, h7⟩ := h
  exact ⟨j, z, h1, h2, h3, h4, h5, owns_below h6 (Below.refl _ wr).drew, h7.drew⟩
set_option maxRecDepth 100000 in
set_option maxHeartbeats 4000000 in
theorem rdans_any {w : World} {B0 r : Nat} {vP : Value} {l : List PeV} (c : RD w B0 r vP l) (hn : l.length ≤ 1000) (hL : ∀ x ∈ l, LB x.1.L) {fr inc sq : Int} {body : ByteArray} (hu : U64 inc ∧ U64 sq) :
    Calls Try.prog 17 #[.pointer (some ⟨r, 0, none⟩), .int .i64 fr, .int .u64 inc, .int .u64 sq, .string body] w (RDAnsP w B0 r (ansR (peV l) fr inc sq body)) := by
  have HC := Lib.hid c
  have HPL := Lib.hid (rplace_any fr w)
  have HN := Lib.hid hn
  have HU := Lib.hid hu
  have HLA : Hid (∀ x ∈ addV l fr, LB x.1.L) := Lib.hid fun x hx => by
    unfold addV at hx
    split at hx
    · exact hL x hx
    · rcases List.mem_append.1 hx with hx | hx
      · exact hL x hx
      · simp at hx; subst hx; exact LB_nil
  clear c hn hL hu
  cases hpl : placeB fr with
  | false =>
    rw [hpl] at HPL
    have HT : Hid (ansR (peV l) fr inc sq body = ((⟨#[]⟩, 2), peV l)) := Lib.hid (by unfold ansR; rw [if_pos hpl])
    clear hpl
    go_enter Try.func17, Try.ntmps17
    go_wp2_with (go_at_call 59; ((with_reducible refine HPL.out.mono ?_); rintro e w9 ⟨rfl, hw9⟩; have hw9 := hw9.symm; subst hw9))
    go_ret2
    unfold RDAnsP
    rw [HT.out]
    exact ⟨rfl, _, _, HC.out, rfl, OnR.refl _ _ _⟩
  | true =>
    rw [hpl] at HPL
    have HPL2 := Lib.hid hpl
    clear hpl
    by_cases hbig : 8192 < body.size
    · have hbig' : (8192 : Int) < (body.size : Int) := by omega
      have HT : Hid (ansR (peV l) fr inc sq body = ((⟨#[]⟩, 4), peV l)) := Lib.hid (by unfold ansR; rw [if_neg (by rw [HPL2.out]; simp), if_pos hbig])
      clear hbig
      go_enter Try.func17, Try.ntmps17
      go_wp2_with (go_at_call 59; ((with_reducible refine HPL.out.mono ?_); rintro e w9 ⟨rfl, hw9⟩; have hw9 := hw9.symm; subst hw9))
      go_ret2
      unfold RDAnsP
      rw [HT.out]
      exact ⟨rfl, _, _, HC.out, rfl, OnR.refl _ _ _⟩
    · have hbig' : ¬ (8192 : Int) < (body.size : Int) := by omega
      have HBG := Lib.hid hbig
      have HPE := Lib.hid (peer_any HC.out (by have := HN.out; omega) fr)
      clear hbig
      go_enter Try.func17, Try.ntmps17
      go_upto_region 6 with (first | (go_at_call 59; ((with_reducible refine HPL.out.mono ?_); rintro e w9 ⟨rfl, hw9⟩; have hw9 := hw9.symm; subst hw9)) | (go_at_call 60; go_loud ((with_reducible refine HPE.out.mono ?_); rintro e w2 ⟨i, vP2, rfl, hc, ho, hi, hfr⟩; have HC2 := Lib.hid hc; have HO2 := Lib.hid ho; clear hc ho)))
      have HMA := Lib.hid (map_add l fr)
      have HNL : Hid ((addV l fr).length ≤ 1001) := Lib.hid (by have := HN.out; unfold addV; split <;> simp <;> omega)
      clear HPE HC HPL
      generalize addV l fr = l1 at *
      have HLK := Lib.hid (look_at HC2.out.dis hi hfr)
      obtain ⟨g, cap, ev, hbg, hg, hgr, hfz, ⟨Ag, hAg⟩, hz⟩ := HC2.out.peer hi
      subst ev
      have hsl := HC2.out.he l1[i] (List.getElem_mem hi)
      obtain ⟨pv, cv, hv⟩ := owns_slice hsl
      have HSL := Lib.hid hsl
      have z0 : w2.cell? ⟨g, i * 4, none⟩ = some (.int .i64 fr) := by rw [← hfr]; exact hz 0 (by decide)
      have z1 : w2.cell? ⟨g, i * 4 + 1, none⟩ = some (.int .u64 l1[i].1.inc) := hz 1 (by decide)
      have z2 : w2.cell? ⟨g, i * 4 + 2, none⟩ = some (.int .u64 l1[i].1.floor) := hz 2 (by decide)
      have z3 : w2.cell? ⟨g, i * 4 + 3, none⟩ = some (.slice pv l1[i].1.L.length cv) := by rw [← hv]; exact hz 3 (by decide)
      have hil : (i : Int) < (l1.length : Int) := by omega
      have hi0 : (0 : Int) ≤ (i : Int) := by omega
      have c0 := HC2.out.c0
      have HI := Lib.hid hi
      have HGB := Lib.hid (And.intro hbg hg)
      have HLX : Hid (LB l1[i].1.L) := Lib.hid (HLA.out _ (List.getElem_mem hi))
      clear hz hsl hbg hAg hgr
      generalize hx : l1[i] = x at *
      have HXE := Lib.hid hx
      clear hx
      obtain ⟨⟨xf, xi, xl, xL⟩, xv⟩ := x
      dsimp only at hfr hv z1 z2 z3 HSL HLK HLX
      subst hfr hv
      clear hi
      go_upto_region 7 with fail
      have HQ : Hid (Blk (w2.alloc (.cells #[.int .i64 xf, .int .u64 xi, .int .u64 xl, .slice pv xL.length cv] 132)) w2.heap.size 132 #[.int .i64 xf, .int .u64 xi, .int .u64 xl, .slice pv xL.length cv]) := Lib.hid (Blk.new _ _ _)
      have HC := Lib.hid (HC2.out.alloc (.cells #[.int .i64 xf, .int .u64 xi, .int .u64 xl, .slice pv xL.length cv] 132))
      have HO := Lib.hid (HO2.out.step ((Below.refl _ w2).alloc (Nat.le_refl _) (.cells #[.int .i64 xf, .int .u64 xi, .int .u64 xl, .slice pv xL.length cv] 132)))
      have HSL3 := Lib.hid (owns_below HSL.out ((Below.refl _ w2).alloc (Nat.le_refl _) (.cells #[.int .i64 xf, .int .u64 xi, .int .u64 xl, .slice pv xL.length cv] 132)))
      clear z0 z1 z2 z3 c0 HC2 HO2 hfz HSL
      generalize w2.alloc (.cells #[.int .i64 xf, .int .u64 xi, .int .u64 xl, .slice pv xL.length cv] 132) = W at *
      generalize w2.heap.size = Q at *
      have HSL := Lib.hid HSL3.out
      clear HSL3
      have x1 : W.cell? ⟨Q, 1, none⟩ = some (.int .u64 xi) := by rw [HQ.out.cell 1]; rfl
      have x3 : W.cell? ⟨Q, 3, none⟩ = some (.slice pv xL.length cv) := by rw [HQ.out.cell 3]; rfl
      have HML : Hid (peV l1 = addP (peV l) xf) := Lib.hid HMA.out
      have HB1 : Hid (¬ placeB xf = false ∧ ¬ 8192 < body.size) := Lib.hid ⟨by rw [HPL2.out]; simp, HBG.out⟩
      have HT0 : Hid (inc = 0 → ansR (peV l) xf inc sq body = ((⟨#[]⟩, 5), peV l1)) := Lib.hid fun h => by
        unfold ansR
        rw [if_neg HB1.out.1, if_neg HB1.out.2, if_pos h, HMA.out]
      have HANS : Hid (inc ≠ 0 → ansR (peV l) xf inc sq body = ansD (peV l1) xf inc sq body) := Lib.hid fun h => by
        unfold ansR
        rw [if_neg HB1.out.1, if_neg HB1.out.2, if_neg h, HMA.out]
      have HAND : Hid (ansD (peV l1) xf inc sq body = (if xi = inc then (match lookH xL sq with
          | none => ((⟨#[]⟩, 5), peV l1)
          | some h => if h.dn then ((⟨#[]⟩, 5), peV l1) else ((pkS ⟨true, inc, sq, body⟩, 0), setPe (peV l1) (forgetP ⟨xf, xi, xl, setH xL ⟨sq, true, body⟩⟩))) else ((⟨#[]⟩, 5), peV l1) : (ByteArray × Int) × List Pe)) := Lib.hid (by
        unfold ansD
        rw [if_neg HB1.out.1, if_neg HB1.out.2, HLK.out]
        rfl)
      have HT1 : Hid (inc ≠ 0 → inc ≠ xi → ansR (peV l) xf inc sq body = ((⟨#[]⟩, 5), peV l1)) := Lib.hid fun h1 h2 => by
        rw [HANS.out h1, HAND.out, if_neg (fun e => h2 e.symm)]
      have HT2 : Hid (inc ≠ 0 → inc = xi → (∀ h, lookH xL sq = some h → h.dn = true) → ansR (peV l) xf inc sq body = ((⟨#[]⟩, 5), peV l1)) := Lib.hid fun h1 h2 h3 => by
        rw [HANS.out h1, HAND.out, if_pos h2.symm]
        cases hh : lookH xL sq with
        | none => rfl
        | some h => dsimp only; rw [if_pos (h3 h hh)]
      have HT3 : Hid (inc ≠ 0 → inc = xi → ∀ h, lookH xL sq = some h → h.dn = false → ansR (peV l) xf inc sq body = ((pkS ⟨true, inc, sq, body⟩, 0), setPe (peV l1) (forgetP ⟨xf, xi, xl, setH xL ⟨sq, true, body⟩⟩))) := Lib.hid fun h1 h2 h hh h3 => by
        rw [HANS.out h1, HAND.out, if_pos h2.symm, hh]
        dsimp only
        rw [if_neg (by rw [h3]; simp)]
      have HOK : Hid (∀ h ∈ xL, h.seq = sq → hOk ⟨sq, true, body⟩) := Lib.hid fun h hm e => by
        have := HLX.out.2.1 h hm
        have := HBG.out
        unfold hOk at *
        dsimp only
        omega
      clear HANS HAND HMA HLA
      go_upto_region 8 with fail
      go_wp2_with fail
      have yf0 := HC.out.fz
      go_loopw [14, 15] (fun vk u wr => AnL1 W xL sq vk u wr) (fun _ u _ => ((xL.length : Int) - intOf u).toNat)
      case atStart => exact ⟨0, -1, rfl, Nat.zero_le _, rfl, KInv.start _ _, rfl⟩
      case round =>
        obtain ⟨j, kz, rfl, hj, rfl, hk, hwr⟩ := hrel
        have hwr := hwr.symm
        subst hwr
        have HK := Lib.hid hk
        have HJ := Lib.hid hj
        clear hk hj
        by_cases hjl : j < xL.length
        · skip
          as_aux_lemma =>
            obtain ⟨g2, cap2, ev2, _, _, z0, z1, z2⟩ := he_cells HSL.out rfl hjl
            injection ev2 with ev2 ev3 ev4
            subst ev2 ev4
            have hjl' : (j : Int) < (xL.length : Int) := by omega
            have hj0 : (0 : Int) ≤ (j : Int) := by omega
            have HE : Hid (wrap64 ((j : Int) + 1) = ((j + 1 : Nat) : Int)) := Lib.hid (Sou.w64n rfl (by have := HLX.out.1; omega))
            have HJL := Lib.hid hjl
            have HHIT := Lib.hid (fun h => KInv.hit (sq := sq) hjl h)
            have HMIS := Lib.hid (fun h => HK.out.miss hjl h)
            generalize xL[j] = hh at *
            obtain ⟨hs, hd, hb⟩ := hh
            dsimp only at z0 z1 z2 HHIT HMIS
            clear ev3 hjl z2
            by_cases hq : hs = sq
            · have hq' : (hs == sq) = true := by simpa using hq
              cases hd with
              | true =>
                have HM := Lib.hid (HMIS.out (by simp))
                clear HHIT HMIS hq
                go_wp2_with fail
                go_roundw
                case rel => rw [HE.out]; exact ⟨j + 1, kz, rfl, HJL.out, rfl, HM.out, rfl⟩
                case measure => have := HJL.out; rw [HE.out]; simp [intOf]; omega
              | false =>
                have HM := Lib.hid (HHIT.out ⟨hq, rfl⟩)
                clear HHIT HMIS hq
                go_wp2_with fail
                go_roundw
                case rel => rw [HE.out]; exact ⟨j + 1, _, rfl, HJL.out, rfl, HM.out, rfl⟩
                case measure => have := HJL.out; rw [HE.out]; simp [intOf]; omega
            · have hq' : (hs == sq) = false := by simpa using hq
              have HM := Lib.hid (HMIS.out (by simp [hq]))
              clear HHIT HMIS hq
              go_wp2_with fail
              go_roundw
              case rel => rw [HE.out]; exact ⟨j + 1, kz, rfl, HJL.out, rfl, HM.out, rfl⟩
              case measure => have := HJL.out; rw [HE.out]; simp [intOf]; omega
        · obtain rfl : j = xL.length := by have := HJ.out; omega
          have hjl' : ¬ ((xL.length : Nat) : Int) < (xL.length : Int) := by omega
          clear hjl
          by_cases hi0 : inc = 0
          · have hi0' : (inc == 0) = true := by simpa using hi0
            have HR := Lib.hid (HT0.out hi0)
            subst hi0
            go_wp2_with fail
            go_ret2
            unfold RDAnsP
            rw [HR.out]
            exact ⟨rfl, _, _, HC.out, rfl, HO.out⟩
          · have hi0' : (inc == 0) = false := by simpa using hi0
            by_cases hix : inc = xi
            · have hix' : (inc != xi) = false := by simpa using hix
              by_cases hkz : kz < 0
              · have HR := Lib.hid (HT2.out hi0 hix (fun h hh => HK.out.none hkz hh))
                clear hix
                go_wp2_with fail
                go_ret2
                unfold RDAnsP
                rw [HR.out]
                exact ⟨rfl, _, _, HC.out, rfl, HO.out⟩
              · obtain ⟨ki, hki, ekz, hks, hkd, hkl⟩ := HK.out.some hkz HLX.out.2.2
                have HR := Lib.hid (HT3.out hi0 hix _ hkl hkd)
                have HSE := Lib.hid (setH_at (h := ⟨sq, true, body⟩) hki hks HLX.out.2.2)
                have HLB2 := Lib.hid (Rp.LB.set HLX.out (g := ⟨sq, true, body⟩) (HOK.out _ (List.getElem_mem hki) hks) hki hks)
                have HKI := Lib.hid hki
                clear hks hkd hkl HK
                subst ekz
                go_upto_region 15 with fail
                clear hkz hix'
                subst hix
                have HWS : Hid (W.heap.size = W.heap.size) := Lib.hid rfl
                obtain ⟨L', hL'⟩ : ∃ L', xL.set ki ⟨sq, true, body⟩ = L' := ⟨_, rfl⟩
                have HLL : Hid (L'.length = xL.length) := Lib.hid (by rw [← hL', List.length_set])
                have HAT : Hid (∀ j (h1 : j < xL.length) (h2 : j < L'.length), L'[j] = if ki = j then ⟨sq, true, body⟩ else xL[j]) := Lib.hid fun j h1 h2 => by subst hL'; rw [List.getElem_set]
                rw [hL'] at HLB2 HSE
                rw [HSE.out] at HR
                clear HSE hL'
                go_wp2_with fail
                go_loopw [16, 17, 18, 19] (fun vl vd vz u wr => AnL2 W L' vl vd vz u wr) (fun _ _ _ u _ => ((xL.length : Int) - intOf u).toNat)
                case atStart => exact ⟨0, -1, rfl, Nat.zero_le _, rfl, rfl, LInv.start _, World.ownsRow_nil _ _ _ _, Below.refl _ _⟩
                case round =>
                  obtain ⟨j, z, rfl, hj, rfl, rfl, hk, hrow, hbw⟩ := hrel
                  have HK := Lib.hid hk
                  have HJ : Hid (j ≤ xL.length) := Lib.hid (by rw [HLL.out] at hj; exact hj)
                  have HB := Lib.hid hbw
                  have HROW := Lib.hid hrow
                  have HQR := Lib.hid (HQ.out.below hbw)
                  have HSR := Lib.hid (owns_below HSL.out hbw)
                  have x3 : wr.cell? ⟨Q, 3, none⟩ = some (.slice pv xL.length cv) := by rw [HQR.out.cell 3]; rfl
                  obtain ⟨pl, cpl, rfl⟩ := owns_slice hrow
                  clear hk hj hbw hrow
                  by_cases hjl : j < xL.length
                  · skip
                    as_aux_lemma =>
                      obtain ⟨g2, cap2, ev2, _, _, z0, z1, z2⟩ := he_cells HSR.out rfl hjl
                      injection ev2 with ev2 ev3 ev4
                      subst ev2 ev4
                      have hjl' : (j : Int) < (xL.length : Int) := by omega
                      have hj0 : (0 : Int) ≤ (j : Int) := by omega
                      have HE : Hid (wrap64 ((j : Int) + 1) = ((j + 1 : Nat) : Int)) := Lib.hid (Sou.w64n rfl (by have := HLX.out.1; omega))
                      have HJL := Lib.hid hjl
                      have HAJ := Lib.hid (HAT.out j hjl (by rw [HLL.out]; exact hjl))
                      obtain ⟨cn, hcn⟩ : ∃ cn, cntD true (L'.take j) = cn := ⟨_, rfl⟩
                      have HE2 : Hid (wrap64 ((cn : Int) + 1) = ((cn + 1 : Nat) : Int)) := Lib.hid (Sou.w64n rfl (by have h1 := HLX.out.1; have h2 : cntD true (L'.take j) ≤ (L'.take j).length := List.countP_le_length; rw [List.length_take] at h2; omega))
                      rw [hcn]
                      have HCN := Lib.hid hcn
                      have HKL : Hid (∀ k, (Value.slice pl j cpl).ownBlock = some k → k < wr.heap.size) := Lib.hid fun k hk => by obtain ⟨A, hA, _, h⟩ := owns_type HROW.out hk; exact h
                      clear hcn ev3
                      go_upto_region 21 with fail
                      have HX : Hid (Blk (wr.alloc (.cells #[.int .u64 xL[j].seq, .bool xL[j].dn, .string xL[j].body] 134)) wr.heap.size 134 #[.int .u64 xL[j].seq, .bool xL[j].dn, .string xL[j].body]) := Lib.hid (Blk.new _ _ _)
                      have hbx := (Below.refl _ wr).alloc (Nat.le_refl _) (.cells #[.int .u64 xL[j].seq, .bool xL[j].dn, .string xL[j].body] 134)
                      have HV := Lib.hid (HB.out.trans (hbx.mono HB.out.size))
                      have HRV := Lib.hid (owns_below HROW.out hbx)
                      have HQL : Hid (W.heap.size ≤ wr.heap.size) := Lib.hid HB.out.size
                      clear hbx z0 z1 z2 x3 HROW HQR HSR HB
                      generalize wr.alloc (.cells #[.int .u64 xL[j].seq, .bool xL[j].dn, .string xL[j].body] 134) = V at *
                      generalize wr.heap.size = Q2 at *
                      by_cases hjk : ki = j
                      · have hjk := hjk.symm
                        subst hjk
                        rw [if_pos rfl] at HAJ
                        have yf := HX.out.frozen
                        have q0 : V.cell? ⟨Q2, 0, none⟩ = some (.int .u64 xL[j].seq) := by rw [HX.out.cell 0]; rfl
                        have q1 : V.cell? ⟨Q2, 1, none⟩ = some (.bool xL[j].dn) := by rw [HX.out.cell 1]; rfl
                        have q2 : V.cell? ⟨Q2, 2, none⟩ = some (.string xL[j].body) := by rw [HX.out.cell 2]; rfl
                        go_upto_region 23 with fail
                        have HX2 := Lib.hid (blk_set3 HX.out (.int .u64 sq) (.bool true) (.string body))
                        have HO2 : Hid (Only (· = Q2) V (((V.setCell ⟨Q2, 0, none⟩ (.int .u64 sq)).setCell ⟨Q2, 1, none⟩ (.bool true)).setCell ⟨Q2, 2, none⟩ (.string body))) := Lib.hid (((Only.refl _ V).set1).set1).set1
                        have HV2 := Lib.hid (HV.out.trans (HO2.out.below HV.out.size (fun k hk => by have e : k = Q2 := hk; have := HQL.out; omega)))
                        have HRV2 := Lib.hid (owns_only HRV.out HO2.out (fun k hk e => by have := HKL.out k hk; have e' : k = Q2 := e; omega))
                        clear yf q0 q1 q2 HX HV HRV HO2
                        generalize ((V.setCell ⟨Q2, 0, none⟩ (.int .u64 sq)).setCell ⟨Q2, 1, none⟩ (.bool true)).setCell ⟨Q2, 2, none⟩ (.string body) = V2 at *
                        have q0 : V2.cell? ⟨Q2, 0, none⟩ = some (.int .u64 sq) := by rw [HX2.out.cell 0]; rfl
                        have q1 : V2.cell? ⟨Q2, 1, none⟩ = some (.bool true) := by rw [HX2.out.cell 1]; rfl
                        have q2 : V2.cell? ⟨Q2, 2, none⟩ = some (.string body) := by rw [HX2.out.cell 2]; rfl
                        go_upto_region 24 with (at_builtin; refine wpl_append_row2 (ys := hcells ⟨sq, true, body⟩) rfl rfl rfl rfl Try.underlying130 info_heard rfl rfl rfl (by decide) (by decide) HRV2.out (by have := HLX.out.1; have := HJL.out; omega) HV2.out.size (by first | rfl | simp) ?_; intro v6 w6 h6 o6; obtain ⟨p6, c6, rfl⟩ := owns_slice h6; have HR6 := Lib.hid h6; have HB6 := Lib.hid (HV2.out.trans (o6.below HV2.out.size (fun k hk => (owns_type HRV2.out hk).choose_spec.2.1))); have HX6 := Lib.hid (HX2.out.only o6 (fun e => by have := HKL.out _ e; omega)); clear h6 o6)
                        clear q0 q1 q2
                        have q0 : w6.cell? ⟨Q2, 0, none⟩ = some (.int .u64 sq) := by rw [HX6.out.cell 0]; rfl
                        have q1 : w6.cell? ⟨Q2, 1, none⟩ = some (.bool true) := by rw [HX6.out.cell 1]; rfl
                        clear HX2 HV2 HRV2 HKL
                        by_cases hz : z < 0
                        · have HK2 := Lib.hid (HK.out.first hz (by rw [HLL.out]; exact HJL.out) (by rw [HAJ.out]))
                          have HN2 := Lib.hid (AnL2.next (by rw [HLL.out]; exact HJL.out) HAJ.out HCN.out HK2.out HR6.out HB6.out (cn' := cn + 1) (by simp))
                          have hz' : decide (z < 0) = true := decide_eq_true hz
                          go_upto_region 26 with fail
                          refine Reg.wp_text (by kernel_rfl) (by kernel_rfl) ?_
                          go_wp2_with fail
                          refine Reg.fin (by kernel_rfl) ?_
                          go_wp2_with fail
                          go_roundw
                          case rel => rw [HE.out, HE2.out]; exact HN2.out.drewn
                          case measure => have := HJL.out; rw [HE.out]; simp [intOf]; omega
                        · obtain ⟨m, hm, hmj, rfl⟩ := HK.out.lt hz
                          obtain ⟨g6, cap6, ev6, _, _, m0, _, _⟩ := he_cells (L := L'.take (j + 1)) (show w6.ownsRow W.heap.size 134 3 (.slice p6 (j + 1) c6) (j + 1) (rowsHe (L'.take (j + 1))) by
                            have h := HR6.out
                            have e : rowsHe (L'.take (j + 1)) = rowsHe (L'.take j) ++ hcells ⟨sq, true, body⟩ := by rw [List.take_succ_eq_append_getElem (by rw [HLL.out]; exact HJL.out), rowsHe_app, HAJ.out]; unfold rowsHe; simp
                            rw [e]; exact h) (by rw [List.length_take, HLL.out]; have := HJL.out; omega) (j := m) (by rw [List.length_take, HLL.out]; have := HJL.out; omega)
                          injection ev6 with ev6 ev7 ev8
                          subst ev6 ev8
                          rw [List.getElem_take] at m0
                          have HLS := Lib.hid (fun h => HK.out.less hm (by rw [HLL.out]; exact HJL.out) (by rw [HAJ.out]) h)
                          have HMO := Lib.hid (fun h => HK.out.more hm (by rw [HLL.out]; exact HJL.out) h)
                          rw [HAJ.out] at HLS HMO
                          generalize L'[m].seq = ms at *
                          have hmj' : (m : Int) < ((j + 1 : Nat) : Int) := by omega
                          have hm0 : (0 : Int) ≤ (m : Int) := by omega
                          have hz' : decide ((m : Int) < 0) = false := decide_eq_false hz
                          dsimp only at HLS HMO
                          clear hz
                          by_cases hls : sq < ms
                          · have HN2 := Lib.hid (AnL2.next (by rw [HLL.out]; exact HJL.out) HAJ.out HCN.out (HLS.out hls) HR6.out HB6.out (cn' := cn + 1) (by simp))
                            have hls' : decide (sq < ms) = true := by simpa using hls
                            go_upto_region 26 with fail
                            refine Reg.wp_text (by kernel_rfl) (by kernel_rfl) ?_
                            go_wp2_with fail
                            refine Reg.fin (by kernel_rfl) ?_
                            go_wp2_with fail
                            go_roundw
                            case rel => rw [HE.out, HE2.out]; exact HN2.out.drewn
                            case measure => have := HJL.out; rw [HE.out]; simp [intOf]; omega
                          · have HN2 := Lib.hid (AnL2.next (by rw [HLL.out]; exact HJL.out) HAJ.out HCN.out (HMO.out hls) HR6.out HB6.out (cn' := cn + 1) (by simp))
                            have hls' : decide (sq < ms) = false := by simpa using hls
                            go_upto_region 26 with fail
                            refine Reg.wp_text (by kernel_rfl) (by kernel_rfl) ?_
                            go_wp2_with fail
                            refine Reg.fin (by kernel_rfl) ?_
                            go_wp2_with fail
                            go_roundw
                            case rel => rw [HE.out, HE2.out]; exact HN2.out.drewn
                            case measure => have := HJL.out; rw [HE.out]; simp [intOf]; omega
                      · rw [if_neg hjk] at HAJ
                        have hjk' : ((j : Int) == (ki : Int)) = false := by simpa using fun e => hjk (by omega)
                        generalize xL[j] = hh at *
                        obtain ⟨hs, hd, hb⟩ := hh
                        dsimp only at HX
                        go_upto_region 23 with fail
                        have q0 : V.cell? ⟨Q2, 0, none⟩ = some (.int .u64 hs) := by rw [HX.out.cell 0]; rfl
                        have q1 : V.cell? ⟨Q2, 1, none⟩ = some (.bool hd) := by rw [HX.out.cell 1]; rfl
                        have q2 : V.cell? ⟨Q2, 2, none⟩ = some (.string hb) := by rw [HX.out.cell 2]; rfl
                        go_upto_region 24 with (at_builtin; refine wpl_append_row2 (ys := hcells ⟨hs, hd, hb⟩) rfl rfl rfl rfl Try.underlying130 info_heard rfl rfl rfl (by decide) (by decide) HRV.out (by have := HLX.out.1; have := HJL.out; omega) HV.out.size (by first | rfl | simp) ?_; intro v6 w6 h6 o6; obtain ⟨p6, c6, rfl⟩ := owns_slice h6; have HR6 := Lib.hid h6; have HB6 := Lib.hid (HV.out.trans (o6.below HV.out.size (fun k hk => (owns_type HRV.out hk).choose_spec.2.1))); have HX6 := Lib.hid (HX.out.only o6 (fun e => by have := HKL.out _ e; omega)); clear h6 o6)
                        clear q0 q1 q2
                        have q0 : w6.cell? ⟨Q2, 0, none⟩ = some (.int .u64 hs) := by rw [HX6.out.cell 0]; rfl
                        have q1 : w6.cell? ⟨Q2, 1, none⟩ = some (.bool hd) := by rw [HX6.out.cell 1]; rfl
                        clear HX HV HRV HKL
                        cases hd with
                        | false =>
                          have HK2 := Lib.hid (HK.out.skip (by rw [HLL.out]; exact HJL.out) (by rw [HAJ.out]))
                          have HN2 := Lib.hid (AnL2.next (by rw [HLL.out]; exact HJL.out) HAJ.out HCN.out HK2.out HR6.out HB6.out (cn' := cn) (by simp))
                          go_wp2_with fail
                          go_roundw
                          case rel => rw [HE.out]; exact HN2.out
                          case measure => have := HJL.out; rw [HE.out]; simp [intOf]; omega
                        | true =>
                          skip
                          by_cases hz : z < 0
                          · have HK2 := Lib.hid (HK.out.first hz (by rw [HLL.out]; exact HJL.out) (by rw [HAJ.out]))
                            have HN2 := Lib.hid (AnL2.next (by rw [HLL.out]; exact HJL.out) HAJ.out HCN.out HK2.out HR6.out HB6.out (cn' := cn + 1) (by simp))
                            have hz' : decide (z < 0) = true := decide_eq_true hz
                            go_upto_region 26 with fail
                            refine Reg.wp_text (by kernel_rfl) (by kernel_rfl) ?_
                            go_wp2_with fail
                            refine Reg.fin (by kernel_rfl) ?_
                            go_wp2_with fail
                            go_roundw
                            case rel => rw [HE.out, HE2.out]; exact HN2.out.drewn
                            case measure => have := HJL.out; rw [HE.out]; simp [intOf]; omega
                          · obtain ⟨m, hm, hmj, rfl⟩ := HK.out.lt hz
                            obtain ⟨g6, cap6, ev6, _, _, m0, _, _⟩ := he_cells (L := L'.take (j + 1)) (show w6.ownsRow W.heap.size 134 3 (.slice p6 (j + 1) c6) (j + 1) (rowsHe (L'.take (j + 1))) by
                              have h := HR6.out
                              have e : rowsHe (L'.take (j + 1)) = rowsHe (L'.take j) ++ hcells ⟨hs, true, hb⟩ := by rw [List.take_succ_eq_append_getElem (by rw [HLL.out]; exact HJL.out), rowsHe_app, HAJ.out]; unfold rowsHe; simp
                              rw [e]; exact h) (by rw [List.length_take, HLL.out]; have := HJL.out; omega) (j := m) (by rw [List.length_take, HLL.out]; have := HJL.out; omega)
                            injection ev6 with ev6 ev7 ev8
                            subst ev6 ev8
                            rw [List.getElem_take] at m0
                            have HLS := Lib.hid (fun h => HK.out.less hm (by rw [HLL.out]; exact HJL.out) (by rw [HAJ.out]) h)
                            have HMO := Lib.hid (fun h => HK.out.more hm (by rw [HLL.out]; exact HJL.out) h)
                            rw [HAJ.out] at HLS HMO
                            generalize L'[m].seq = ms at *
                            have hmj' : (m : Int) < ((j + 1 : Nat) : Int) := by omega
                            have hm0 : (0 : Int) ≤ (m : Int) := by omega
                            have hz' : decide ((m : Int) < 0) = false := decide_eq_false hz
                            dsimp only at HLS HMO
                            clear hz
                            by_cases hls : hs < ms
                            · have HN2 := Lib.hid (AnL2.next (by rw [HLL.out]; exact HJL.out) HAJ.out HCN.out (HLS.out hls) HR6.out HB6.out (cn' := cn + 1) (by simp))
                              have hls' : decide (hs < ms) = true := by simpa using hls
                              go_upto_region 26 with fail
                              refine Reg.wp_text (by kernel_rfl) (by kernel_rfl) ?_
                              go_wp2_with fail
                              refine Reg.fin (by kernel_rfl) ?_
                              go_wp2_with fail
                              go_roundw
                              case rel => rw [HE.out, HE2.out]; exact HN2.out.drewn
                              case measure => have := HJL.out; rw [HE.out]; simp [intOf]; omega
                            · have HN2 := Lib.hid (AnL2.next (by rw [HLL.out]; exact HJL.out) HAJ.out HCN.out (HMO.out hls) HR6.out HB6.out (cn' := cn + 1) (by simp))
                              have hls' : decide (hs < ms) = false := by simpa using hls
                              go_upto_region 26 with fail
                              refine Reg.wp_text (by kernel_rfl) (by kernel_rfl) ?_
                              go_wp2_with fail
                              refine Reg.fin (by kernel_rfl) ?_
                              go_wp2_with fail
                              go_roundw
                              case rel => rw [HE.out, HE2.out]; exact HN2.out.drewn
                              case measure => have := HJL.out; rw [HE.out]; simp [intOf]; omega
                  · obtain rfl : j = xL.length := by have := HJ.out; omega
                    have hjl' : ¬ ((xL.length : Nat) : Int) < (xL.length : Int) := by omega
                    clear hjl
                    have ELT : L'.take xL.length = L' := by rw [← HLL.out, List.take_length]
                    rw [ELT]
                    have HROW2 : Hid (wr.ownsRow W.heap.size 134 3 (.slice pl xL.length cpl) L'.length (rowsHe L')) := Lib.hid (by have h := HROW.out; rw [ELT] at h; rw [HLL.out]; exact h)
                    have HK2 : Hid (LInv L' L'.length z) := Lib.hid (by rw [HLL.out]; exact HK.out)
                    have HCR := Lib.hid (HC.out.below HB.out)
                    have HOR := Lib.hid (HO.out.step HB.out)
                    have HBW : Hid (∀ x ∈ l1, ∀ k, x.2.ownBlock = some k → k < W.heap.size) := Lib.hid fun x hx k hk => by obtain ⟨A, hA, _, h⟩ := owns_type (HC.out.he x hx) hk; exact h
                    have HBY := Lib.hid (fun W' => rbytes_any ⟨true, inc, sq, body⟩ HU.out.1 HU.out.2 (by have := HBG.out; dsimp only; omega) W')
                    unfold Rp.pv Rp.pcells at HBY
                    dsimp only at HBY
                    have HSZ : Hid (B0 ≤ W.heap.size ∧ W.heap.size ≤ wr.heap.size) := Lib.hid ⟨by have := HC.out.ge; have := HC.out.blk.lt; omega, HB.out.size⟩
                    clear ELT HROW HSR
                    by_cases hc : cntD true L' ≤ 64
                    · have HFG : Hid (forgetP ⟨xf, inc, xl, L'⟩ = ⟨xf, inc, xl, L'⟩) := Lib.hid (forget_not hc)
                      have hc' : ¬ (64 : Int) < ((cntD true L' : Nat) : Int) := by omega
                      have HB0 : Hid (B0 ≤ W.heap.size) := Lib.hid HSZ.out.1
                      clear hc HK2 HK
                      generalize cntD true L' = cn at *
                      go_upto_region 33 with fail
                      have d3 : wr.cell? ⟨Q, 3, none⟩ = some (.slice pv xL.length cv) := by rw [HQR.out.cell 3]; rfl
                      have f3 := HQR.out.frozen 3
                      go_upto_region 34 with fail
                      have HQS : Hid (Only (· = Q) wr (wr.setCell ⟨Q, 3, none⟩ (.slice pl xL.length cpl))) := Lib.hid (Only.refl _ wr).set1
                      have HQ7 : Hid (Blk (wr.setCell ⟨Q, 3, none⟩ (.slice pl xL.length cpl)) Q 132 #[.int .i64 xf, .int .u64 inc, .int .u64 xl, .slice pl xL.length cpl]) := Lib.hid (by have := HQR.out.set 3 (.slice pl xL.length cpl); rw [pF3] at this; exact this)
                      have HC7 := Lib.hid (HCR.out.setq HQR.out (fun k hk => by injection hk with hk; have e : g = k := hk; have := HGB.out.2; omega) (by have := HGB.out; omega) HQS.out)
                      have HR7 := Lib.hid (owns_only HROW2.out HQS.out (fun k hk e => by obtain ⟨A', hA, _⟩ := owns_type HROW2.out hk; have e' : k = Q := e; subst e'; exact absurd (blk_ne hA HQR.out) (by decide)))
                      have HO7 := Lib.hid (HOR.out.trans HC7.out.2)
                      clear d3 f3
                      generalize wr.setCell ⟨Q, 3, none⟩ (.slice pl xL.length cpl) = W7 at *
                      have x0 : W7.cell? ⟨Q, 0, none⟩ = some (.int .i64 xf) := by rw [HQ7.out.cell 0]; rfl
                      have x1 : W7.cell? ⟨Q, 1, none⟩ = some (.int .u64 inc) := by rw [HQ7.out.cell 1]; rfl
                      have x2 : W7.cell? ⟨Q, 2, none⟩ = some (.int .u64 xl) := by rw [HQ7.out.cell 2]; rfl
                      have x3 : W7.cell? ⟨Q, 3, none⟩ = some (.slice pl xL.length cpl) := by rw [HQ7.out.cell 3]; rfl
                      have c0 := HC7.out.1.c0
                      obtain ⟨g', cap', ev, _, _, _, hgf, _, hz⟩ := HC7.out.1.peer HI.out
                      injection ev with e1
                      injection e1 with e1
                      injection e1 with e1
                      subst e1
                      have hz2 : ∀ k, k < 4 → W7.cell? ⟨g, i * 4 + k, none⟩ = (prow (⟨xf, inc, xl, xL⟩, .slice pv xL.length cv))[k]? := fun k hk => by
                        rw [hz k hk]
                        exact congrArg (fun z : PeV => (prow z)[k]?) HXE.out
                      have z0 : W7.cell? ⟨g, i * 4, none⟩ = some (.int .i64 xf) := hz2 0 (by decide)
                      have z1 : W7.cell? ⟨g, i * 4 + 1, none⟩ = some (.int .u64 inc) := hz2 1 (by decide)
                      have z2 : W7.cell? ⟨g, i * 4 + 2, none⟩ = some (.int .u64 xl) := hz2 2 (by decide)
                      have z3 : W7.cell? ⟨g, i * 4 + 3, none⟩ = some (.slice pv xL.length cv) := hz2 3 (by decide)
                      have hst := HC7.out.1.store HI.out (⟨xf, inc, xl, L'⟩, .slice pl xL.length cpl) (owns_ge HR7.out HB0.out) (congrArg (fun z : PeV => z.1.fr) HXE.out).symm (fun x hx _ k hk e => by
                        have h1 := HBW.out x hx k hk
                        obtain ⟨A', hA, h2, _⟩ := owns_type HR7.out e
                        omega)
                      have HST := Lib.hid hst
                      have HSV : Hid (peV (l1.set i (⟨xf, inc, xl, L'⟩, .slice pl xL.length cpl)) = setPe (peV l1) ⟨xf, inc, xl, L'⟩) := Lib.hid (set_at (y := (⟨xf, inc, xl, L'⟩, .slice pl xL.length cpl)) HC.out.dis HI.out (congrArg (fun z : PeV => z.1.fr) HXE.out).symm)
                      have HFO : Hid (OnR B0 r w _) := Lib.hid (HO7.out.trans hst.2)
                      clear hst hz hz2
                      dsimp only at HST HFO
                      go_region
                      clear x0 x1 x2 x3 z0 z1 z2 z3 c0
                      generalize (((W7.setCell ⟨g, i * 4, none⟩ (.int .i64 xf)).setCell ⟨g, i * 4 + 1, none⟩ (.int .u64 inc)).setCell ⟨g, i * 4 + 2, none⟩ (.int .u64 xl)).setCell ⟨g, i * 4 + 3, none⟩ (.slice pl xL.length cpl) = W8 at *
                      go_wp2_with (go_at_call 14; go_loud ((with_reducible refine (HBY.out _).mono ?_); rintro e w9 ⟨rfl, hb9⟩; have HB9 := Lib.hid hb9; clear hb9))
                      go_ret2
                      unfold RDAnsP
                      rw [HR.out, HFG.out]
                      exact ⟨rfl, _, _, HST.out.1.drew.below HB9.out, HSV.out, (HFO.out.step (Below.refl _ _).drew).step HB9.out⟩
                    · obtain ⟨m, hm, rfl, hfg⟩ := forget_at (p := ⟨xf, inc, xl, L'⟩) HLB2.out.2.2 HLB2.out.2.1 HK2.out hc
                      have HFG := Lib.hid hfg
                      have hc' : (64 : Int) < ((cntD true L' : Nat) : Int) := by omega
                      have HHC := Lib.hid hc
                      clear hc HK2 HK hfg
                      dsimp only at hm HFG
                      generalize cntD true L' = cn at *
                      obtain ⟨gl, capl, cur, ev, hbg2, hblk, hcur⟩ := owns_blk HROW2.out (by omega)
                      have HM : Hid (m < xL.length) := Lib.hid (by rw [← HLL.out]; exact hm)
                      have hcap : xL.length ≤ capl := by
                        have h := HROW2.out
                        rw [ev] at h
                        obtain ⟨hl, ⟨h1, h2⟩ | ⟨g', cap', cur', h1, hb, hg', h3, h4, h5, h6⟩⟩ := h
                        · omega
                        · injection h1 with _ _ h1
                          rw [← HLL.out]; omega
                      injection ev with e1 e2 e3
                      subst e1 e3
                      have HCU := Lib.hid hcur
                      have HGL := Lib.hid hblk
                      have m0 : wr.cell? ⟨gl, m * 3, none⟩ = some (.int .u64 L'[m].seq) := by rw [hblk.cell _, hcur _ (by omega)]; exact flat_at hcells 3 (fun _ => rfl) L' m 0 hm (by decide)
                      have HLB3 : Hid (rowsHe (L'.take m) ++ rowsHe (L'.drop (m + 1)) = rowsHe (L'.eraseIdx m) ∧ m + (xL.length - (m + 1)) = (L'.eraseIdx m).length) := Lib.hid ⟨by rw [List.eraseIdx_eq_take_drop_succ, rowsHe_app], by rw [List.length_eraseIdx_of_lt hm, HLL.out]; have := HM.out; omega⟩
                      obtain ⟨ms, hms⟩ : ∃ ms, L'[m].seq = ms := ⟨_, rfl⟩
                      rw [hms] at m0 HFG
                      have x2 : wr.cell? ⟨Q, 2, none⟩ = some (.int .u64 xl) := by rw [HQR.out.cell 2]; rfl
                      have yq := HQR.out.frozen
                      have hmj' : (m : Int) < (xL.length : Int) := by have := HM.out; omega
                      have hm0 : (0 : Int) ≤ (m : Int) := by omega
                      have hglq : gl ≠ Q := fun e => absurd (blk_ne (e ▸ hblk) HQR.out) (by decide)
                      have HHM := Lib.hid hm
                      clear e2 hblk hcur hms hm
                      go_upto_region 29 with fail
                      have HQ3 : Hid (Blk (wr.setCell ⟨Q, 2, none⟩ (.int .u64 (max xl ms))).drew Q 132 #[.int .i64 xf, .int .u64 inc, .int .u64 (max xl ms), .slice pv xL.length cv]) := Lib.hid (by have := HQR.out.set 2 (.int .u64 (max xl ms)); rw [pF2] at this; exact this.drew)
                      have HG3 : Hid (Blk (wr.setCell ⟨Q, 2, none⟩ (.int .u64 (max xl ms))).drew gl 134 cur) := Lib.hid (HGL.out.set_ne (p := ⟨Q, 2, none⟩) _ hglq).drew
                      have HQS3 : Hid (Only (· = Q) wr (wr.setCell ⟨Q, 2, none⟩ (.int .u64 (max xl ms))).drew) := Lib.hid (Only.refl _ wr).set1.drew
                      have HC3 := Lib.hid (HCR.out.setq HQR.out (fun k hk => by injection hk with hk; have e : g = k := hk; have := HGB.out.2; omega) (by have := HGB.out; omega) HQS3.out)
                      have HO3 := Lib.hid (HOR.out.trans HC3.out.2)
                      have HSZ3 : Hid (W.heap.size ≤ (wr.setCell ⟨Q, 2, none⟩ (.int .u64 (max xl ms))).drew.heap.size) := Lib.hid (Nat.le_trans HSZ.out.2 HQS3.out.size)
                      go_region
                      clear x2 yq m0 x3 HQR HCR HOR HGL HROW2 HB
                      generalize (wr.setCell ⟨Q, 2, none⟩ (.int .u64 (max xl ms))).drew = V3 at *
                      generalize max xl ms = fl at *
                      have HIL := Lib.hid hil
                      have HI0 := Lib.hid hi0
                      clear hil hi0 hc' hmj' hbig'
                      have HNIL := Lib.hid (World.ownsRow_nil V3 V3.heap.size 134 3)
                      have HTL : Hid ((rowsHe (L'.take m)).length = m * 3) := Lib.hid (by rw [rowsHe_len, List.length_take]; have := HHM.out; omega)
                      have HTM : Hid (0 + m < 2147483648) := Lib.hid (by have := HLX.out.1; have := HM.out; omega)
                      have HROW := Lib.hid (show (rowsHe (L'.drop (m + 1))).length = (xL.length - (m + 1)) * 3 by rw [rowsHe_len, List.length_drop, HLL.out])
                      have HH : Hid (m + (xL.length - (m + 1)) < 2147483648) := Lib.hid (by have := HLX.out.1; have := HM.out; omega)
                      have HBW3 : Hid (∀ x ∈ l1, ∀ k, x.2.ownBlock = some k → k < V3.heap.size) := Lib.hid fun x hx k hk => by have := HBW.out x hx k hk; have := HSZ3.out; omega
                      have HB3 : Hid (B0 ≤ V3.heap.size) := Lib.hid (by have := HSZ.out.1; have := HSZ3.out; omega)
                      have HC4A : Hid (cpl = m + 1 → ∀ (w5 : World) j u, (rowsHe (L'.drop (m + 1)))[j]? = some u → w5.cell? ⟨gl, 0 + j, none⟩ = some u) := Lib.hid fun h w5 j u hj => by
                        rw [List.getElem?_eq_none (by rw [HROW.out]; omega)] at hj; cases hj
                      have k1 : (m : Int) ≤ (cpl : Int) := Int.ofNat_le.2 (Nat.le_trans (Nat.le_of_lt HM.out) hcap)
                      have k3 : wrap64 ((m : Int) + 1) = ((m + 1 : Nat) : Int) := Sou.w64n rfl (by have := HLX.out.1; have := HM.out; omega)
                      have k4 : (((m + 1 : Nat)) : Int) ≤ (xL.length : Int) := Int.ofNat_le.2 HM.out
                      go_upto_region 32 with (at_builtin; refine wpl_append_cells (off := 0) (ys := rowsHe (L'.take m)) rfl rfl rfl rfl Try.underlying130 info_heard rfl (by decide) (by decide) HNIL.out HTL.out (he_take HCU.out HG3.out m) (rowsHe_one _) HTM.out (Nat.le_refl _) ?_; intro v5 w5 h5 o5)
                      have B5 : Below V3.heap.size V3 w5 := o5.below (Nat.le_refl _) (fun k hk => absurd (show (Value.slice none 0 0).ownBlock = some k from hk) (by simp [Value.ownBlock]))
                      rw [Nat.zero_add, List.nil_append] at h5
                      have HB5 := Lib.hid B5
                      have H5 := Lib.hid h5
                      have HG5 := Lib.hid (HG3.out.below B5)
                      clear o5 h5 B5 HNIL
                      obtain ⟨p5, q5, rfl⟩ := owns_slice H5.out
                      have HFIN : Hid (∀ v6 w6, w6.ownsRow V3.heap.size 134 3 v6 (m + (xL.length - (m + 1))) (rowsHe (L'.take m) ++ rowsHe (L'.drop (m + 1))) → Only (fun k => (Value.slice p5 m q5).ownBlock = some k) w5 w6 → Below V3.heap.size V3 w6 ∧ w6.ownsRow V3.heap.size 134 3 v6 (L'.eraseIdx m).length (rowsHe (L'.eraseIdx m))) := Lib.hid fun v6 w6 h6 o6 => by
                        have hS : ∀ k, (Value.slice p5 m q5).ownBlock = some k → V3.heap.size ≤ k := fun k hk => (owns_type H5.out hk).choose_spec.2.1
                        rw [HLB3.out.1, HLB3.out.2] at h6
                        exact ⟨HB5.out.trans (o6.below HB5.out.size hS), h6⟩
                      by_cases hcc : cpl = m + 1
                      · have HC4 := Lib.hid (HC4A.out hcc w5)
                        clear hcap HG5 HCU hg hki hbg2 hjl' hi0'
                        subst hcc
                        go_upto_region 33 with (at_builtin; refine wpl_append_cells (off := 0) (ys := rowsHe (L'.drop (m + 1))) rfl rfl rfl rfl Try.underlying130 info_heard rfl (by decide) (by decide) H5.out HROW.out HC4.out (rowsHe_one _) HH.out HB5.out.size ?_; intro v6 w6 h6 o6; obtain ⟨p6, c6, rfl⟩ := owns_slice h6; have HF := Lib.hid (HFIN.out _ w6 h6 o6); clear h6 o6)
                        have HC6 := Lib.hid (HC3.out.1.below HF.out.1)
                        have HO6 := Lib.hid (HO3.out.step HF.out.1)
                        have HQ6 := Lib.hid (HQ3.out.below HF.out.1)
                        have HR6 := Lib.hid HF.out.2
                        have hil := HIL.out
                        have hi0 := HI0.out
                        clear HC3 HO3 HQ3 HF HFIN H5 HB5 k1 k3 k4 hm0
                        have d3 : w6.cell? ⟨Q, 3, none⟩ = some (.slice pv xL.length cv) := by rw [HQ6.out.cell 3]; rfl
                        have f3 := HQ6.out.frozen 3
                        go_upto_region 34 with fail
                        have HQS : Hid (Only (· = Q) w6 (w6.setCell ⟨Q, 3, none⟩ (.slice p6 (m + (xL.length - (m + 1))) c6))) := Lib.hid (Only.refl _ w6).set1
                        have HQ7 : Hid (Blk (w6.setCell ⟨Q, 3, none⟩ (.slice p6 (m + (xL.length - (m + 1))) c6)) Q 132 #[.int .i64 xf, .int .u64 inc, .int .u64 fl, .slice p6 (m + (xL.length - (m + 1))) c6]) := Lib.hid (by have := HQ6.out.set 3 (.slice p6 (m + (xL.length - (m + 1))) c6); rw [pF3] at this; exact this)
                        have HC7 := Lib.hid (HC6.out.setq HQ6.out (fun k hk => by injection hk with hk; have e : g = k := hk; have := HGB.out.2; omega) (by have := HGB.out; omega) HQS.out)
                        have HR7 := Lib.hid (owns_only HR6.out HQS.out (fun k hk e => by obtain ⟨A', hA, _⟩ := owns_type HR6.out hk; have e' : k = Q := e; subst e'; exact absurd (blk_ne hA HQ6.out) (by decide)))
                        have HO7 := Lib.hid (HO6.out.trans HC7.out.2)
                        clear d3 f3
                        generalize w6.setCell ⟨Q, 3, none⟩ (.slice p6 (m + (xL.length - (m + 1))) c6) = W7 at *
                        have x0 : W7.cell? ⟨Q, 0, none⟩ = some (.int .i64 xf) := by rw [HQ7.out.cell 0]; rfl
                        have x1 : W7.cell? ⟨Q, 1, none⟩ = some (.int .u64 inc) := by rw [HQ7.out.cell 1]; rfl
                        have x2 : W7.cell? ⟨Q, 2, none⟩ = some (.int .u64 fl) := by rw [HQ7.out.cell 2]; rfl
                        have x3 : W7.cell? ⟨Q, 3, none⟩ = some (.slice p6 (m + (xL.length - (m + 1))) c6) := by rw [HQ7.out.cell 3]; rfl
                        have c0 := HC7.out.1.c0
                        obtain ⟨g', cap', ev, _, _, _, hgf, _, hz⟩ := HC7.out.1.peer HI.out
                        injection ev with e1
                        injection e1 with e1
                        injection e1 with e1
                        subst e1
                        have hz2 : ∀ k, k < 4 → W7.cell? ⟨g, i * 4 + k, none⟩ = (prow (⟨xf, inc, xl, xL⟩, .slice pv xL.length cv))[k]? := fun k hk => by
                          rw [hz k hk]
                          exact congrArg (fun z : PeV => (prow z)[k]?) HXE.out
                        have z0 : W7.cell? ⟨g, i * 4, none⟩ = some (.int .i64 xf) := hz2 0 (by decide)
                        have z1 : W7.cell? ⟨g, i * 4 + 1, none⟩ = some (.int .u64 inc) := hz2 1 (by decide)
                        have z2 : W7.cell? ⟨g, i * 4 + 2, none⟩ = some (.int .u64 xl) := hz2 2 (by decide)
                        have z3 : W7.cell? ⟨g, i * 4 + 3, none⟩ = some (.slice pv xL.length cv) := hz2 3 (by decide)
                        have hst := HC7.out.1.store HI.out (⟨xf, inc, fl, (L'.eraseIdx m)⟩, .slice p6 (m + (xL.length - (m + 1))) c6) (owns_ge HR7.out HB3.out) (congrArg (fun z : PeV => z.1.fr) HXE.out).symm (fun x hx _ k hk e => by
                          have h1 := HBW3.out x hx k hk
                          obtain ⟨A', hA, h2, _⟩ := owns_type HR7.out e
                          omega)
                        have HST := Lib.hid hst
                        have HSV : Hid (peV (l1.set i (⟨xf, inc, fl, (L'.eraseIdx m)⟩, .slice p6 (m + (xL.length - (m + 1))) c6)) = setPe (peV l1) ⟨xf, inc, fl, (L'.eraseIdx m)⟩) := Lib.hid (set_at (y := (⟨xf, inc, fl, (L'.eraseIdx m)⟩, .slice p6 (m + (xL.length - (m + 1))) c6)) HC.out.dis HI.out (congrArg (fun z : PeV => z.1.fr) HXE.out).symm)
                        have HFO : Hid (OnR B0 r w _) := Lib.hid (HO7.out.trans hst.2)
                        clear hst hz hz2
                        dsimp only at HST HFO
                        go_region
                        clear x0 x1 x2 x3 z0 z1 z2 z3 c0
                        generalize (((W7.setCell ⟨g, i * 4, none⟩ (.int .i64 xf)).setCell ⟨g, i * 4 + 1, none⟩ (.int .u64 inc)).setCell ⟨g, i * 4 + 2, none⟩ (.int .u64 fl)).setCell ⟨g, i * 4 + 3, none⟩ (.slice p6 (m + (xL.length - (m + 1))) c6) = W8 at *
                        go_wp2_with (go_at_call 14; go_loud ((with_reducible refine (HBY.out _).mono ?_); rintro e w9 ⟨rfl, hb9⟩; have HB9 := Lib.hid hb9; clear hb9))
                        go_ret2
                        unfold RDAnsP
                        rw [HR.out, HFG.out]
                        exact ⟨rfl, _, _, HST.out.1.drew.below HB9.out, HSV.out, (HFO.out.step (Below.refl _ _).drew).step HB9.out⟩
                      · clear hcap hg hki hbg2 hjl' hi0'
                        go_upto_region 33 with (at_builtin; refine wpl_append_cells (off := (m + 1) * 3) (ys := rowsHe (L'.drop (m + 1))) rfl rfl rfl rfl Try.underlying130 info_heard rfl (by decide) (by decide) H5.out HROW.out (he_drop HCU.out HG5.out (m + 1)) (rowsHe_one _) HH.out HB5.out.size ?_; intro v6 w6 h6 o6; obtain ⟨p6, c6, rfl⟩ := owns_slice h6; have HF := Lib.hid (HFIN.out _ w6 h6 o6); clear h6 o6)
                        have HC6 := Lib.hid (HC3.out.1.below HF.out.1)
                        have HO6 := Lib.hid (HO3.out.step HF.out.1)
                        have HQ6 := Lib.hid (HQ3.out.below HF.out.1)
                        have HR6 := Lib.hid HF.out.2
                        have hil := HIL.out
                        have hi0 := HI0.out
                        clear HC3 HO3 HQ3 HF HFIN H5 HB5 k1 k3 k4 hm0
                        have d3 : w6.cell? ⟨Q, 3, none⟩ = some (.slice pv xL.length cv) := by rw [HQ6.out.cell 3]; rfl
                        have f3 := HQ6.out.frozen 3
                        go_upto_region 34 with fail
                        have HQS : Hid (Only (· = Q) w6 (w6.setCell ⟨Q, 3, none⟩ (.slice p6 (m + (xL.length - (m + 1))) c6))) := Lib.hid (Only.refl _ w6).set1
                        have HQ7 : Hid (Blk (w6.setCell ⟨Q, 3, none⟩ (.slice p6 (m + (xL.length - (m + 1))) c6)) Q 132 #[.int .i64 xf, .int .u64 inc, .int .u64 fl, .slice p6 (m + (xL.length - (m + 1))) c6]) := Lib.hid (by have := HQ6.out.set 3 (.slice p6 (m + (xL.length - (m + 1))) c6); rw [pF3] at this; exact this)
                        have HC7 := Lib.hid (HC6.out.setq HQ6.out (fun k hk => by injection hk with hk; have e : g = k := hk; have := HGB.out.2; omega) (by have := HGB.out; omega) HQS.out)
                        have HR7 := Lib.hid (owns_only HR6.out HQS.out (fun k hk e => by obtain ⟨A', hA, _⟩ := owns_type HR6.out hk; have e' : k = Q := e; subst e'; exact absurd (blk_ne hA HQ6.out) (by decide)))
                        have HO7 := Lib.hid (HO6.out.trans HC7.out.2)
                        clear d3 f3
                        generalize w6.setCell ⟨Q, 3, none⟩ (.slice p6 (m + (xL.length - (m + 1))) c6) = W7 at *
                        have x0 : W7.cell? ⟨Q, 0, none⟩ = some (.int .i64 xf) := by rw [HQ7.out.cell 0]; rfl
                        have x1 : W7.cell? ⟨Q, 1, none⟩ = some (.int .u64 inc) := by rw [HQ7.out.cell 1]; rfl
                        have x2 : W7.cell? ⟨Q, 2, none⟩ = some (.int .u64 fl) := by rw [HQ7.out.cell 2]; rfl
                        have x3 : W7.cell? ⟨Q, 3, none⟩ = some (.slice p6 (m + (xL.length - (m + 1))) c6) := by rw [HQ7.out.cell 3]; rfl
                        have c0 := HC7.out.1.c0
                        obtain ⟨g', cap', ev, _, _, _, hgf, _, hz⟩ := HC7.out.1.peer HI.out
                        injection ev with e1
                        injection e1 with e1
                        injection e1 with e1
                        subst e1
                        have hz2 : ∀ k, k < 4 → W7.cell? ⟨g, i * 4 + k, none⟩ = (prow (⟨xf, inc, xl, xL⟩, .slice pv xL.length cv))[k]? := fun k hk => by
                          rw [hz k hk]
                          exact congrArg (fun z : PeV => (prow z)[k]?) HXE.out
                        have z0 : W7.cell? ⟨g, i * 4, none⟩ = some (.int .i64 xf) := hz2 0 (by decide)
                        have z1 : W7.cell? ⟨g, i * 4 + 1, none⟩ = some (.int .u64 inc) := hz2 1 (by decide)
                        have z2 : W7.cell? ⟨g, i * 4 + 2, none⟩ = some (.int .u64 xl) := hz2 2 (by decide)
                        have z3 : W7.cell? ⟨g, i * 4 + 3, none⟩ = some (.slice pv xL.length cv) := hz2 3 (by decide)
                        have hst := HC7.out.1.store HI.out (⟨xf, inc, fl, (L'.eraseIdx m)⟩, .slice p6 (m + (xL.length - (m + 1))) c6) (owns_ge HR7.out HB3.out) (congrArg (fun z : PeV => z.1.fr) HXE.out).symm (fun x hx _ k hk e => by
                          have h1 := HBW3.out x hx k hk
                          obtain ⟨A', hA, h2, _⟩ := owns_type HR7.out e
                          omega)
                        have HST := Lib.hid hst
                        have HSV : Hid (peV (l1.set i (⟨xf, inc, fl, (L'.eraseIdx m)⟩, .slice p6 (m + (xL.length - (m + 1))) c6)) = setPe (peV l1) ⟨xf, inc, fl, (L'.eraseIdx m)⟩) := Lib.hid (set_at (y := (⟨xf, inc, fl, (L'.eraseIdx m)⟩, .slice p6 (m + (xL.length - (m + 1))) c6)) HC.out.dis HI.out (congrArg (fun z : PeV => z.1.fr) HXE.out).symm)
                        have HFO : Hid (OnR B0 r w _) := Lib.hid (HO7.out.trans hst.2)
                        clear hst hz hz2
                        dsimp only at HST HFO
                        go_region
                        clear x0 x1 x2 x3 z0 z1 z2 z3 c0
                        generalize (((W7.setCell ⟨g, i * 4, none⟩ (.int .i64 xf)).setCell ⟨g, i * 4 + 1, none⟩ (.int .u64 inc)).setCell ⟨g, i * 4 + 2, none⟩ (.int .u64 fl)).setCell ⟨g, i * 4 + 3, none⟩ (.slice p6 (m + (xL.length - (m + 1))) c6) = W8 at *
                        go_wp2_with (go_at_call 14; go_loud ((with_reducible refine (HBY.out _).mono ?_); rintro e w9 ⟨rfl, hb9⟩; have HB9 := Lib.hid hb9; clear hb9))
                        go_ret2
                        unfold RDAnsP
                        rw [HR.out, HFG.out]
                        exact ⟨rfl, _, _, HST.out.1.drew.below HB9.out, HSV.out, (HFO.out.step (Below.refl _ _).drew).step HB9.out⟩
            · have hix' : (inc != xi) = true := by simpa using hix
              have HR := Lib.hid (HT1.out hi0 hix)
              clear hix
              go_wp2_with fail
              go_ret2
              unfold RDAnsP
              rw [HR.out]
              exact ⟨rfl, _, _, HC.out, rfl, HO.out⟩
end Go.Proofs.Ytgdgonmhgpflcaa
