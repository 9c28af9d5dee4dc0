
/- The walk of GramOnce. No condition. -/
import Derived.Test.YtfjadphgjjlhiaaGrcA
import Derived.Test.YtfjadphgjjlhiaaGraK
namespace Go.Proofs.Ytfjadphgjjlhiaa
open Go.RowKit Go.Maps Gr Sok
set_option linter.unusedVariables false
set_option linter.unusedSimpArgs false
def OnR1 (W : World) (n b h c s q : Nat) (l u : Value) (wr : World) : Prop := ∃ (i : Nat) (last : Int), i ≤ n ∧ u = .int .i64 i ∧ l = .int .u64 last ∧ OX W b h c s q i last wr
def OnEnd (W : World) (b h c s q i : Nat) (l : Value) (wr : World) : Prop := ∃ last : Int, l = .int .u64 last ∧ OX W b h c s q (i + 1) last wr
def LawO (W : World) (e : Ending) (w' : World) : Prop := e = .returned (.bool true) ∧ Below W.heap.size W w'
section
variable {W w w' : World} {b h c s q i N : Nat} {last : Int} {L : List G} {C : Int → Int → Bool}
def Bo (i : Nat) (last : Int) (L : List G) (N : Nat) : Prop := L.length ≤ 4096 ∧ last ≤ 50 * (i : Int) ∧ N ≤ 50 * i
theorem OnEnd.of {last' : Int} {L' : List G} {C' : Int → Int → Bool} {N' : Nat} (n : NT W w b h c last' L' C' N') (m : OM W w b h c s q L' C' N') (hb : L'.length ≤ 4096 ∧ last' ≤ 50 * (i : Int) + 50 ∧ N' ≤ 50 * i + 50) : OnEnd W b h c s q i (.int .u64 last') w :=
  ⟨last', rfl, L', C', N', OG.of n m, hb.1, by omega, by omega⟩
theorem nt_sendk (t : NT W w b h c last L C N) (hB : Bo i last L N) (hi : i ≤ 150) {fr : Int} {tx : ByteArray} {pt : Option Addr} {m cap : Nat} {ts : List Int} (ht : To w pt cap ts) (hm : ts.length = m) (h40 : m ≤ 40)
    (hlt : ∀ g o, pt = some ⟨g, o, none⟩ → g < w.heap.size ∧ ¬ (g = b ∨ g = h)) {k cnt : Int} (hk : sc ((fr :: ts).any bad) tx.size m L.length = k) (hc : (if k = 0 then (m : Int) else 0) = cnt) :
    Calls Try.prog 9 #[.pointer (some ⟨b, 0, none⟩), .int .i64 fr, .string tx, .slice pt m cap] w fun e w' => e = .returned (.tuple #[.int .i64 cnt, .int .i64 k]) ∧ (k ≠ 0 → NT W w' b h c last L C N) ∧ (k = 0 → NT W w' b h c (last + m) (L ++ laid last fr tx ts m) C (N + m)) ∧ OnN b h c w w' := by
  obtain ⟨h1, h2, h3⟩ := hB
  refine (nt_send t ht hm (by omega) hlt h1 (by omega) (by omega) hk).mono ?_
  rintro e w' ⟨rfl, ho, hn, hy⟩
  subst hm hc
  exact ⟨rfl, hn, hy, ho⟩
theorem full_len {fr : Int} {tx : ByteArray} {ts : List Int} {m : Nat} {L : List G} (hk : sc ((fr :: ts).any bad) tx.size m L.length = 0) : m + L.length ≤ 4096 ∧ (fr :: ts).any bad = false := by
  unfold sc at hk
  cases hb : (fr :: ts).any bad with
  | true => rw [hb] at hk; cases hk
  | false =>
    rw [hb] at hk
    simp only [Bool.false_eq_true, if_false] at hk
    split at hk
    · cases hk
    · split at hk
      · cases hk
      · exact ⟨by omega, rfl⟩
theorem laid_len (last fr : Int) (tx : ByteArray) (ts : List Int) (m : Nat) : (laid last fr tx ts m).length = m := by unfold laid; simp
theorem NT.mono (t : NT W w b h c last L C N) {M : Nat} (hm : N ≤ M) : NT W w b h c last L C M := ⟨t.nw.mono hm, t.bel, t.ge⟩
theorem sent_has (L : List G) (x : Int) : (sentG L x).2 = hasId L x := by
  unfold sentG hasId
  cases hf : L.find? (fun g => g.id == x) with
  | some g => exact (List.any_eq_true.2 ⟨g, List.mem_of_find?_eq_some hf, List.find?_some hf⟩).symm
  | none =>
    symm
    rw [List.any_eq_false]
    intro g hg
    have := List.find?_eq_none.1 hf g hg
    simpa using this
theorem ox_start {w1 : World} (t : NT W w1 b h c 0 [] (fun _ _ => false) 0) : OX W b h c w1.heap.size (w1.heap.size + 1) 0 0 ((w1.alloc (.map #[] 0)).alloc (.map #[] 0)) := by
  have h1 := World.ownsMap_made (H := Unit) w1 Try.prog 29 gramE
  have h2 := World.ownsMap_made (H := Unit) (w1.alloc (.map #[] 0)) Try.prog 59 (plainElem Try.prog 3)
  rw [World.size_alloc] at h2
  have a1 := t.nw.blk.lt
  have a2 := t.nw.gm.lt
  have a3 := t.nw.cm.lt
  have a4 := t.bel.size
  refine ⟨[], fun _ _ => false, 0, ⟨(t.alloc _).alloc _, ⟨_, h1.alloc _, ?_, ?_, rfl⟩, ⟨_, h2, ?_⟩, ?_, ?_⟩, by decide, by decide, by decide⟩
  · intro g hg; cases hg
  · intro x; simp [has]
  · intro a b ha hb; rfl
  · refine ⟨by omega, by omega, by omega⟩
  · exact ⟨by omega, by omega⟩
/-- In a Send's own loop. -/
structure SdL (W w : World) (b h c s q Q m j : Nat) (last fr : Int) (tx : ByteArray) (ts : List Int) (L : List G) (C : Int → Int → Bool) (N : Nat) (A : Array Value) : Prop where
  nt : NT W w b h c (last + m) (L ++ laid last fr tx ts m) C (N + m)
  om : OM W w b h c s q (L ++ laid last fr tx ts j) C (N + j)
  st : Blk w Q 47 A
def SdR (W : World) (b h c s q Q m : Nat) (last fr : Int) (tx : ByteArray) (ts : List Int) (L : List G) (C : Int → Int → Bool) (N : Nat) (A : Array Value) (l u : Value) (wr : World) : Prop := ∃ j : Nat, j ≤ m ∧ l = .int .u64 (last + j) ∧ u = .int .i64 j ∧ SdL W wr b h c s q Q m j last fr tx ts L C N A
theorem sd_fresh {last fr : Int} {tx : ByteArray} {ts : List Int} {L : List G} {j : Nat} (hi : Inv last L) : ¬ ∃ g' ∈ L ++ laid last fr tx ts j, g'.id = last + j + 1 := by
  rintro ⟨g, hg, e⟩
  rcases List.mem_append.1 hg with hg | hg
  · have := (hi.2.2.2 g hg).2.1; omega
  · unfold laid at hg
    obtain ⟨k, hk, rfl⟩ := List.mem_map.1 hg
    have := List.mem_range.1 hk
    simp only at e; omega
end
set_option maxRecDepth 100000 in
set_option maxHeartbeats 8000000 in
theorem gonce_law {W : World} {v : Value} {n : Nat} {sx : Nat → StepG} (hv : ScriptG W v n sx) : Calls Try.prog 5 #[v] W (LawO W) := by
  have HV := Lib.hid hv
  have HH := Lib.hid (heavyG hv)
  have hmm := @run_makeMap Try.prog
  obtain ⟨p, cap, rfl, _⟩ := hv
  go_enter Try.func5, Try.ntmps5
  go_upto_region 1 with fail
  go_cut [24] (fun u wc => (∃ q : Bool, u = .bool q ∧ (q = false → n ≤ 150 ∧ ∀ i, i < n → (sx i).ts.length ≤ 40)) ∧ wc = W)
  case first =>
    go_wp2_with (go_at_call 14; ((with_reducible refine HH.out.mono ?_); rintro e w1 ⟨⟨q, rfl, hq⟩, rfl⟩))
    go_meet
    exact ⟨⟨q, rfl, hq⟩, rfl⟩
  case rest =>
    obtain ⟨⟨q, rfl, hq⟩, e0⟩ := hcut
    have e0 := e0.symm
    subst e0
    clear HH
    cases q with
    | true =>
      clear hq
      go_wp2_with (go_at_call 13; ((with_reducible refine Calls.mono (works_t _) ?_); rintro e w9 ⟨rfl, hb9⟩))
      go_ret
      exact ⟨rfl, hb9⟩
    | false =>
      have HQ := Lib.hid (hq rfl)
      have HB0 := Lib.hid (Below.refl W.heap.size W)
      clear hq
      go_upto_region 8 with (go_at_call 8; (with_reducible refine Calls.mono (nt_new HB0.out) ?_); rintro e w1 ⟨b, h, c, rfl, ht, hbn⟩; have HT1 := Lib.hid ht; clear ht hbn)
      have HX0 : Hid (OX W b h c w1.heap.size (w1.heap.size + 1) 0 0 ((w1.alloc (.map #[] 0)).alloc (.map #[] 0))) := Lib.hid (ox_start HT1.out)
      clear HT1 HB0
      generalize (w1.alloc (.map #[] 0)).alloc (.map #[] 0) = w2 at *
      have e1 : (w1.alloc (.map #[] 0)).heap.size = w1.heap.size + 1 := by simp
      try rw [e1]
      generalize w1.heap.size + 1 = q at *
      generalize w1.heap.size = s at *
      clear hmm
      go_wp2_with fail
      go_loopw [6, 7] (fun l u wr => OnR1 W n b h c s q l u wr) (fun _ u _ => ((n : Int) - intOf u).toNat)
      case atStart => exact ⟨0, 0, Nat.zero_le _, rfl, rfl, HX0.out⟩
      case round =>
        clear HX0
        obtain ⟨i, last, hi, rfl, rfl, hpx⟩ := hrel
        have HPX := Lib.hid hpx
        have HI := Lib.hid hi
        clear hpx hi
        by_cases hin : i < n
        · have hin' : (i : Int) < (n : Int) := by omega
          have hi0 : (0 : Int) ≤ (i : Int) := by omega
          obtain ⟨p', c', e1, hx⟩ := HV.out
          injection e1 with e1 e2 e3
          subst e1 e3
          obtain ⟨g, off, rfl, hg, hx⟩ := hx (by omega)
          obtain ⟨x0, x1, x2, x3, x4, x5, ⟨pt, ct, x6, hrow⟩, hu1, hu2⟩ := hx i hin
          obtain ⟨L, C, N, hp, hb⟩ := HPX.out
          have HP1 := Lib.hid hp
          have HB := Lib.hid (show Bo i last L N from hb)
          have hbel := hp.nt.bel
          rw [← hbel.cell (p := ⟨g, _, none⟩) hg] at x0 x1 x2 x3 x4 x5 x6
          have H40 := Lib.hid (HQ.out.2 i hin)
          have HU := Lib.hid (And.intro hu1 hu2)
          have HROW := Lib.hid hrow
          have HE : Hid (wrap64 ((i : Int) + 1) = ((i + 1 : Nat) : Int)) := Lib.hid (Sou.w64n rfl (by have := HQ.out.1; omega))
          have HIN := Lib.hid hin
          have HI150 : Hid (i ≤ 150) := Lib.hid (by have := HQ.out.1; have := HI.out; omega)
          clear hx hu1 hu2 hrow hbel hin e2 hp hb
          generalize sx i = st at *
          obtain ⟨sd, sa, sb, sn, sm, ss, ts⟩ := st
          dsimp only at x0 x1 x2 x3 x4 x5 x6 HU HROW H40
          go_upto_block 2 with fail
          have HP := Lib.hid (HP1.out.below ((Below.refl _ _).alloc (Nat.le_refl _) (.cells #[.int .i64 sd, .int .i64 sa, .int .i64 sb, .int .u64 sn, .int .u64 sm, .string ss, .slice pt ts.length ct] 47)))
          have HS := Lib.hid (Blk.new wr 47 #[.int .i64 sd, .int .i64 sa, .int .i64 sb, .int .u64 sn, .int .u64 sm, .string ss, .slice pt ts.length ct])
          clear x0 x1 x2 x3 x4 x5 x6 HPX HP1
          generalize wr.alloc (.cells #[.int .i64 sd, .int .i64 sa, .int .i64 sb, .int .u64 sn, .int .u64 sm, .string ss, .slice pt ts.length ct] 47) = X at *
          generalize wr.heap.size = Q at *
          go_cut [6] (fun l wz => OnEnd W b h c s q i l wz)
          case first =>
            have z0 : X.cell? ⟨Q, 0, none⟩ = some (.int .i64 sd) := by rw [HS.out.cell 0]; rfl
            have z1 : X.cell? ⟨Q, 1, none⟩ = some (.int .i64 sa) := by rw [HS.out.cell 1]; rfl
            have z2 : X.cell? ⟨Q, 2, none⟩ = some (.int .i64 sb) := by rw [HS.out.cell 2]; rfl
            have z3 : X.cell? ⟨Q, 3, none⟩ = some (.int .u64 sn) := by rw [HS.out.cell 3]; rfl
            have z4 : X.cell? ⟨Q, 4, none⟩ = some (.int .u64 sm) := by rw [HS.out.cell 4]; rfl
            have z5 : X.cell? ⟨Q, 5, none⟩ = some (.string ss) := by rw [HS.out.cell 5]; rfl
            have z6 : X.cell? ⟨Q, 6, none⟩ = some (.slice pt ts.length ct) := by rw [HS.out.cell 6]; rfl
            have HBW := Lib.hid HP.out.nt.bel
            clear hg hin'
            by_cases hd0 : sd = 0
            · subst hd0
              as_aux_lemma =>
                obtain ⟨k, hk⟩ : ∃ k, sc ((sa :: ts).any bad) ss.size ts.length L.length = k := ⟨_, rfl⟩
                obtain ⟨cnt, hcnt⟩ : ∃ cnt : Int, (if k = 0 then ((ts.length : Nat) : Int) else 0) = cnt := ⟨_, rfl⟩
                generalize hm : ts.length = m at *
                have HM := Lib.hid hm
                have HK := Lib.hid (And.intro hk hcnt)
                clear hm hk hcnt
                go_upto_region 15 with fail
                go_cut [9, 10] (fun u v wz => u = .int .i64 cnt ∧ v = .int .i64 k ∧ (k ≠ 0 → NT W wz b h c last L C N) ∧ (k = 0 → NT W wz b h c (last + m) (L ++ laid last sa ss ts m) C (N + m)) ∧ OM W wz b h c s q L C N ∧ Blk wz Q 47 #[.int .i64 0, .int .i64 sa, .int .i64 sb, .int .u64 sn, .int .u64 sm, .string ss, .slice pt m ct])
                case first =>
                  have HSD := Lib.hid (show Blk X.drew Q 47 _ from HS.out)
                  go_region_held3 (fun w' => w'.cell? ⟨Q, 1, none⟩ = some (.int .i64 sa) ∧ w'.cell? ⟨Q, 5, none⟩ = some (.string ss) ∧ w'.cell? ⟨Q, 6, none⟩ = some (.slice pt m ct)) (first | exact ⟨y1, y5, y6⟩ | go_keep) (first
                    | (refine step_append_ints (ys := ts) (by rfl) (by rfl) (by rfl) (by rfl) Try.underlying25 info_i64c rfl (by decide) HM.out (by have := H40.out; omega) (rowI_at HROW.out HBW.out.drew) ?_; intro v6 w6 h6 b6; obtain ⟨p6, c6, rfl, hto, hfr⟩ := to_own h6 HM.out; have HP6 := Lib.hid (HP.out.below (Below.step (Below.refl _ _).drew b6)); have HS6 := Lib.hid (HSD.out.below b6); have HSEND := Lib.hid (nt_sendk HP6.out.nt HB.out HI150.out hto HM.out H40.out (fun g o e => ⟨(hfr g o e).2, fun hh => by have h1 := HP.out.nt.nw.blk.lt; have h2 := HP.out.nt.nw.gm.lt; have h3 := (hfr g o e).1; have h4 : X.drew.heap.size = X.heap.size := rfl; omega⟩) HK.out.1 HK.out.2); have y1 : w6.cell? ⟨Q, 1, none⟩ = some (.int .i64 sa) := (by rw [HS6.out.cell 1]; rfl); have y5 : w6.cell? ⟨Q, 5, none⟩ = some (.string ss) := (by rw [HS6.out.cell 5]; rfl); have y6 : w6.cell? ⟨Q, 6, none⟩ = some (.slice pt m ct) := (by rw [HS6.out.cell 6]; rfl); clear h6 b6 hto hfr)
                    | (refine step_call (by rfl) 9 #[.pointer (some ⟨b, 0, none⟩), .int .i64 sa, .string ss, .slice p6 m c6] (by simp only [execOp]; go_simp) HSEND.out (fun e w' h => ⟨_, h.1⟩) ?_; intro v7 w7 h7; obtain ⟨hv7, hn7, hy7, ho7⟩ := h7; injection hv7 with hv7; subst hv7; have HN7 := Lib.hid hn7; have HY7 := Lib.hid hy7; have HO7 := Lib.hid (HP6.out.om.onN ho7); have HS7 := Lib.hid (blk_onN HS6.out HP6.out.nt (by decide) ho7); clear y1 y5 y6; have y1 : w7.cell? ⟨Q, 1, none⟩ = some (.int .i64 sa) := (by rw [HS7.out.cell 1]; rfl); have y5 : w7.cell? ⟨Q, 5, none⟩ = some (.string ss) := (by rw [HS7.out.cell 5]; rfl); have y6 : w7.cell? ⟨Q, 6, none⟩ = some (.slice pt m ct) := (by rw [HS7.out.cell 6]; rfl); clear hn7 hy7 ho7))
                  all_goals (go_wp2_with fail; go_meet)
                  all_goals exact ⟨rfl, rfl, HN7.out, HY7.out, HO7.out, HS7.out⟩
                case rest =>
                  obtain ⟨rfl, rfl, hn7, hy7, ho7, hs7⟩ := hcut
                  have HO7 := Lib.hid ho7
                  have HS7 := Lib.hid hs7
                  clear z0 z1 z2 z3 z4 z5 z6 HS ho7 hs7
                  by_cases hk : k = 0
                  · have HN7 := Lib.hid (hy7 hk)
                    have HKC : Hid (cnt = (m : Int)) := Lib.hid (by rw [← HK.out.2, if_pos hk])
                    have HFU : Hid (m + L.length ≤ 4096 ∧ (sa :: ts).any bad = false) := Lib.hid (full_len (by rw [HK.out.1]; exact hk))
                    have hkc := HKC.out
                    have hk0 : (k != 0) = false := by simpa using hk
                    have y6 : wc.cell? ⟨Q, 6, none⟩ = some (.slice pt m ct) := by rw [HS7.out.cell 6]; rfl
                    subst hkc
                    clear hn7 hy7 hk
                    have HZ0 : Hid (SdR W b h c s q Q m last sa ss ts L C N #[.int .i64 0, .int .i64 sa, .int .i64 sb, .int .u64 sn, .int .u64 sm, .string ss, .slice pt m ct] (.int .u64 last) (.int .i64 0) wc) := Lib.hid ⟨0, Nat.zero_le _, by simp, rfl, HN7.out, by simpa [laid] using HO7.out, HS7.out⟩
                    go_wp2_with fail
                    clear y6
                    go_loopw [6, 11] (fun l u wr => SdR W b h c s q Q m last sa ss ts L C N #[.int .i64 0, .int .i64 sa, .int .i64 sb, .int .u64 sn, .int .u64 sm, .string ss, .slice pt m ct] l u wr) (fun _ u _ => ((m : Int) - intOf u).toNat)
                    case atStart => exact HZ0.out
                    case round =>
                      clear HZ0 HN7 HO7 HS7
                      obtain ⟨j, hj, rfl, rfl, hsd⟩ := hrel
                      have HSL := Lib.hid hsd
                      have HJ := Lib.hid hj
                      clear hsd hj
                      by_cases hjm : j < m
                      · have hjm' : (j : Int) < (m : Int) := by omega
                        have hj0 : (0 : Int) ≤ (j : Int) := by omega
                        have hjl : j < ts.length := by have := HM.out; omega
                        obtain ⟨g, o, rfl, hc⟩ := rowI_at HROW.out HSL.out.nt.bel (by omega)
                        have x0 := hc j hjl
                        have y1 : wr.cell? ⟨Q, 1, none⟩ = some (.int .i64 sa) := by rw [HSL.out.st.cell 1]; rfl
                        have y5 : wr.cell? ⟨Q, 5, none⟩ = some (.string ss) := by rw [HSL.out.st.cell 5]; rfl
                        have y6 : wr.cell? ⟨Q, 6, none⟩ = some (.slice (some ⟨g, o, none⟩) m ct) := by rw [HSL.out.st.cell 6]; rfl
                        have hinv := HP.out.nt.nw.inv
                        have HFR := Lib.hid (sd_fresh (fr := sa) (tx := ss) (ts := ts) (j := j) hinv)
                        have eu : IntKind.u64.wrap (last + j + 1) = last + j + 1 := by have h1 := hinv.1; have h2 := HB.out.2.1; have h3 := HI150.out; have h4 := H40.out; rw [IntKind.wrap_u64]; omega
                        have HKEY : Hid (keyOf Try.prog 29 (.int .u64 (last + j + 1)) = some (KU (last + j + 1))) := Lib.hid (keyG (by have h1 := hinv.1; have h2 := HB.out.2.1; have h3 := HI150.out; have h4 := H40.out; unfold U64; omega))
                        have HLS := Lib.hid (laid_succ last sa ss ts j)
                        have HE : Hid (wrap64 ((j : Int) + 1) = ((j + 1 : Nat) : Int)) := Lib.hid (Sou.w64n rfl (by have := H40.out; omega))
                        have HJM := Lib.hid hjm
                        have HN : Hid (N + j < maxLen) := Lib.hid (by have h2 := HB.out.2.2; have h3 := HI150.out; have h4 := H40.out; unfold maxLen; omega)
                        obtain ⟨D, od, o1, o2, o3⟩ := HSL.out.om.gm
                        have HO := Lib.hid od
                        have HF : Hid (∀ w5, w5.ownsMap Try.prog 29 gramE s (N + j + 1) (D.put (KU (last + j + 1)) (gd ⟨last + j + 1, sa, ts[j]!, ss⟩)) → wr.drew.grownBy w5 (some s) → SdR W b h c s q Q m last sa ss ts L C N #[.int .i64 0, .int .i64 sa, .int .i64 sb, .int .u64 sn, .int .u64 sm, .string ss, .slice (some ⟨g, o, none⟩) m ct] (.int .u64 (last + j + 1)) (.int .i64 ((j + 1 : Nat) : Int)) w5) := Lib.hid fun w5 o' g' => by
                          have g0 : wr.grownBy w5 (some s) := ⟨g'.os, g'.tape, g'.output, g'.size, g'.block⟩
                          have hos := only_turned g0
                          refine ⟨j + 1, HJM.out, by congr 1; omega, rfl, HSL.out.nt.law hos HSL.out.om.ap.2.1 HSL.out.om.ge.1, ?_, HSL.out.st.only hos ?_⟩
                          · rw [HLS.out, ← List.append_assoc]
                            exact HSL.out.om.put od o1 o2 o3 HFR.out o' g0
                          · intro e
                            subst e
                            obtain ⟨es, clock, hb, _⟩ := od
                            have := HSL.out.st
                            unfold Blk at this
                            rw [hb] at this; cases this
                        clear hc hjm hjl hinv o1 o2 o3 od
                        generalize ts[j]! = t at *
                        go_upto_region 25 with fail
                        refine Reg.wp_text (by kernel_rfl) (by kernel_rfl) ?_
                        go_wp2_with (at_mapUpdate; refine wpList_mapUpdate_own _ rfl _ _ _ 55 rfl 29 33 kdG Try.underlying55 _ s (N + j) D rfl HO.out.drew HN.out _ (gv ⟨last + j + 1, sa, t, ss⟩) (KU (last + j + 1)) rfl rfl HKEY.out (gd ⟨last + j + 1, sa, t, ss⟩) [] (gramE_mk _) ?_; intro w5 o5 g5; have HR := Lib.hid (HF.out _ o5 g5); clear o5 g5 x0 y1 y5 y6)
                        refine Reg.fin (by kernel_rfl) ?_
                        go_wp2_with fail
                        go_roundw
                        case rel => first | exact HR.out | (rw [HE.out]; exact HR.out)
                        case measure => have := HJM.out; first | (simp [intOf]; omega) | (rw [HE.out]; simp [intOf]; omega)
                      · obtain rfl : j = m := by have := HJ.out; omega
                        have hjm' : ¬ (j : Int) < (j : Int) := by omega
                        clear hjm
                        go_wp2_with fail
                        go_meet
                        exact OnEnd.of HSL.out.nt HSL.out.om ⟨by rw [List.length_append, laid_len]; have := HFU.out.1; omega, by have := HB.out.2.1; have := H40.out; omega, by have := HB.out.2.2; have := H40.out; omega⟩
                  · have HN7 := Lib.hid (hn7 hk)
                    have hkc : cnt = 0 := by rw [← HK.out.2, if_neg hk]
                    have hk0 : (k != 0) = true := by simpa using hk
                    subst hkc
                    clear hn7 hy7 hk
                    go_wp2_with fail
                    go_meet
                    exact OnEnd.of HN7.out HO7.out ⟨HB.out.1, by have := HB.out.2.1; omega, by have := HB.out.2.2; omega⟩
            by_cases hd1 : sd = 1
            · subst hd1
              clear hd0
              as_aux_lemma =>
                have HTK := Lib.hid (nt_take HP.out.nt HU.out.1 rfl)
                obtain ⟨tr, htr⟩ : ∃ t, takeG C L sn = t := ⟨_, rfl⟩
                obtain ⟨tg, htg⟩ : ∃ t, sentG L sn = t := ⟨_, rfl⟩
                have HCASE : Hid ((tr = (g0, 5, L) ∧ tg = (g0, false)) ∨ ∃ g, (tr = (g0, 90, L) ∧ tg = (g, true)) ∨ (tr = (g, 0, rem L sn) ∧ tg = (g, true) ∧ C g.fr g.tt = false ∧ I64 g.fr ∧ I64 g.tt)) := Lib.hid (by
                  subst htr htg
                  unfold takeG sentG
                  cases hf : L.find? (fun g => g.id == sn) with
                  | none => exact .inl ⟨rfl, rfl⟩
                  | some g =>
                    right
                    refine ⟨g, ?_⟩
                    dsimp only
                    cases hc : C g.fr g.tt with
                    | true => exact .inl ⟨rfl, rfl⟩
                    | false => exact .inr ⟨rfl, rfl, by first | rfl | exact hc, (HP.out.nt.nw.inv.2.2.2 g (List.mem_of_find?_eq_some hf)).2.2⟩)
                rw [htr] at HTK
                have HTG := Lib.hid htg
                clear htr htg
                rcases HCASE.out with ⟨rfl, rfl⟩ | ⟨⟨gi, gf, gt, gx⟩, ⟨rfl, rfl⟩ | ⟨rfl, rfl, hcf, hfi, hti⟩⟩
                · skip
                  go_upto_region 28 with ((go_at_call 11; ((with_reducible refine Calls.mono HTK.out ?_); rintro e w7 ⟨rfl, hn7, ho7⟩; unfold gv; (try unfold g0); dsimp only; have HN7 := Lib.hid (hn7.alloc (.cells #[.int .u64 0, .int .i64 0, .int .i64 0, .string ⟨#[]⟩] 33)); have HO7 := Lib.hid ((HP.out.om.onN ho7).below ((Below.refl _ _).alloc (Nat.le_refl _) (.cells #[.int .u64 0, .int .i64 0, .int .i64 0, .string ⟨#[]⟩] 33))); have HS7 := Lib.hid ((blk_onN HS.out HP.out.nt (by decide) ho7).alloc (.cells #[.int .u64 0, .int .i64 0, .int .i64 0, .string ⟨#[]⟩] 33)); clear hn7 ho7)))
                  have HY0 := Lib.hid (Blk.new w7 33 #[.int .u64 0, .int .i64 0, .int .i64 0, .string ⟨#[]⟩])
                  clear z0 z1 z2 z3 z4 z5 z6 HS HTK
                  generalize w7.alloc (.cells #[.int .u64 0, .int .i64 0, .int .i64 0, .string ⟨#[]⟩] 33) = w6 at *
                  generalize w7.heap.size = Y at *
                  have y3 : w6.cell? ⟨Q, 3, none⟩ = some (.int .u64 sn) := by rw [HS7.out.cell 3]; rfl
                  have hlk := HO7.out.sent HU.out.1 HTG.out
                  unfold gv at hlk
                  (try unfold g0 at hlk)
                  dsimp only at hlk
                  go_upto_region 29 with fail
                  have HN8 := Lib.hid (HN7.out.alloc (.cells #[.int .u64 0, .int .i64 0, .int .i64 0, .string ⟨#[]⟩] 33))
                  have HO8 := Lib.hid (HO7.out.below ((Below.refl _ _).alloc (Nat.le_refl _) (.cells #[.int .u64 0, .int .i64 0, .int .i64 0, .string ⟨#[]⟩] 33)))
                  have HS8 := Lib.hid (HS7.out.alloc (.cells #[.int .u64 0, .int .i64 0, .int .i64 0, .string ⟨#[]⟩] 33))
                  have HY7 := Lib.hid (HY0.out.alloc (.cells #[.int .u64 0, .int .i64 0, .int .i64 0, .string ⟨#[]⟩] 33))
                  have HZ7 := Lib.hid (Blk.new w6 33 #[.int .u64 0, .int .i64 0, .int .i64 0, .string ⟨#[]⟩])
                  clear y3 hlk HN7 HO7 HS7 HY0
                  generalize w6.alloc (.cells #[.int .u64 0, .int .i64 0, .int .i64 0, .string ⟨#[]⟩] 33) = w8 at *
                  generalize w6.heap.size = Z at *
                  go_wp2_with fail
                  go_meet
                  exact OnEnd.of HN8.out HO8.out ⟨HB.out.1, by have := HB.out.2.1; omega, by have := HB.out.2.2; omega⟩
                · skip
                  go_upto_region 28 with ((go_at_call 11; ((with_reducible refine Calls.mono HTK.out ?_); rintro e w7 ⟨rfl, hn7, ho7⟩; unfold gv; (try unfold g0); dsimp only; have HN7 := Lib.hid (hn7.alloc (.cells #[.int .u64 0, .int .i64 0, .int .i64 0, .string ⟨#[]⟩] 33)); have HO7 := Lib.hid ((HP.out.om.onN ho7).below ((Below.refl _ _).alloc (Nat.le_refl _) (.cells #[.int .u64 0, .int .i64 0, .int .i64 0, .string ⟨#[]⟩] 33))); have HS7 := Lib.hid ((blk_onN HS.out HP.out.nt (by decide) ho7).alloc (.cells #[.int .u64 0, .int .i64 0, .int .i64 0, .string ⟨#[]⟩] 33)); clear hn7 ho7)))
                  have HY0 := Lib.hid (Blk.new w7 33 #[.int .u64 0, .int .i64 0, .int .i64 0, .string ⟨#[]⟩])
                  clear z0 z1 z2 z3 z4 z5 z6 HS HTK
                  generalize w7.alloc (.cells #[.int .u64 0, .int .i64 0, .int .i64 0, .string ⟨#[]⟩] 33) = w6 at *
                  generalize w7.heap.size = Y at *
                  have y3 : w6.cell? ⟨Q, 3, none⟩ = some (.int .u64 sn) := by rw [HS7.out.cell 3]; rfl
                  have hlk := HO7.out.sent HU.out.1 HTG.out
                  unfold gv at hlk
                  (try unfold g0 at hlk)
                  dsimp only at hlk
                  go_upto_region 29 with fail
                  have HN8 := Lib.hid (HN7.out.alloc (.cells #[.int .u64 gi, .int .i64 gf, .int .i64 gt, .string gx] 33))
                  have HO8 := Lib.hid (HO7.out.below ((Below.refl _ _).alloc (Nat.le_refl _) (.cells #[.int .u64 gi, .int .i64 gf, .int .i64 gt, .string gx] 33)))
                  have HS8 := Lib.hid (HS7.out.alloc (.cells #[.int .u64 gi, .int .i64 gf, .int .i64 gt, .string gx] 33))
                  have HY7 := Lib.hid (HY0.out.alloc (.cells #[.int .u64 gi, .int .i64 gf, .int .i64 gt, .string gx] 33))
                  have HZ7 := Lib.hid (Blk.new w6 33 #[.int .u64 gi, .int .i64 gf, .int .i64 gt, .string gx])
                  clear y3 hlk HN7 HO7 HS7 HY0
                  generalize w6.alloc (.cells #[.int .u64 gi, .int .i64 gf, .int .i64 gt, .string gx] 33) = w8 at *
                  generalize w6.heap.size = Z at *
                  go_wp2_with fail
                  go_meet
                  exact OnEnd.of HN8.out HO8.out ⟨HB.out.1, by have := HB.out.2.1; omega, by have := HB.out.2.2; omega⟩
                · have HCF := Lib.hid hcf
                  have HFT := Lib.hid (And.intro hfi hti)
                  clear hcf hfi hti
                  go_upto_region 28 with ((go_at_call 11; ((with_reducible refine Calls.mono HTK.out ?_); rintro e w7 ⟨rfl, hn7, ho7⟩; unfold gv; (try unfold g0); dsimp only; have HN7 := Lib.hid (hn7.alloc (.cells #[.int .u64 gi, .int .i64 gf, .int .i64 gt, .string gx] 33)); have HO7 := Lib.hid ((HP.out.om.onN ho7).below ((Below.refl _ _).alloc (Nat.le_refl _) (.cells #[.int .u64 gi, .int .i64 gf, .int .i64 gt, .string gx] 33))); have HS7 := Lib.hid ((blk_onN HS.out HP.out.nt (by decide) ho7).alloc (.cells #[.int .u64 gi, .int .i64 gf, .int .i64 gt, .string gx] 33)); clear hn7 ho7)))
                  have HY0 := Lib.hid (Blk.new w7 33 #[.int .u64 gi, .int .i64 gf, .int .i64 gt, .string gx])
                  clear z0 z1 z2 z3 z4 z5 z6 HS HTK
                  generalize w7.alloc (.cells #[.int .u64 gi, .int .i64 gf, .int .i64 gt, .string gx] 33) = w6 at *
                  generalize w7.heap.size = Y at *
                  have y3 : w6.cell? ⟨Q, 3, none⟩ = some (.int .u64 sn) := by rw [HS7.out.cell 3]; rfl
                  have hlk := HO7.out.sent HU.out.1 HTG.out
                  unfold gv at hlk
                  (try unfold g0 at hlk)
                  dsimp only at hlk
                  go_upto_region 29 with fail
                  have HN8 := Lib.hid (HN7.out.alloc (.cells #[.int .u64 gi, .int .i64 gf, .int .i64 gt, .string gx] 33))
                  have HO8 := Lib.hid (HO7.out.below ((Below.refl _ _).alloc (Nat.le_refl _) (.cells #[.int .u64 gi, .int .i64 gf, .int .i64 gt, .string gx] 33)))
                  have HS8 := Lib.hid (HS7.out.alloc (.cells #[.int .u64 gi, .int .i64 gf, .int .i64 gt, .string gx] 33))
                  have HY7 := Lib.hid (HY0.out.alloc (.cells #[.int .u64 gi, .int .i64 gf, .int .i64 gt, .string gx] 33))
                  have HZ7 := Lib.hid (Blk.new w6 33 #[.int .u64 gi, .int .i64 gf, .int .i64 gt, .string gx])
                  clear y3 hlk HN7 HO7 HS7 HY0
                  generalize w6.alloc (.cells #[.int .u64 gi, .int .i64 gf, .int .i64 gt, .string gx] 33) = w8 at *
                  generalize w6.heap.size = Z at *
                  have hst := str_refl gx
                  have hcl := HO8.out.vm.at HFT.out.1 HFT.out.2
                  rw [HCF.out] at hcl
                  have a0 : w8.cell? ⟨Y, 0, none⟩ = some (.int .u64 gi) := by rw [HY7.out.cell 0]; rfl
                  have a1 : w8.cell? ⟨Y, 1, none⟩ = some (.int .i64 gf) := by rw [HY7.out.cell 1]; rfl
                  have a2 : w8.cell? ⟨Y, 2, none⟩ = some (.int .i64 gt) := by rw [HY7.out.cell 2]; rfl
                  have a3 : w8.cell? ⟨Y, 3, none⟩ = some (.string gx) := by rw [HY7.out.cell 3]; rfl
                  have b0 : w8.cell? ⟨Z, 0, none⟩ = some (.int .u64 gi) := by rw [HZ7.out.cell 0]; rfl
                  have b1 : w8.cell? ⟨Z, 1, none⟩ = some (.int .i64 gf) := by rw [HZ7.out.cell 1]; rfl
                  have b2 : w8.cell? ⟨Z, 2, none⟩ = some (.int .i64 gt) := by rw [HZ7.out.cell 2]; rfl
                  have b3 : w8.cell? ⟨Z, 3, none⟩ = some (.string gx) := by rw [HZ7.out.cell 3]; rfl
                  have y3 : w8.cell? ⟨Q, 3, none⟩ = some (.int .u64 sn) := by rw [HS8.out.cell 3]; rfl
                  go_upto_region 34 with fail
                  clear hcl a0 a1 a2 a3 b0 b1 b2 b3 hst
                  have HN8' : Hid (NT W w8 b h c last (rem L sn) C N) := HN8
                  obtain ⟨D, od, o1, o2, o3⟩ := HO8.out.gm
                  have HOD := Lib.hid od
                  have HKEY := Lib.hid (keyG HU.out.1)
                  have HF : Hid (∀ w5, w5.ownsMap Try.prog 29 gramE s N (D.del (KU sn)) → w8.mapTurned w5 s → NT W w5 b h c last (rem L sn) C N ∧ OM W w5 b h c s q (rem L sn) C N) := Lib.hid fun w5 o' t' =>
                    ⟨HN8'.out.law (only_turned t'.grown) HO8.out.ap.2.1 HO8.out.ge.1, HO8.out.del od o1 o2 o3 HP.out.nt.nw.inv.2.2.1 o' t'.grown⟩
                  clear od o1 o2 o3
                  go_wp2_with (at_delete; refine wpList_delete_own _ rfl _ _ 55 29 rfl 33 kdG Try.underlying55 _ s N D rfl HOD.out _ (KU sn) rfl HKEY.out ?_; intro w5 o5 t5; have HN9 := Lib.hid (HF.out w5 o5 t5).1; have HO9 := Lib.hid (HF.out w5 o5 t5).2; clear o5 t5 y3)
                  go_meet
                  exact OnEnd.of HN9.out HO9.out ⟨by have := rem_len L sn; have := HB.out.1; omega, by have := HB.out.2.1; omega, by have := HB.out.2.2; omega⟩
            by_cases hd2 : sd = 2
            · subst hd2
              clear hd0 hd1
              as_aux_lemma =>
                have HDR := Lib.hid (nt_drop_new HP.out.nt [sn] (q := X.heap.size) (T := 29) (m := 1) (cs := #[.int .u64 sn]) rfl rfl rfl (by decide) (by intro z hz; simp at hz; subst hz; exact HU.out.1) (r := (0 + (if hasId L sn then 1 else 0), rem L sn)) rfl)
                obtain ⟨was, hwas⟩ : ∃ q, hasId L sn = q := ⟨_, rfl⟩
                obtain ⟨tg, htg⟩ : ∃ t, sentG L sn = t := ⟨_, rfl⟩
                have HWT : Hid (tg.2 = was) := Lib.hid (by rw [← htg, ← hwas]; exact sent_has L sn)
                have HTG := Lib.hid htg
                obtain ⟨⟨gi, gf, gt, gx⟩, gb⟩ := tg
                have hgb := HWT.out
                dsimp only at hgb
                subst hgb
                rw [hwas] at HDR
                clear htg hwas
                cases gb with
                | true =>
                  go_upto_region 37 with (go_at_call 17; ((with_reducible refine Calls.mono HDR.out ?_); rintro e w7 ⟨rfl, hn7, ho7⟩; (try dsimp only); have HN7 := Lib.hid hn7; have HO7 := Lib.hid (HP.out.om.onN ho7); have HS7 := Lib.hid (blk_onN HS.out HP.out.nt (by decide) ho7); clear hn7 ho7))
                  clear z0 z1 z2 z3 z4 z5 z6 HS HDR
                  have y3 : w7.cell? ⟨Q, 3, none⟩ = some (.int .u64 sn) := by rw [HS7.out.cell 3]; rfl
                  have hlk := HO7.out.sent HU.out.1 HTG.out
                  unfold gv at hlk
                  dsimp only at hlk
                  go_upto_region 40 with fail
                  have HN8 := Lib.hid (HN7.out.alloc (.cells #[.int .u64 gi, .int .i64 gf, .int .i64 gt, .string gx] 33))
                  have HO8 := Lib.hid (HO7.out.below ((Below.refl _ _).alloc (Nat.le_refl _) (.cells #[.int .u64 gi, .int .i64 gf, .int .i64 gt, .string gx] 33)))
                  have HS8 := Lib.hid (HS7.out.alloc (.cells #[.int .u64 gi, .int .i64 gf, .int .i64 gt, .string gx] 33))
                  clear y3 hlk HN7 HO7 HS7
                  generalize w7.alloc (.cells #[.int .u64 gi, .int .i64 gf, .int .i64 gt, .string gx] 33) = w8 at *
                  have y3 : w8.cell? ⟨Q, 3, none⟩ = some (.int .u64 sn) := by rw [HS8.out.cell 3]; rfl
                  obtain ⟨D, od, o1, o2, o3⟩ := HO8.out.gm
                  have HOD := Lib.hid od
                  have HKEY := Lib.hid (keyG HU.out.1)
                  have HF : Hid (∀ w5, w5.ownsMap Try.prog 29 gramE s N (D.del (KU sn)) → (w8).mapTurned w5 s → NT W w5 b h c last (rem L sn) C N ∧ OM W w5 b h c s q (rem L sn) C N) := Lib.hid fun w5 o' t' =>
                    ⟨HN8.out.law (only_turned t'.grown) HO8.out.ap.2.1 HO8.out.ge.1, HO8.out.del od o1 o2 o3 HP.out.nt.nw.inv.2.2.1 o' t'.grown⟩
                  clear od o1 o2 o3
                  go_wp2_with (at_delete; refine wpList_delete_own _ rfl _ _ 55 29 rfl 33 kdG Try.underlying55 _ s N D rfl HOD.out _ (KU sn) rfl HKEY.out ?_; intro w5 o5 t5; have HN9 := Lib.hid (HF.out w5 o5 t5).1; have HO9 := Lib.hid (HF.out w5 o5 t5).2; clear o5 t5 y3)
                  go_meet
                  exact OnEnd.of HN9.out HO9.out ⟨by have := rem_len L sn; have := HB.out.1; omega, by have := HB.out.2.1; omega, by have := HB.out.2.2; omega⟩
                | false =>
                  go_upto_region 37 with (go_at_call 17; ((with_reducible refine Calls.mono HDR.out ?_); rintro e w7 ⟨rfl, hn7, ho7⟩; (try dsimp only); have HN7 := Lib.hid hn7; have HO7 := Lib.hid (HP.out.om.onN ho7); have HS7 := Lib.hid (blk_onN HS.out HP.out.nt (by decide) ho7); clear hn7 ho7))
                  clear z0 z1 z2 z3 z4 z5 z6 HS HDR
                  have y3 : w7.cell? ⟨Q, 3, none⟩ = some (.int .u64 sn) := by rw [HS7.out.cell 3]; rfl
                  have hlk := HO7.out.sent HU.out.1 HTG.out
                  unfold gv at hlk
                  dsimp only at hlk
                  go_upto_region 40 with fail
                  have HN8 := Lib.hid (HN7.out.alloc (.cells #[.int .u64 gi, .int .i64 gf, .int .i64 gt, .string gx] 33))
                  have HO8 := Lib.hid (HO7.out.below ((Below.refl _ _).alloc (Nat.le_refl _) (.cells #[.int .u64 gi, .int .i64 gf, .int .i64 gt, .string gx] 33)))
                  have HS8 := Lib.hid (HS7.out.alloc (.cells #[.int .u64 gi, .int .i64 gf, .int .i64 gt, .string gx] 33))
                  clear y3 hlk HN7 HO7 HS7
                  generalize w7.alloc (.cells #[.int .u64 gi, .int .i64 gf, .int .i64 gt, .string gx] 33) = w8 at *
                  have y3 : w8.cell? ⟨Q, 3, none⟩ = some (.int .u64 sn) := by rw [HS8.out.cell 3]; rfl
                  obtain ⟨D, od, o1, o2, o3⟩ := HO8.out.gm
                  have HOD := Lib.hid od
                  have HKEY := Lib.hid (keyG HU.out.1)
                  have HF : Hid (∀ w5, w5.ownsMap Try.prog 29 gramE s N (D.del (KU sn)) → (w8).mapTurned w5 s → NT W w5 b h c last (rem L sn) C N ∧ OM W w5 b h c s q (rem L sn) C N) := Lib.hid fun w5 o' t' =>
                    ⟨HN8.out.law (only_turned t'.grown) HO8.out.ap.2.1 HO8.out.ge.1, HO8.out.del od o1 o2 o3 HP.out.nt.nw.inv.2.2.1 o' t'.grown⟩
                  clear od o1 o2 o3
                  go_wp2_with (at_delete; refine wpList_delete_own _ rfl _ _ 55 29 rfl 33 kdG Try.underlying55 _ s N D rfl HOD.out _ (KU sn) rfl HKEY.out ?_; intro w5 o5 t5; have HN9 := Lib.hid (HF.out w5 o5 t5).1; have HO9 := Lib.hid (HF.out w5 o5 t5).2; clear o5 t5 y3)
                  go_meet
                  exact OnEnd.of HN9.out HO9.out ⟨by have := rem_len L sn; have := HB.out.1; omega, by have := HB.out.2.1; omega, by have := HB.out.2.2; omega⟩
            by_cases hd3 : sd = 3
            · subst hd3
              clear hd0 hd1 hd2
              as_aux_lemma =>
                have HTK := Lib.hid (nt_double HP.out.nt HU.out.1 (by have h1 := HB.out.2.1; have h3 := HI150.out; omega) (by have h2 := HB.out.2.2; have h3 := HI150.out; omega) rfl)
                obtain ⟨tr, htr⟩ : ∃ t, dblG last L sn = t := ⟨_, rfl⟩
                obtain ⟨tg, htg⟩ : ∃ t, sentG L sn = t := ⟨_, rfl⟩
                have HCASE : Hid ((tr = (0, 5, last, L, 0)) ∨ (tr = (0, 6, last, L, 0)) ∨ ∃ g, tr = (last + 1, 0, last + 1, L ++ [{ g with id := last + 1 }], 1) ∧ tg = (g, true) ∧ L.length < 4096) := Lib.hid (by
                  subst htr htg
                  unfold dblG sentG
                  cases hf : L.find? (fun g => g.id == sn) with
                  | none => exact .inl rfl
                  | some g =>
                    dsimp only
                    by_cases hl : 4096 ≤ L.length
                    · rw [if_pos hl]; exact .inr (.inl rfl)
                    · rw [if_neg hl]; exact .inr (.inr ⟨g, rfl, rfl, by omega⟩))
                rw [htr] at HTK
                have HTG := Lib.hid htg
                clear htr htg
                rcases HCASE.out with rfl | rfl | ⟨⟨gi, gf, gt, gx⟩, rfl, rfl, hfl⟩
                · skip
                  go_wp2_with (go_at_call 10; ((with_reducible refine Calls.mono HTK.out ?_); rintro e w7 ⟨rfl, hn7, ho7⟩; (try dsimp only); have HN7 := Lib.hid hn7; have HO7 := Lib.hid (HP.out.om.onN ho7); clear hn7 ho7))
                  go_meet
                  exact OnEnd.of HN7.out HO7.out ⟨HB.out.1, by have := HB.out.2.1; omega, by have := HB.out.2.2; omega⟩
                · skip
                  go_wp2_with (go_at_call 10; ((with_reducible refine Calls.mono HTK.out ?_); rintro e w7 ⟨rfl, hn7, ho7⟩; (try dsimp only); have HN7 := Lib.hid hn7; have HO7 := Lib.hid (HP.out.om.onN ho7); clear hn7 ho7))
                  go_meet
                  exact OnEnd.of HN7.out HO7.out ⟨HB.out.1, by have := HB.out.2.1; omega, by have := HB.out.2.2; omega⟩
                · skip
                  have HFL := Lib.hid hfl
                  clear hfl
                  go_upto_region 44 with (go_at_call 10; ((with_reducible refine Calls.mono HTK.out ?_); rintro e w7 ⟨rfl, hn7, ho7⟩; (try dsimp only); have HN7 : Hid (NT W w7 b h c (last + 1) (L ++ [⟨last + 1, gf, gt, gx⟩]) C (N + 1)) := Lib.hid hn7; have HO7 := Lib.hid (HP.out.om.onN ho7); have HS7 := Lib.hid (blk_onN HS.out HP.out.nt (by decide) ho7); clear hn7 ho7))
                  clear z0 z1 z2 z3 z4 z5 z6 HS HTK
                  have y3 : w7.cell? ⟨Q, 3, none⟩ = some (.int .u64 sn) := by rw [HS7.out.cell 3]; rfl
                  have hlk := HO7.out.sent HU.out.1 HTG.out
                  unfold gv at hlk
                  dsimp only at hlk
                  go_upto_region 45 with fail
                  have HN8 := Lib.hid (HN7.out.alloc (.cells #[.int .u64 gi, .int .i64 gf, .int .i64 gt, .string gx] 33))
                  have HO8 := Lib.hid (HO7.out.below ((Below.refl _ _).alloc (Nat.le_refl _) (.cells #[.int .u64 gi, .int .i64 gf, .int .i64 gt, .string gx] 33)))
                  have HZ8 := Lib.hid (Blk.new w7 33 #[.int .u64 gi, .int .i64 gf, .int .i64 gt, .string gx])
                  have HZN : Hid (¬ (w7.heap.size = b ∨ w7.heap.size = h ∨ w7.heap.size = c) ∧ w7.heap.size ≠ s ∧ w7.heap.size ≠ q ∧ W.heap.size ≤ w7.heap.size) := Lib.hid (by have h1 := HN7.out.nw.blk.lt; have h2 := HN7.out.nw.gm.lt; have h3 := HN7.out.nw.cm.lt; have h4 := HO7.out.gm.lt; have h5 := HO7.out.vm.lt; have h6 := HN7.out.bel.size; omega)
                  clear y3 hlk HN7 HO7 HS7
                  generalize w7.alloc (.cells #[.int .u64 gi, .int .i64 gf, .int .i64 gt, .string gx] 33) = w8 at *
                  generalize w7.heap.size = Z at *
                  have hinv := HP.out.nt.nw.inv
                  have eu : IntKind.u64.wrap (last + 1) = last + 1 := by have h1 := hinv.1; have h2 := HB.out.2.1; have h3 := HI150.out; rw [IntKind.wrap_u64]; omega
                  have HKEY : Hid (keyOf Try.prog 29 (.int .u64 (last + 1)) = some (KU (last + 1))) := Lib.hid (keyG (by have h1 := hinv.1; have h2 := HB.out.2.1; have h3 := HI150.out; unfold U64; omega))
                  have HFR := Lib.hid (inv_fresh hinv)
                  have b0 : w8.cell? ⟨Z, 0, none⟩ = some (.int .u64 gi) := by rw [HZ8.out.cell 0]; rfl
                  have b0f := HZ8.out.frozen
                  have HW9 := Lib.hid ((Only.refl (· = Z) w8).set1 (o := 0) (v := .int .u64 (last + 1)))
                  have HZ9 := Lib.hid (show Blk (w8.setCell ⟨Z, 0, none⟩ (.int .u64 (last + 1))) Z 33 #[.int .u64 (last + 1), .int .i64 gf, .int .i64 gt, .string gx] from HZ8.out.set 0 _)
                  have HN9 := Lib.hid (HN8.out.law HW9.out HZN.out.1 HZN.out.2.2.2)
                  have HO9 := Lib.hid (HO8.out.only HW9.out (fun e => HZN.out.2.1 e.symm) (fun e => HZN.out.2.2.1 e.symm))
                  clear hinv
                  go_upto_region 49 with fail
                  clear b0 b0f eu HZ8 HN8 HO8 HW9
                  generalize w8.setCell ⟨Z, 0, none⟩ (.int .u64 (last + 1)) = w9 at *
                  have a0 : w9.cell? ⟨Z, 0, none⟩ = some (.int .u64 (last + 1)) := by rw [HZ9.out.cell 0]; rfl
                  have a1 : w9.cell? ⟨Z, 1, none⟩ = some (.int .i64 gf) := by rw [HZ9.out.cell 1]; rfl
                  have a2 : w9.cell? ⟨Z, 2, none⟩ = some (.int .i64 gt) := by rw [HZ9.out.cell 2]; rfl
                  have a3 : w9.cell? ⟨Z, 3, none⟩ = some (.string gx) := by rw [HZ9.out.cell 3]; rfl
                  obtain ⟨D, od, o1, o2, o3⟩ := HO9.out.gm
                  have HO := Lib.hid od
                  have HN : Hid (N < maxLen) := Lib.hid (by have h2 := HB.out.2.2; have h3 := HI150.out; unfold maxLen; omega)
                  have HF : Hid (∀ w5, w5.ownsMap Try.prog 29 gramE s (N + 1) (D.put (KU (last + 1)) (gd ⟨last + 1, gf, gt, gx⟩)) → w9.grownBy w5 (some s) → OnEnd W b h c s q i (.int .u64 (last + 1)) w5) := Lib.hid fun w5 o' g' => by
                    have hm := HO9.out.put od o1 o2 o3 (g := ⟨last + 1, gf, gt, gx⟩) HFR.out o' g'
                    have hn := HN9.out.law (only_turned g') HO9.out.ap.2.1 HO9.out.ge.1
                    exact OnEnd.of hn hm ⟨by rw [List.length_append]; have := HFL.out; simp; omega, by have := HB.out.2.1; omega, by have := HB.out.2.2; omega⟩
                  clear od o1 o2 o3 HN9
                  go_wp2_with (at_mapUpdate; refine wpList_mapUpdate_own _ rfl _ _ _ 55 rfl 29 33 kdG Try.underlying55 _ s N D rfl HO.out HN.out _ (gv ⟨last + 1, gf, gt, gx⟩) (KU (last + 1)) rfl rfl HKEY.out (gd ⟨last + 1, gf, gt, gx⟩) [] (gramE_mk _) ?_; intro w5 o5 g5; have HR := Lib.hid (HF.out _ o5 g5); clear o5 g5 a0 a1 a2 a3)
                  go_meet
                  exact HR.out
            by_cases hd4 : sd = 4
            · subst hd4
              clear hd0 hd1 hd2 hd3
              as_aux_lemma =>
                cases hq : bad2 sa sb with
                | true =>
                  have HTK := Lib.hid (nt_cut HP.out.nt (by have h1 := HB.out.2.2; have h2 := HI150.out; omega) hq (r := (2, C, N)) rfl)
                  clear hq
                  go_wp2_with (go_at_call 20; ((with_reducible refine Calls.mono HTK.out ?_); rintro e w7 ⟨rfl, hn7, ho7⟩; (try dsimp only); have HN7 := Lib.hid hn7; have HO7 := Lib.hid (HP.out.om.onN ho7); clear hn7 ho7))
                  go_meet
                  exact OnEnd.of HN7.out HO7.out ⟨HB.out.1, by have := HB.out.2.1; omega, by have := HB.out.2.2; first | omega | (dsimp only; omega)⟩
                | false =>
                  have HTK := Lib.hid (nt_cut HP.out.nt (by have h1 := HB.out.2.2; have h2 := HI150.out; omega) hq (r := (0, cutC C sa sb, N + 1)) rfl)
                  have HXY := Lib.hid (i64_of_bad hq)
                  clear hq
                  go_upto_region 52 with (go_at_call 20; ((with_reducible refine Calls.mono HTK.out ?_); rintro e w7 ⟨rfl, hn7, ho7⟩; (try dsimp only); have HN7 := Lib.hid hn7; have HO7 := Lib.hid (HP.out.om.onN ho7); have HS7 := Lib.hid (blk_onN HS.out HP.out.nt (by decide) ho7); clear hn7 ho7))
                  clear z0 z1 z2 z3 z4 z5 z6 HS HTK
                  have y1 : w7.cell? ⟨Q, 1, none⟩ = some (.int .i64 sa) := by rw [HS7.out.cell 1]; rfl
                  have y2 : w7.cell? ⟨Q, 2, none⟩ = some (.int .i64 sb) := by rw [HS7.out.cell 2]; rfl
                  obtain ⟨D, od, o1⟩ := HO7.out.vm
                  have HO := Lib.hid od
                  have HKEY := Lib.hid (keyV HXY.out.1 HXY.out.2)
                  have HN : Hid (N < maxLen) := Lib.hid (by have h2 := HB.out.2.2; have h3 := HI150.out; unfold maxLen; omega)
                  have HF : Hid (∀ w5, w5.ownsMap Try.prog 59 (plainElem Try.prog 3) q (N + 1) (D.put (KW sa sb) (vi (Gr.cv true))) → w7.grownBy w5 (some q) → OnEnd W b h c s q i (.int .u64 last) w5) := Lib.hid fun w5 o' g' => by
                    have hoq := only_turned g'
                    have hm := HO7.out.way od o1 (z := true) HXY.out.1 HXY.out.2 o' g'
                    have hn := HN7.out.law hoq HO7.out.ap.2.2 HO7.out.ge.2
                    exact OnEnd.of (NT.mono hn (by first | exact Nat.le_refl _ | exact Nat.le_succ _)) hm ⟨HB.out.1, by have := HB.out.2.1; omega, by have := HB.out.2.2; omega⟩
                  clear od o1 HN7
                  go_wp2_with (at_mapUpdate; refine wpList_mapUpdate_own _ rfl _ _ _ 56 rfl 59 3 kdV Try.underlying56 _ q N D rfl HO.out HN.out _ _ (KW sa sb) rfl rfl HKEY.out (vi (Gr.cv true)) [] (plainElem_int Try.underlying3 (by decide)) ?_; intro w5 o5 g5; have HR := Lib.hid (HF.out _ o5 g5); clear o5 g5 y1 y2)
                  go_meet
                  exact HR.out
            by_cases hd5 : sd = 5
            · subst hd5
              clear hd0 hd1 hd2 hd3 hd4
              as_aux_lemma =>
                cases hq : bad2 sa sb with
                | true =>
                  have HTK := Lib.hid (nt_heal HP.out.nt hq (r := (2, C, N)) rfl)
                  clear hq
                  go_wp2_with (go_at_call 22; ((with_reducible refine Calls.mono HTK.out ?_); rintro e w7 ⟨rfl, hn7, ho7⟩; (try dsimp only); have HN7 := Lib.hid hn7; have HO7 := Lib.hid (HP.out.om.onN ho7); clear hn7 ho7))
                  go_meet
                  exact OnEnd.of HN7.out HO7.out ⟨HB.out.1, by have := HB.out.2.1; omega, by have := HB.out.2.2; first | omega | (dsimp only; omega)⟩
                | false =>
                  have HTK := Lib.hid (nt_heal HP.out.nt hq (r := (0, healC C sa sb, N)) rfl)
                  have HXY := Lib.hid (i64_of_bad hq)
                  clear hq
                  go_upto_region 55 with (go_at_call 22; ((with_reducible refine Calls.mono HTK.out ?_); rintro e w7 ⟨rfl, hn7, ho7⟩; (try dsimp only); have HN7 := Lib.hid hn7; have HO7 := Lib.hid (HP.out.om.onN ho7); have HS7 := Lib.hid (blk_onN HS.out HP.out.nt (by decide) ho7); clear hn7 ho7))
                  clear z0 z1 z2 z3 z4 z5 z6 HS HTK
                  have y1 : w7.cell? ⟨Q, 1, none⟩ = some (.int .i64 sa) := by rw [HS7.out.cell 1]; rfl
                  have y2 : w7.cell? ⟨Q, 2, none⟩ = some (.int .i64 sb) := by rw [HS7.out.cell 2]; rfl
                  obtain ⟨D, od, o1⟩ := HO7.out.vm
                  have HO := Lib.hid od
                  have HKEY := Lib.hid (keyV HXY.out.1 HXY.out.2)
                  have HN : Hid (N < maxLen) := Lib.hid (by have h2 := HB.out.2.2; have h3 := HI150.out; unfold maxLen; omega)
                  have HF : Hid (∀ w5, w5.ownsMap Try.prog 59 (plainElem Try.prog 3) q (N + 1) (D.put (KW sa sb) (vi (Gr.cv false))) → w7.grownBy w5 (some q) → OnEnd W b h c s q i (.int .u64 last) w5) := Lib.hid fun w5 o' g' => by
                    have hoq := only_turned g'
                    have hm := HO7.out.way od o1 (z := false) HXY.out.1 HXY.out.2 o' g'
                    have hn := HN7.out.law hoq HO7.out.ap.2.2 HO7.out.ge.2
                    exact OnEnd.of (NT.mono hn (by first | exact Nat.le_refl _ | exact Nat.le_succ _)) hm ⟨HB.out.1, by have := HB.out.2.1; omega, by have := HB.out.2.2; omega⟩
                  clear od o1 HN7
                  go_wp2_with (at_mapUpdate; refine wpList_mapUpdate_own _ rfl _ _ _ 56 rfl 59 3 kdV Try.underlying56 _ q N D rfl HO.out HN.out _ _ (KW sa sb) rfl rfl HKEY.out (vi (Gr.cv false)) [] (plainElem_int Try.underlying3 (by decide)) ?_; intro w5 o5 g5; have HR := Lib.hid (HF.out _ o5 g5); clear o5 g5 y1 y2)
                  go_meet
                  exact HR.out
            have e0 : (sd == 0) = false := by simpa using hd0
            have e1 : (sd == 1) = false := by simpa using hd1
            have e2 : (sd == 2) = false := by simpa using hd2
            have e3 : (sd == 3) = false := by simpa using hd3
            have e4 : (sd == 4) = false := by simpa using hd4
            have e5 : (sd == 5) = false := by simpa using hd5
            have HPN : Hid (OnEnd W b h c s q i (.int .u64 last) X) := Lib.hid (OnEnd.of HP.out.nt HP.out.om ⟨HB.out.1, by have := HB.out.2.1; omega, by have := HB.out.2.2; omega⟩)
            clear hd0 hd1 hd2 hd3 hd4 hd5
            go_wp2_with fail
            go_meet
            exact HPN.out
          case rest =>
            clear HP HS HB hg
            obtain ⟨last', rfl, hox⟩ := hcut
            as_aux_lemma =>
              obtain ⟨L', C', N', hp, hb⟩ := hox
              have HP := Lib.hid hp
              have HB := Lib.hid hb
              have HLST := Lib.hid (nt_list hp.nt (by have := hb.1; omega))
              clear hp hb
              go_wp2_with (first
                | (go_at_call 12; ((with_reducible refine Calls.mono HLST.out ?_); rintro e w5 ⟨v5, rfl, hrow5, hn5, hb5⟩; obtain ⟨p5, c5, rfl⟩ := owns_slice hrow5; have HP5 := Lib.hid (HP.out.below hb5); obtain ⟨D, od, o1, o2, o3⟩ := HP5.out.gm; have HO := Lib.hid od; have hlen : ((Maps.size D : Nat) : Int) = (L'.length : Int) := (by rw [o3]); clear hrow5 hn5 hb5 od o1 o2 o3))
                | (at_len; refine wpList_len_own _ rfl _ 55 rfl 29 33 Try.underlying55 _ s N' D rfl HO.out ?_; rw [hlen]))
              go_roundw
              case rel => first | exact ⟨i + 1, last', HIN.out, rfl, rfl, L', C', N', HP5.out, HB.out⟩ | (rw [HE.out]; exact ⟨i + 1, last', HIN.out, rfl, rfl, L', C', N', HP5.out, HB.out⟩)
              case measure => have := HIN.out; first | (simp [intOf]; omega) | (rw [HE.out]; simp [intOf]; omega)
        · obtain rfl : i = n := by have := HI.out; omega
          have hin' : ¬ (i : Int) < (i : Int) := by omega
          have HBL : Hid (Below W.heap.size W wr) := Lib.hid (by obtain ⟨L, C, N, p, _⟩ := HPX.out; exact p.nt.bel)
          clear hin
          go_wp2_with (go_at_call 13; ((with_reducible refine Calls.mono (works_t _) ?_); rintro e w9 ⟨rfl, hb9⟩))
          go_ret
          exact ⟨rfl, HBL.out.step hb9⟩
theorem gonce_open {H : Type} {enc : TypeId × Value → H} {W : World} {base : Nat} {held : Bool} {r : Reach} {b0 : Nat} {d : DataW H} {ps : List MemPlace} {v : Value}
    (hval : Value.okWide Try.prog W r b0 40 v) (hd : DataW.Trod enc Try.prog W base (fun _ => true) held 40 v d ps) (_ : ∀ x ∈ ps, x.block < W.heap.size) :
    Calls Try.prog 5 #[v] W fun e w' => e = .returned (.bool true) ∧ Below W.heap.size W w' := by
  obtain ⟨n, sx, h⟩ := open_scriptG hval hd
  exact gonce_law h
end Go.Proofs.Ytfjadphgjjlhiaa
