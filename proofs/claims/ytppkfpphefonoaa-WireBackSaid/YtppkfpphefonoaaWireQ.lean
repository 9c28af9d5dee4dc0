/- Texts' bytes tell the texts: the law's walk. No condition. -/
import Derived.Test.YtppkfpphefonoaaWireM
import Derived.Test.YtppkfpphefonoaaWireP
import Derived.Deep.CutBlock
namespace Go.Proofs.Ytppkfpphefonoaa
open Go.RowKit Wire
set_option linter.unusedVariables false
def ApRel (x y : Nat → ByteArray) (n1 n2 : Nat) (W : World) (u : Value) (wr : World) : Prop :=
  ∃ i : Nat, i ≤ n1 ∧ i ≤ n2 ∧ u = .int .i64 i ∧ Below W.heap.size W wr ∧ ∀ j, j < i → x j = y j
def SzRel (x : Nat → ByteArray) (n : Nat) (W : World) (u : Value) (wr : World) : Prop := ∃ i : Nat, i ≤ n ∧ u = .int .i64 i ∧ Below W.heap.size W wr ∧ ∀ j, j < i → (x j).size ≤ 1024
theorem toList_inj {s t : ByteArray} (h : s.toList = t.toList) : s = t := by
  rw [ByteArray.toList_eq, ByteArray.toList_eq] at h; exact ba_inj h
theorem bdrewN {B : Nat} {w w' : World} (h : Below B w w') (n : Nat) : Below B w (w'.drewN n) := ⟨h.os, h.tape, h.output, h.size, h.block⟩
set_option maxRecDepth 100000 in
set_option maxHeartbeats 4000000 in
theorem wapart_run (W : World) {n1 n2 : Nat} {x y : Nat → ByteArray} {v1 v2 : Value} (h1 : Slic W v1 n1 fun i => .string (x i)) (h2 : Slic W v2 n2 fun i => .string (y i)) (hn1 : n1 ≤ 60) (hn2 : n2 ≤ 60) :
    Calls Try.prog 8 #[v1, v2] W fun e w' => e = .returned (.bool true) ∧ Below W.heap.size W w' := by
  have H1 := Lib.hid h1
  have H2 := Lib.hid h2
  obtain ⟨p1, cap1, rfl, hS1⟩ := h1
  obtain ⟨p2, cap2, rfl, hS2⟩ := h2
  have HS1 := Lib.hid hS1
  have HS2 := Lib.hid hS2
  have hrfl := Below.refl W.heap.size W
  clear hS1 hS2
  go_enter Try.func8, Try.ntmps8
  go_upto_block 0 with fail
  go_cut [6] (fun u wc => ApRel x y n1 n2 W u wc ∧ ∀ k : Nat, u = .int .i64 k → k < n1 ∧ k < n2 → x k ≠ y k)
  case first => as_aux_lemma =>
    go_wp2_with fail
    go_loopw [6] (fun u wr => ApRel x y n1 n2 W u wr) (fun u _ => ((n1 : Int) - intOf u).toNat)
    case atStart => exact ⟨0, by omega, by omega, rfl, hrfl, fun j hj => by omega⟩
    case round =>
      obtain ⟨k, hk1, hk2, rfl, hb, he⟩ := hrel
      have HB := Lib.hid hb
      have HE := Lib.hid he
      by_cases ha : k < n1
      · obtain ⟨g1, off1, rfl, hg1, hx1⟩ := HS1.out (by omega)
        have c1 : wr.cell? ⟨g1, off1 + k, none⟩ = some (.string (x k)) := by rw [hb.cell hg1]; exact hx1 k ha
        have ha' : decide ((k : Int) < (n1 : Int)) = true := by simp; omega
        by_cases hc : k < n2
        · obtain ⟨g2, off2, rfl, hg2, hx2⟩ := HS2.out (by omega)
          have c2 : wr.cell? ⟨g2, off2 + k, none⟩ = some (.string (y k)) := by rw [hb.cell hg2]; exact hx2 k hc
          have hc' : decide ((k : Int) < (n2 : Int)) = true := by simp; omega
          clear hb he hx1 hx2 H1 H2 HS1 HS2
          have ha2 : ((k : Int) < (n1 : Int)) := by omega
          have hc2 : ((k : Int) < (n2 : Int)) := by omega
          cases hxy : ((x k).toList == (y k).toList) with
          | true =>
            go_wp2_with fail
            go_quiet (fail)
            go_wp2_with fail
            go_roundw
            case rel => exact ⟨k + 1, by omega, by omega, rfl, bdrewN HB.out nq, fun j hj => by
              by_cases e : j = k
              · subst e; exact toList_inj (by simpa using hxy)
              · exact HE.out j (by omega)⟩
            case measure => simp [intOf]; omega
          | false =>
            go_wp2_with fail
            go_quiet (fail)
            go_wp2_with fail
            go_meet
            exact ⟨⟨k, hk1, hk2, rfl, bdrewN HB.out nq, HE.out⟩, fun k' e _ hh => by
              have : k' = k := by injection e with _ e; omega
              subst this
              rw [hh] at hxy
              simp at hxy⟩
        · have hc' : decide ((k : Int) < (n2 : Int)) = false := by simp; omega
          clear hb he hx1 H1 H2 HS1 HS2
          have ha2 : ((k : Int) < (n1 : Int)) := by omega
          have hc2 : ¬ ((k : Int) < (n2 : Int)) := by omega
          go_wp2_with fail
          go_quiet (fail)
          go_wp2_with fail
          go_meet
          exact ⟨⟨k, hk1, hk2, rfl, bdrewN HB.out nq, HE.out⟩, fun k' e h _ => by
            have : k' = k := by injection e with _ e; omega
            subst this; exact hc h.2⟩
      · have ha' : decide ((k : Int) < (n1 : Int)) = false := by simp; omega
        clear hb he H1 H2 HS1 HS2
        have ha2 : ¬ ((k : Int) < (n1 : Int)) := by omega
        go_wp2_with fail
        go_quiet (fail)
        go_wp2_with fail
        go_meet
        exact ⟨⟨k, hk1, hk2, rfl, bdrewN HB.out nq, HE.out⟩, fun k' e h _ => by
          have : k' = k := by injection e with _ e; omega
          subst this; exact ha h.1⟩
  case rest => as_aux_lemma =>
    obtain ⟨⟨k, hk1, hk2, rfl, hb0, he⟩, hd⟩ := hcut
    have HE := Lib.hid he
    have HD := Lib.hid (hd k rfl)
    have hb1 := hb0
    clear hb0 he hd
    go_upto_region 7 with fail
    generalize hq : ((n1 : Int) == (n2 : Int)) = q5
    go_cut [5] (fun v wd => v = .bool (decide (n1 = n2 ∧ k = n1)) ∧ wd = wc)
    case first =>
      clear HS1 HS2 H1 H2
      cases q5 with
      | true =>
        have hnn : n1 = n2 := by simp at hq; omega
        clear hq
        by_cases hkn : k = n1
        · have hk' : ((k : Int) == (n1 : Int)) = true := by simp [hkn]
          go_wp2_with fail
          all_goals go_meet
          all_goals exact ⟨by simp [hnn, hkn], rfl⟩
        · have hk' : ((k : Int) == (n1 : Int)) = false := by simp; omega
          go_wp2_with fail
          all_goals go_meet
          all_goals exact ⟨by simp [hkn]; omega, rfl⟩
      | false =>
        have hnn : ¬ n1 = n2 := by simp at hq; omega
        clear hq
        go_wp2_with fail
        all_goals go_meet
        all_goals exact ⟨by simp [hnn], rfl⟩
    case rest =>
    obtain ⟨rfl, rfl⟩ := hcut
    generalize hds : decide (n1 = n2 ∧ k = n1) = ds
    go_wp2_with fail
    go_loopw [7] (fun u wr => SzRel x n1 W u wr) (fun u _ => ((n1 : Int) - intOf u).toNat)
    case atStart => exact ⟨0, by omega, rfl, hb1, fun j hj => by omega⟩
    case round =>
      obtain ⟨i, hi1, rfl, hb, hsm⟩ := hrel
      have HB := Lib.hid hb
      have HSM := Lib.hid hsm
      by_cases hi : i < n1
      · obtain ⟨g0, off, rfl, hg, hx⟩ := HS1.out (by omega)
        have x0 : wr.cell? ⟨g0, off + i, none⟩ = some (.string (x i)) := by rw [hb.cell hg]; exact hx i hi
        by_cases hbig : (x i).size ≤ 1024
        · clear hx hb hsm
          go_wp2
          go_roundw
          case rel => exact ⟨i + 1, by omega, rfl, HB.out, fun j hj => by
            by_cases e : j = i
            · subst e; exact hbig
            · exact HSM.out j (by omega)⟩
          case measure => simp [intOf]; omega
        · have hbig' : 1024 < (x i).size := by omega
          clear hx hb hsm hbig
          go_wp2_with (go_at_call 26; ((with_reducible refine (alive_any _).mono ?_); rintro e w9 ⟨rfl, hb9⟩))
          go_ret
          exact ⟨rfl, HB.out.trans (hb9.mono HB.out.size)⟩
      · have : n1 = i := by omega
        subst this
        have HX := Lib.hid hsm
        have hb2 := hb
        clear hb hsm HSM HB HS1 hi hi1 hb1
        go_wp2_with fail
        go_loopw [8] (fun u wr => SzRel y n2 W u wr) (fun u _ => ((n2 : Int) - intOf u).toNat)
        case atStart => exact ⟨0, by omega, rfl, hb2, fun j hj => by omega⟩
        case round =>
          obtain ⟨i, hi1, rfl, hb, hsm⟩ := hrel
          have HB := Lib.hid hb
          have HSM := Lib.hid hsm
          by_cases hi : i < n2
          · obtain ⟨g0, off, rfl, hg, hx⟩ := HS2.out (by omega)
            have x0 : wr.cell? ⟨g0, off + i, none⟩ = some (.string (y i)) := by rw [hb.cell hg]; exact hx i hi
            by_cases hbig : (y i).size ≤ 1024
            · clear hx hb hsm
              go_wp2
              go_roundw
              case rel => exact ⟨i + 1, by omega, rfl, HB.out, fun j hj => by
                by_cases e : j = i
                · subst e; exact hbig
                · exact HSM.out j (by omega)⟩
              case measure => simp [intOf]; omega
            · have hbig' : 1024 < (y i).size := by omega
              clear hx hb hsm hbig
              go_wp2_with (go_at_call 26; ((with_reducible refine (alive_any _).mono ?_); rintro e w9 ⟨rfl, hb9⟩))
              go_ret
              exact ⟨rfl, HB.out.trans (hb9.mono HB.out.size)⟩
          · have : n2 = i := by omega
            subst this
            have HY := Lib.hid hsm
            have HBB := Lib.hid hb
            clear hb hsm HSM HB HS2 hi hi1 hb2
            have FF := Lib.hid (apart_facts hk1 hk2 HE.out HD.out (fun i hi => by have := HX.out i hi; omega) (fun i hi => by have := HY.out i hi; omega))
            have l1 := text_cat (x := x) (fun i hi => by have := HX.out i hi; omega)
            have l2 := text_cat (x := y) (fun i hi => by have := HY.out i hi; omega)
            have T1 := Lib.hid (alls (texts_any (H1.out.grow HBB.out) (by omega) (fun i hi => by have := HX.out i hi; omega) (by omega)))
            have z1 := catS_size (fun i => textS (x i)) n1
            have z2 := catS_size (fun i => textS (y i)) n2
            have hfit1 : (catS (fun i => textS (x i)) n1).size ≤ 140737488355328 := by omega
            have hfit2 : (catS (fun i => textS (y i)) n2).size ≤ 140737488355328 := by omega
            have EP := Lib.hid (fun h => ext_prefix (s := catS (fun i => textS (x i)) n1) (t := catS (fun i => textS (y i)) n2) h)
            have T2 := Lib.hid (fun (w : World) (hb : Below W.heap.size W w) => alls (texts_any (H2.out.grow hb) (by omega) (fun i hi => by have := HY.out i hi; omega) (by omega)))
            clear l1 l2 z1 z2
            go_upto_region 20 with (first | (go_at_call 33; ((with_reducible refine T1.out.mono ?_); rintro e w1 ⟨rfl, b1⟩; have BB1 := Lib.hid (HBB.out.trans (b1.mono HBB.out.size)); have T3 := Lib.hid (T2.out _ BB1.out); clear b1)) | (go_at_call 33; ((with_reducible refine T3.out.mono ?_); rintro e w2 ⟨rfl, b2⟩; have BB2 := Lib.hid (BB1.out.trans (b2.mono BB1.out.size)); clear b2)))
            have F := FF.out
            clear FF T1 T2 T3 HX HY HE HD
            generalize catS (fun i => textS (x i)) n1 = s at *
            generalize catS (fun i => textS (y i)) n2 = t at *
            have HF := Lib.hid F
            clear F
            by_cases hkn : k = n1
            · have hpre := HF.out.2.2 hkn
              have hle : s.size ≤ t.size := by have := hpre.length_le; simpa using this
              have hext := (EP.out hle).2 hpre
              have hk' : ((k : Int) == (n1 : Int)) = true := by simp [hkn]
              have hle' : ((s.size : Int) ≤ (t.size : Int)) := by omega
              have hmin : (min (s.size : Int) (t.size : Int)).toNat = s.size := by omega
              have hext' : ((t.extract 0 (min (s.size : Int) (t.size : Int)).toNat).toList == s.toList) = true := by rw [hmin, hext]; simp
              clear hext hmin
              by_cases hnn : n1 = n2
              · have e : s = t := HF.out.1.2 ⟨hnn, hkn⟩
                have hd : true = ds := by rw [← hds]; simp [hnn, hkn]
                subst hd
                subst e
                have hn' : ((k : Int) = (n1 : Int)) := by omega
                clear hds hpre EP hkn hnn hq
                go_wp2_with (go_at_call 26; ((with_reducible refine (alive_any _).mono ?_); rintro e w9 ⟨rfl, hb9⟩))
                go_ret
                exact ⟨rfl, BB2.out.trans (hb9.mono BB2.out.size)⟩
              · have hne : (s.toList == t.toList) = false := by
                  have : ¬ s = t := fun e => hnn (HF.out.1.1 e).1
                  simp; exact fun e => this (toList_inj e)
                have hd : false = ds := by rw [← hds]; simp [hnn]
                subst hd
                have hn' : ((k : Int) = (n1 : Int)) := by omega
                clear hds hpre EP hkn hnn hq
                go_wp2_with (go_at_call 26; ((with_reducible refine (alive_any _).mono ?_); rintro e w9 ⟨rfl, hb9⟩))
                go_ret
                exact ⟨rfl, BB2.out.trans (hb9.mono BB2.out.size)⟩
            · have hne : (s.toList == t.toList) = false := by
                have : ¬ s = t := fun e => hkn (HF.out.1.1 e).2
                simp; exact fun e => this (toList_inj e)
              have hd : false = ds := by rw [← hds]; simp [hkn]
              subst hd
              have hk' : ((k : Int) == (n1 : Int)) = false := by simp; omega
              have hn' : ¬ ((k : Int) = (n1 : Int)) := by omega
              by_cases hle : s.size ≤ t.size
              · have hext : ((t.extract 0 s.size).toList == s.toList) = false := by
                  have : ¬ t.extract 0 s.size = s := fun e => hkn (HF.out.2.1 ((EP.out hle).1 e))
                  simp; exact fun e => this (toList_inj e)
                have hle' : ((s.size : Int) ≤ (t.size : Int)) := by omega
                have hmin : (min (s.size : Int) (t.size : Int)).toNat = s.size := by omega
                have hext' : ((t.extract 0 (min (s.size : Int) (t.size : Int)).toNat).toList == s.toList) = false := by rw [hmin]; exact hext
                clear hds EP hkn hq hext hmin
                go_wp2_with (go_at_call 26; ((with_reducible refine (alive_any _).mono ?_); rintro e w9 ⟨rfl, hb9⟩))
                go_ret
                exact ⟨rfl, BB2.out.trans (hb9.mono BB2.out.size)⟩
              · have hle' : ((t.size : Int) < (s.size : Int)) := by omega
                have hle2 : decide ((s.size : Int) ≤ (t.size : Int)) = false := by simp; omega
                clear hds EP hkn hq hle
                go_wp2_with (go_at_call 26; ((with_reducible refine (alive_any _).mono ?_); rintro e w9 ⟨rfl, hb9⟩))
                go_ret
                exact ⟨rfl, BB2.out.trans (hb9.mono BB2.out.size)⟩
end Go.Proofs.Ytppkfpphefonoaa
