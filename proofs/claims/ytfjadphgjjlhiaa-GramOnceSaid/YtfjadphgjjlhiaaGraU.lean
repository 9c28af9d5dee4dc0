
/- The walks of the document's net's Heal and Ready; 'same' at the same ones. No condition but that the rows are not too long. -/
import Derived.Test.YtfjadphgjjlhiaaGraT
namespace Go.Proofs.Ytfjadphgjjlhiaa
open Go.RowKit Go.Maps Gr Sok
set_option linter.unusedVariables false
set_option linter.unusedSimpArgs false
namespace Gr
def heaL (Cs : List (Int × Int)) (x y : Int) : List (Int × Int) := Cs.filter fun p => !(p.1 == x && p.2 == y)
theorem heaL_take {Cs : List (Int × Int)} {x y : Int} {i : Nat} (h : i < Cs.length) : heaL (Cs.take (i + 1)) x y = heaL (Cs.take i) x y ++ (if (Cs[i].1 == x && Cs[i].2 == y) then [] else [Cs[i]]) := by
  unfold heaL; rw [List.take_succ_eq_append_getElem h, List.filter_append]
  congr 1
  rw [List.filter_cons, List.filter_nil]
  cases hc : (Cs[i].1 == x && Cs[i].2 == y) <;> rfl
theorem heaL_len (Cs : List (Int × Int)) (x y : Int) : (heaL Cs x y).length ≤ Cs.length := by unfold heaL; exact List.length_filter_le _ _
theorem rowsC_snoc (l : List (Int × Int)) (p : Int × Int) : rowsC (l ++ [p]) = rowsC l ++ ccells p := by unfold rowsC; rw [List.flatMap_append]; simp
end Gr
def HlR (w : World) (Cs : List (Int × Int)) (x y : Int) (v u : Value) (wr : World) : Prop :=
  ∃ i : Nat, i ≤ Cs.length ∧ u = .int .i64 i ∧ wr.ownsRow w.heap.size 59 2 v (heaL (Cs.take i) x y).length (rowsC (heaL (Cs.take i) x y)) ∧ Below w.heap.size w wr
section
variable {w w' w1 : World} {B r : Nat} {vL vC : Value} {last : Int} {L : List G} {Cs : List (Int × Int)}
set_option maxRecDepth 100000 in
set_option maxHeartbeats 4000000 in
theorem rheal_any (h : RW w B r vL vC last L Cs) (hC : Cs.length ≤ 100000) {x y : Int} (hb : bad2 x y = false) :
    Calls Try.prog 23 #[.pointer (some ⟨r, 0, none⟩), .int .i64 x, .int .i64 y] w (CutR w B r vL last L (0, heaL Cs x y)) := by
  have HR := Lib.hid h
  have H1 := Lib.hid (place_any x w)
  have H2 := Lib.hid (place_any y w)
  rw [(bad2_parts hb).1] at H1
  rw [(bad2_parts hb).2] at H2
  have HL := Lib.hid hC
  obtain ⟨⟨pL, cL, eL⟩, ⟨pC, cC, eC⟩⟩ := h.slices
  subst eL eC
  clear h hC hb
  go_enter Try.func23, Try.ntmps23
  go_upto_block 0 with (go_at_call 32; first | ((with_reducible refine H1.out.mono ?_); rintro e w2 ⟨rfl, rfl⟩) | ((with_reducible refine H2.out.mono ?_); rintro e w2 ⟨rfl, rfl⟩))
  have HZ : Hid (HlR w2 Cs x y (.slice none 0 0) (.int .i64 0) w2) := Lib.hid ⟨0, Nat.zero_le _, rfl, World.ownsRow_nil _ _ _ _, Below.refl _ _⟩
  go_cut [7] (fun v wc => HlR w2 Cs x y v (.int .i64 Cs.length) wc)
  case first =>
    go_wp2_with fail
    go_loopw [7, 8] (fun v u wr => HlR w2 Cs x y v u wr) (fun _ u _ => ((Cs.length : Int) - intOf u).toNat)
    case atStart => exact HZ.out
    case round =>
      clear HZ
      obtain ⟨i, hi, rfl, hown, hb⟩ := hrel
      have HOW := Lib.hid hown
      have HB2 := Lib.hid hb
      have HRR := Lib.hid (HR.out.below hb)
      have c2 := HRR.out.c2
      clear hown hb
      by_cases hil : i < Cs.length
      · have hil' : (i : Int) < (Cs.length : Int) := by omega
        have hi0 : (0 : Int) ≤ (i : Int) := by omega
        obtain ⟨g, cap, ev, _, hg, hgr, z0, z1⟩ := HRR.out.way hil
        injection ev with e1 e2 e3
        subst e1 e3
        have HT := Lib.hid (heaL_take (x := x) (y := y) hil)
        have HI := Lib.hid hil
        have HE : Hid (wrap64 ((i : Int) + 1) = ((i + 1 : Nat) : Int)) := Lib.hid (Sou.w64n rfl (by have := HL.out; omega))
        have HM : Hid ((heaL (Cs.take i) x y).length < 2147483648) := Lib.hid (by have := heaL_len (Cs.take i) x y; have h2 : (Cs.take i).length ≤ Cs.length := (by rw [List.length_take]; omega); have := HL.out; omega)
        clear e2 hi
        generalize Cs[i] = q at *
        clear hil
        obtain ⟨q1, q2⟩ := q
        dsimp only at HT z0 z1
        generalize heaL (Cs.take i) x y = S at *
        obtain ⟨S', hS'⟩ : ∃ S', heaL (Cs.take (i + 1)) x y = S' := ⟨_, rfl⟩
        have HT2 := Lib.hid hS'
        rw [hS'] at HT
        clear hS'
        obtain ⟨pv, cv, rfl⟩ := owns_slice HOW.out
        cases hq1 : (q1 == x) with
        | true =>
          cases hq2 : (q2 == y) with
          | true =>
            have HZ : Hid (HlR w2 Cs x y (.slice pv S.length cv) (.int .i64 ((i + 1 : Nat) : Int)) wr) := Lib.hid ⟨i + 1, HI.out, rfl, by rw [HT2.out, HT.out, hq1, hq2]; simpa using HOW.out, HB2.out⟩
            clear HT
            go_wp2_with fail
            go_roundw
            case rel => first | exact HZ.out | (rw [HE.out]; exact HZ.out)
            case measure => have := HI.out; first | (simp [intOf]; omega) | (rw [HE.out]; simp [intOf]; omega)
          | false =>
            have HT3 : Hid (S' = S ++ [(q1, q2)]) := Lib.hid (by rw [HT.out, hq1, hq2]; rfl)
            clear HT
            go_wp2_with (at_builtin; refine wpl_append_row2 (ys := ccells (q1, q2)) rfl rfl rfl rfl Try.underlying43 info_way rfl rfl rfl (by decide) (by decide) HOW.out HM.out HB2.out.size (by first | rfl | simp) ?_; intro v5 w5 h5 o5; have H5 := Lib.hid h5; have B5 := Lib.hid (HB2.out.trans (o5.below (B := w2.heap.size) HB2.out.size (fun k hk => (owns_type HOW.out hk).choose_spec.2.1))); obtain ⟨p5, c5, rfl⟩ := owns_slice h5; clear h5 o5)
            have HZ : Hid (HlR w2 Cs x y (.slice p5 (S.length + 1) c5) (.int .i64 ((i + 1 : Nat) : Int)) w5) := Lib.hid ⟨i + 1, HI.out, rfl, by rw [HT2.out, HT3.out, rowsC_snoc, List.length_append]; exact H5.out, B5.out⟩
            go_roundw
            case rel => first | exact HZ.out | (rw [HE.out]; exact HZ.out)
            case measure => have := HI.out; first | (simp [intOf]; omega) | (rw [HE.out]; simp [intOf]; omega)
        | false =>
          have HT3 : Hid (S' = S ++ [(q1, q2)]) := Lib.hid (by rw [HT.out, hq1]; rfl)
          clear HT
          go_wp2_with (at_builtin; refine wpl_append_row2 (ys := ccells (q1, q2)) rfl rfl rfl rfl Try.underlying43 info_way rfl rfl rfl (by decide) (by decide) HOW.out HM.out HB2.out.size (by first | rfl | simp) ?_; intro v5 w5 h5 o5; have H5 := Lib.hid h5; have B5 := Lib.hid (HB2.out.trans (o5.below (B := w2.heap.size) HB2.out.size (fun k hk => (owns_type HOW.out hk).choose_spec.2.1))); obtain ⟨p5, c5, rfl⟩ := owns_slice h5; clear h5 o5)
          have HZ : Hid (HlR w2 Cs x y (.slice p5 (S.length + 1) c5) (.int .i64 ((i + 1 : Nat) : Int)) w5) := Lib.hid ⟨i + 1, HI.out, rfl, by rw [HT2.out, HT3.out, rowsC_snoc, List.length_append]; exact H5.out, B5.out⟩
          go_roundw
          case rel => first | exact HZ.out | (rw [HE.out]; exact HZ.out)
          case measure => have := HI.out; first | (simp [intOf]; omega) | (rw [HE.out]; simp [intOf]; omega)
      · obtain rfl : i = Cs.length := by omega
        have hil' : ¬ ((Cs.length : Nat) : Int) < (Cs.length : Int) := by omega
        have HZ : Hid (HlR w2 Cs x y _ (.int .i64 Cs.length) wr) := Lib.hid ⟨Cs.length, Nat.le_refl _, rfl, HOW.out, HB2.out⟩
        clear hi hil
        go_wp2_with fail
        go_meet
        exact HZ.out
  case rest =>
    obtain ⟨i, hi, he, hown, hb⟩ := hcut
    obtain rfl : i = Cs.length := by injection he; omega
    rw [List.take_length] at hown
    have HRR := Lib.hid (HR.out.below hb)
    have HO := Lib.hid (owns_ge hown (show B ≤ w2.heap.size by have := HR.out.ge; have := HR.out.blk.lt; omega))
    have HB := Lib.hid hb
    obtain ⟨pv, cv, rfl⟩ := owns_slice hown
    have c2 := HRR.out.c2
    have f2 := HRR.out.blk.frozen 2
    clear hown hb hi he HZ
    go_wp2_with fail
    go_ret
    exact ⟨rfl, _, HRR.out.setC HO.out, OnR.trans (OnR.of_below HB.out) (OnR.of_r (Only.refl _ _).set1)⟩
def RdR (w : World) (C : Int → Int → Bool) (L : List G) (v u : Value) (wr : World) : Prop :=
  ∃ i : Nat, i ≤ L.length ∧ u = .int .i64 i ∧ wr.ownsRow w.heap.size 29 1 v (rdyL C (L.take i)).length ((rdyL C (L.take i)).map (Value.int .u64)) ∧ Below w.heap.size w wr
set_option maxRecDepth 100000 in
set_option maxHeartbeats 4000000 in
theorem rready_any (h : RW w B r vL vC last L Cs) (hL : L.length ≤ 100000) (hC : Cs.length ≤ 100000) :
    Calls Try.prog 25 #[.pointer (some ⟨r, 0, none⟩)] w (RyPost w (rdyL (cutL Cs) L)) := by
  have HR := Lib.hid h
  have HL := Lib.hid (And.intro hL hC)
  obtain ⟨⟨pL, cL, eL⟩, ⟨pC, cC, eC⟩⟩ := h.slices
  subst eL eC
  have HZ : Hid (RdR w (cutL Cs) L (.slice none 0 0) (.int .i64 0) w) := Lib.hid ⟨0, Nat.zero_le _, rfl, World.ownsRow_nil _ _ _ _, Below.refl _ _⟩
  clear h hL hC
  go_enter Try.func25, Try.ntmps25
  go_wp2_with fail
  go_loopw [3, 4] (fun v u wr => RdR w (cutL Cs) L v u wr) (fun _ u _ => ((L.length : Int) - intOf u).toNat)
  case atStart => exact HZ.out
  case round =>
    clear HZ
    obtain ⟨i, hi, rfl, hown, hb⟩ := hrel
    have HOW := Lib.hid hown
    have HB2 := Lib.hid hb
    have HRR := Lib.hid (HR.out.below hb)
    have c1 := HRR.out.c1
    clear hown hb
    by_cases hil : i < L.length
    · have hil' : (i : Int) < (L.length : Int) := by omega
      have hi0 : (0 : Int) ≤ (i : Int) := by omega
      obtain ⟨g, cap, ev, _, hg, hgr, z0, z1, z2, z3⟩ := HRR.out.gram hil
      injection ev with e1 e2 e3
      subst e1 e3
      have HT := Lib.hid (rdyL_take (C := cutL Cs) hil)
      have HI := Lib.hid hil
      have HE : Hid (wrap64 ((i : Int) + 1) = ((i + 1 : Nat) : Int)) := Lib.hid (Sou.w64n rfl (by have := HL.out; omega))
      have HM : Hid ((rdyL (cutL Cs) (L.take i)).length < 2147483648) := Lib.hid (by have := rdyL_len (cutL Cs) (L.take i); have h2 : (L.take i).length ≤ L.length := (by rw [List.length_take]; omega); have := HL.out; omega)
      clear e2 hi
      generalize L[i] = q at *
      clear hil
      obtain ⟨id, fr, tt, tx⟩ := q
      dsimp only at HT z0 z1 z2 z3
      generalize rdyL (cutL Cs) (L.take i) = S at *
      obtain ⟨S', hS'⟩ : ∃ S', rdyL (cutL Cs) (L.take (i + 1)) = S' := ⟨_, rfl⟩
      have HT2 := Lib.hid hS'
      rw [hS'] at HT
      clear hS'
      obtain ⟨pv, cv, rfl⟩ := owns_slice HOW.out
      have HCX := Lib.hid (fun W (hW : RW W B r (.slice (some ⟨g, 0, none⟩) L.length cL) (.slice pC Cs.length cC) last L Cs) => iscut_any hW HL.out.2 fr tt)
      have HCD := Lib.hid (HCX.out wr.drew HRR.out.drew)
      have HCE := Lib.hid (HCX.out wr HRR.out)
      clear HCX
      cases hcut : cutL Cs fr tt with
      | true =>
        rw [hcut] at HCD HCE HT
        go_upto_region 5 with fail
        refine Reg.wp_text (by kernel_rfl) (by kernel_rfl) ?_
        go_wp2_with (go_at_call 34; first | ((with_reducible refine HCD.out.mono ?_); rintro e w5 ⟨rfl, rfl⟩) | ((with_reducible refine HCE.out.mono ?_); rintro e w5 ⟨rfl, rfl⟩))
        refine Reg.fin (by kernel_rfl) ?_
        have HZ : Hid (RdR w (cutL Cs) L (.slice pv S.length cv) (.int .i64 ((i + 1 : Nat) : Int)) wr.drew) := Lib.hid ⟨i + 1, HI.out, rfl, by rw [HT2.out, HT.out]; simp only [if_true, List.append_nil]; exact HOW.out, HB2.out.drew⟩
        clear HT
        go_wp2_with fail
        go_roundw
        case rel => first | exact HZ.out | (rw [HE.out]; exact HZ.out)
        case measure => have := HI.out; first | (simp [intOf]; omega) | (rw [HE.out]; simp [intOf]; omega)
      | false =>
        rw [hcut] at HCD HCE HT
        have HT3 : Hid (S' = S ++ [id]) := Lib.hid (by rw [HT.out]; rfl)
        clear HT
        go_upto_region 5 with fail
        refine Reg.wp_text (by kernel_rfl) (by kernel_rfl) ?_
        go_wp2_with (go_at_call 34; first | ((with_reducible refine HCD.out.mono ?_); rintro e w5 ⟨rfl, rfl⟩) | ((with_reducible refine HCE.out.mono ?_); rintro e w5 ⟨rfl, rfl⟩))
        refine Reg.fin (by kernel_rfl) ?_
        have HO2 : Hid (wr.drew.ownsRow w.heap.size 29 1 (.slice pv S.length cv) S.length (S.map (Value.int .u64))) := Lib.hid HOW.out
        have HB3 := Lib.hid HB2.out.drew
        have d1 : wr.drew.cell? ⟨r, 1, none⟩ = some (.slice (some ⟨g, 0, none⟩) L.length cL) := c1
        have d0 : wr.drew.cell? ⟨g, i * 4, none⟩ = some (.int .u64 id) := z0
        clear HCD HCE HOW HB2 HRR c1 z0 z1 z2 z3 hg
        generalize wr.drew = Y at *
        go_wp2_with (at_builtin; refine wpl_append_row2 (ys := [.int .u64 id]) rfl rfl rfl rfl Try.underlying52 info_u1 rfl rfl rfl (by decide) (by decide) HO2.out HM.out HB3.out.size (by first | rfl | simp) ?_; intro v5 w5 h5 o5; have H5 := Lib.hid h5; have B5 := Lib.hid (HB3.out.trans (o5.below (B := w.heap.size) HB3.out.size (fun k hk => (owns_type HO2.out hk).choose_spec.2.1))); obtain ⟨p5, c5, rfl⟩ := owns_slice h5; clear h5 o5)
        have HZ : Hid (RdR w (cutL Cs) L (.slice p5 (S.length + 1) c5) (.int .i64 ((i + 1 : Nat) : Int)) w5) := Lib.hid ⟨i + 1, HI.out, rfl, by rw [HT2.out, HT3.out]; simpa using H5.out, B5.out⟩
        go_roundw
        case rel => first | exact HZ.out | (rw [HE.out]; exact HZ.out)
        case measure => have := HI.out; first | (simp [intOf]; omega) | (rw [HE.out]; simp [intOf]; omega)
    · obtain rfl : i = L.length := by omega
      have hil' : ¬ ((L.length : Nat) : Int) < (L.length : Int) := by omega
      have HZ := Lib.hid (show wr.ownsRow w.heap.size 29 1 _ (rdyL (cutL Cs) L).length ((rdyL (cutL Cs) L).map (Value.int .u64)) by have := HOW.out; rwa [List.take_length] at this)
      clear hi hil
      go_wp2_with fail
      go_ret
      exact ⟨_, rfl, HZ.out, HB2.out⟩
/-- Rows of messages, read. -/
def GsAt (w : World) (v : Value) (L : List G) : Prop := ∃ p cap, v = .slice p L.length cap ∧ (0 < L.length → ∃ g, p = some ⟨g, 0, none⟩ ∧ g < w.heap.size ∧ ∀ i (h : i < L.length), w.cell? ⟨g, i * 4, none⟩ = some (.int .u64 L[i].id) ∧ w.cell? ⟨g, i * 4 + 1, none⟩ = some (.int .i64 L[i].fr) ∧ w.cell? ⟨g, i * 4 + 2, none⟩ = some (.int .i64 L[i].tt) ∧ w.cell? ⟨g, i * 4 + 3, none⟩ = some (.string L[i].tx))
theorem GsAt.of {v : Value} (h : w.ownsRow B 33 4 v L.length (rowsG L)) : GsAt w v L := by
  by_cases h0 : 0 < L.length
  · obtain ⟨g, cap, ev, hb, hg, _, hc⟩ := owns_cells h h0
    refine ⟨_, cap, ev, fun _ => ⟨g, rfl, hg, fun i hi => ?_⟩⟩
    have x0 : ∀ j, j < 4 → w.cell? ⟨g, i * 4 + j, none⟩ = (gcells L[i])[j]? := fun j hj => by
      rw [← flat_at gcells 4 gcells_len L i j hi hj]; exact hc (i * 4 + j) (by omega)
    exact ⟨x0 0 (by decide), x0 1 (by decide), x0 2 (by decide), x0 3 (by decide)⟩
  · obtain ⟨p, cap, e⟩ := owns_slice h
    exact ⟨p, cap, e, fun h => absurd h h0⟩
theorem below_drewN {B : Nat} {w w' : World} (h : Below B w w') (n : Nat) : Below B w (w'.drewN n) := ⟨h.os, h.tape, h.output, h.size, h.block⟩
theorem str_refl (a : ByteArray) : (a.toList == a.toList) = true := by simp
set_option maxRecDepth 100000 in
set_option maxHeartbeats 2000000 in
theorem sameG_t {v u : Value} (hv : GsAt w v L) (hu : GsAt w u L) (hl : L.length ≤ 100000) : Calls Try.prog 26 #[v, u] w fun e w' => e = .returned (.bool true) ∧ Below w.heap.size w w' := by
  obtain ⟨p1, c1, rfl, h1⟩ := hv
  obtain ⟨p2, c2, rfl, h2⟩ := hu
  have H1 := Lib.hid h1
  have H2 := Lib.hid h2
  have HL := Lib.hid hl
  clear h1 h2 hl
  go_enter Try.func26, Try.ntmps26
  go_wp2
  go_loopw [5] (fun u wr => ∃ i : Nat, i ≤ L.length ∧ u = .int .i64 i ∧ Below w.heap.size w wr) (fun u _ => ((L.length : Int) - intOf u).toNat)
  case atStart => exact ⟨0, by omega, rfl, Below.refl _ _⟩
  case round =>
    obtain ⟨k, hk1, rfl, hb⟩ := hrel
    by_cases hk : k < L.length
    · obtain ⟨g1, rfl, hg1, hx⟩ := H1.out (by omega)
      obtain ⟨g2, rfl, hg2, hy⟩ := H2.out (by omega)
      obtain ⟨x0, x1, x2, x3⟩ := hx k hk
      obtain ⟨y0, y1, y2, y3⟩ := hy k hk
      rw [← hb.cell (p := ⟨g1, _, none⟩) hg1] at x0 x1 x2 x3
      rw [← hb.cell (p := ⟨g2, _, none⟩) hg2] at y0 y1 y2 y3
      have hkk : (k : Int) < (L.length : Int) := by omega
      have hkk0 : (0 : Int) ≤ (k : Int) := by omega
      have HB := Lib.hid hb
      have HE : Hid (wrap64 ((k : Int) + 1) = ((k + 1 : Nat) : Int)) := Lib.hid (Sou.w64n rfl (by have := HL.out; omega))
      have HK := Lib.hid hk
      clear hx hy hb hk1
      generalize L[k] = z at *
      clear hk
      obtain ⟨id, fr, tt, tx⟩ := z
      dsimp only at x0 x1 x2 x3 y0 y1 y2 y3
      have hst := str_refl tx
      go_upto_region 6 with fail
      go_quiet (fail)
      go_wp2_with fail
      go_roundw
      case rel => first | exact ⟨k + 1, HK.out, rfl, below_drewN HB.out _⟩ | (rw [HE.out]; exact ⟨k + 1, HK.out, rfl, below_drewN HB.out _⟩)
      case measure => have := HK.out; first | (simp [intOf]; omega) | (rw [HE.out]; simp [intOf]; omega)
    · have : k = L.length := by omega
      subst this
      go_wp2
      go_ret
      exact ⟨rfl, hb⟩
end
end Go.Proofs.Ytfjadphgjjlhiaa
