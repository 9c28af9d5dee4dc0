
/- The walk of a net's Ready. No condition but that the net is one, and not too great. -/
import Derived.Test.YtfjadphgjjlhiaaGraH
namespace Go.Proofs.Ytfjadphgjjlhiaa
open Go.RowKit Go.Maps Gr Sok
set_option linter.unusedVariables false
set_option linter.unusedSimpArgs false
namespace Gr
def rdyL (C : Int → Int → Bool) (L : List G) : List Int := (L.filter fun g => !C g.fr g.tt).map (·.id)
theorem rdyL_take {C : Int → Int → Bool} {L : List G} {i : Nat} (h : i < L.length) : rdyL C (L.take (i + 1)) = rdyL C (L.take i) ++ (if C L[i].fr L[i].tt then [] else [L[i].id]) := by
  unfold rdyL; rw [List.take_succ_eq_append_getElem h, List.filter_append, List.map_append]
  cases hc : C L[i].fr L[i].tt <;> simp [hc]
theorem rdyL_len (C : Int → Int → Bool) (L : List G) : (rdyL C L).length ≤ L.length := by
  unfold rdyL; rw [List.length_map]; exact List.length_filter_le _ _
end Gr
theorem info_u1 : Info Try.prog 29 (.int .u64 0) 1 8 := by unfold Info; kernel_rfl
/-- A call that answers a row of numbers of its own. -/
def RyPost (w : World) (xs : List Int) (e : Ending) (w' : World) : Prop := ∃ v, e = .returned v ∧ w'.ownsRow w.heap.size 29 1 v xs.length (xs.map (Value.int .u64)) ∧ Below w.heap.size w w'
set_option maxRecDepth 100000 in
theorem ready_nil (w : World) : Calls Try.prog 24 #[.pointer none] w fun e w' => e = .returned (.slice none 0 0) ∧ w' = w := by
  go_enter Try.func24, Try.ntmps24
  go_wp2_with (go_at_call 12; ((with_reducible refine (list_nil _).mono ?_); rintro e w' ⟨rfl, rfl⟩))
  go_loopw [2, 8] (fun v u wr => v = .slice none 0 0 ∧ u = .int .i64 0 ∧ wr = w') (fun _ u _ => 0)
  case atStart => exact ⟨rfl, rfl, rfl⟩
  case round =>
    obtain ⟨rfl, rfl, rfl⟩ := hrel
    go_wp2_with fail
    go_ret
    exact ⟨rfl, rfl⟩
def RyR (C : Int → Int → Bool) (w w2 : World) (L : List G) (v u : Value) (wr : World) : Prop :=
  ∃ i : Nat, i ≤ L.length ∧ u = .int .i64 i ∧ wr.ownsRow w2.heap.size 29 1 v (rdyL C (L.take i)).length ((rdyL C (L.take i)).map (Value.int .u64)) ∧ Below w2.heap.size w2 wr
set_option maxRecDepth 100000 in
set_option maxHeartbeats 2000000 in
theorem ready_any {w : World} {b h c N : Nat} {last : Int} {L : List G} {C : Int → Int → Bool} (n : NW w b h c last L C N) (hL : L.length ≤ 100000) :
    Calls Try.prog 24 #[.pointer (some ⟨b, 0, none⟩)] w (RyPost w (rdyL C L)) := by
  have HN := Lib.hid n
  have HL := Lib.hid hL
  have HS := Lib.hid (list_any n hL)
  clear n hL
  go_enter Try.func24, Try.ntmps24
  go_wp2_with (go_at_call 12; ((with_reducible refine HS.out.mono ?_); rintro e w2 ⟨v, rfl, k4, k6⟩; obtain ⟨pv, cv, rfl⟩ := owns_slice k4; have HR := Lib.hid k4; have HB := Lib.hid k6; clear k4 k6))
  go_loopw [2, 8] (fun v u wr => RyR C w w2 L v u wr) (fun _ u _ => ((L.length : Int) - intOf u).toNat)
  case atStart => exact ⟨0, Nat.zero_le _, rfl, World.ownsRow_nil _ _ _ _, Below.refl _ _⟩
  case round =>
    obtain ⟨i, hi, rfl, hown, hb⟩ := hrel
    have HOW := Lib.hid hown
    have HB2 := Lib.hid hb
    by_cases hil : i < L.length
    · have hil' : (i : Int) < (L.length : Int) := by omega
      have hi0 : (0 : Int) ≤ (i : Int) := by omega
      obtain ⟨g, cap, ev, _, hg, _, hc⟩ := owns_cells HR.out (by omega)
      injection ev with e1 e2 e3
      subst e1 e3
      have x0 : ∀ j, j < 4 → wr.cell? ⟨g, i * 4 + j, none⟩ = (gcells L[i])[j]? := fun j hj => by
        rw [← flat_at gcells 4 gcells_len L i j hil hj, hb.cell (p := ⟨g, _, none⟩) hg]; exact hc (i * 4 + j) (by omega)
      have HN2 := Lib.hid ((HN.out.below HB.out).below hb)
      have n2 := HN2.out.c2
      have hi64 := (HN.out.inv.2.2.2 _ (List.getElem_mem hil)).2.2
      have hlk := (HN2.out.alloc (.cells (gcells L[i]).toArray 33)).cm.at hi64.1 hi64.2
      have HT := Lib.hid (rdyL_take (C := C) hil)
      have HI := Lib.hid hil
      have HE : Hid (wrap64 ((i : Int) + 1) = ((i + 1 : Nat) : Int)) := Lib.hid (Sou.w64n rfl (by have := HL.out; omega))
      have HM : Hid ((rdyL C (L.take i)).length < 2147483648) := Lib.hid (by have := rdyL_len C (L.take i); have h2 : (L.take i).length ≤ L.length := (by rw [List.length_take]; omega); have := HL.out; omega)
      have HI64 := Lib.hid hi64
      clear hown hb hc hi hi64 e2
      generalize L[i] = q at *
      clear hil
      obtain ⟨id, fr, tt, tx⟩ := q
      generalize rdyL C (L.take i) = S at *
      obtain ⟨S', hS'⟩ : ∃ S', rdyL C (L.take (i + 1)) = S' := ⟨_, rfl⟩
      have HT2 := Lib.hid hS'
      rw [hS'] at HT
      clear hS'
      dsimp only [gcells] at x0 hlk HT
      have q0 : wr.cell? ⟨g, i * 4, none⟩ = some (.int .u64 id) := x0 0 (by decide)
      have q1 : wr.cell? ⟨g, i * 4 + 1, none⟩ = some (.int .i64 fr) := x0 1 (by decide)
      have q2 : wr.cell? ⟨g, i * 4 + 2, none⟩ = some (.int .i64 tt) := x0 2 (by decide)
      have q3 : wr.cell? ⟨g, i * 4 + 3, none⟩ = some (.string tx) := x0 3 (by decide)
      obtain ⟨pv, cv, rfl⟩ := owns_slice HOW.out
      clear x0
      go_upto_region 4 with fail
      obtain ⟨X, hX⟩ : ∃ X, X = wr.alloc (.cells #[.int .u64 id, .int .i64 fr, .int .i64 tt, .string tx] 33) := ⟨_, rfl⟩
      have HQ := Lib.hid (show Blk X wr.heap.size 33 #[.int .u64 id, .int .i64 fr, .int .i64 tt, .string tx] by rw [hX]; exact Blk.new _ _ _)
      have HO2 : Hid (X.drew.ownsRow w2.heap.size 29 1 (.slice pv S.length cv) S.length (S.map (Value.int .u64))) := Lib.hid (by rw [hX]; exact HOW.out.alloc _)
      have HB3 : Hid (Below w2.heap.size w2 X.drew) := Lib.hid (by rw [hX]; exact (HB2.out.alloc HB2.out.size _).drew)
      have n3 : X.cell? ⟨b, 2, none⟩ = some (.map (some c)) := by rw [hX]; exact (HN2.out.alloc _).c2
      rw [← hX] at hlk ⊢
      have hlk2 : (Instr.lookup 62 (.map (some c)) (.agg #[.int .i64 fr, .int .i64 tt]) false).run Try.prog X.drew = .ok (.int .i64 (Gr.cv (C fr tt))) X.drew := by
        rw [hX]; exact (show CM (wr.alloc (.cells #[.int .u64 id, .int .i64 fr, .int .i64 tt, .string tx] 33)).drew c C N from (HN2.out.alloc _).cm).at HI64.out.1 HI64.out.2
      clear hX HN2 HOW HB2 n2 q0 q1 q2 q3
      generalize wr.heap.size = Q at *
      have z0 : X.cell? ⟨Q, 0, none⟩ = some (.int .u64 id) := by rw [HQ.out.cell 0]; rfl
      have z1 : X.cell? ⟨Q, 1, none⟩ = some (.int .i64 fr) := by rw [HQ.out.cell 1]; rfl
      have z2 : X.cell? ⟨Q, 2, none⟩ = some (.int .i64 tt) := by rw [HQ.out.cell 2]; rfl
      have z3 : X.cell? ⟨Q, 3, none⟩ = some (.string tx) := by rw [HQ.out.cell 3]; rfl
      cases hq : C fr tt with
      | true =>
        rw [hq] at hlk hlk2 HT
        go_region
        have HZ : Hid (RyR C w w2 L (.slice pv S.length cv) (.int .i64 ((i + 1 : Nat) : Int)) X.drew) := Lib.hid ⟨i + 1, HI.out, rfl, by rw [HT2.out, HT.out]; simpa using HO2.out, HB3.out⟩
        clear HO2 HB3 HQ hlk hlk2 n3 z0 z1 z2 z3
        go_wp2_with fail
        go_roundw
        case rel => first | exact HZ.out | (rw [HE.out]; exact HZ.out)
        case measure => have := HI.out; first | (simp [intOf]; omega) | (rw [HE.out]; simp [intOf]; omega)
      | false =>
        rw [hq] at hlk hlk2 HT
        go_region
        have HQ2 := Lib.hid (show Blk X.drew Q 33 #[.int .u64 id, .int .i64 fr, .int .i64 tt, .string tx] from HQ.out)
        clear HQ hlk hlk2 n3 z0 z1 z2 z3
        generalize X.drew = Y at *
        have z0 : Y.cell? ⟨Q, 0, none⟩ = some (.int .u64 id) := by rw [HQ2.out.cell 0]; rfl
        go_wp2_with (at_builtin; refine wpl_append_row2 (ys := [.int .u64 id]) rfl rfl rfl rfl Try.underlying52 info_u1 rfl rfl rfl (by decide) (by decide) HO2.out HM.out HB3.out.size (by first | rfl | simp) ?_; intro v5 w5 h5 o5; have H5 := Lib.hid h5; have B5 := Lib.hid (HB3.out.trans (o5.below (B := w2.heap.size) HB3.out.size (fun k hk => (owns_type HO2.out hk).choose_spec.2.1))); obtain ⟨p5, c5, rfl⟩ := owns_slice h5; clear h5 o5)
        have HZ : Hid (RyR C w w2 L (.slice p5 (S.length + 1) c5) (.int .i64 ((i + 1 : Nat) : Int)) w5) := Lib.hid ⟨i + 1, HI.out, rfl, by rw [HT2.out, HT.out]; simpa using H5.out, B5.out⟩
        go_roundw
        case rel => first | exact HZ.out | (rw [HE.out]; exact HZ.out)
        case measure => have := HI.out; first | (simp [intOf]; omega) | (rw [HE.out]; simp [intOf]; omega)
    · obtain rfl : i = L.length := by omega
      have hil' : ¬ ((L.length : Nat) : Int) < (L.length : Int) := by omega
      clear hown hb hi hil
      go_wp2_with fail
      go_ret
      refine ⟨_, rfl, ?_, HB.out.trans (HB2.out.mono HB.out.size)⟩
      have := owns_ge HOW.out HB.out.size
      rwa [List.take_length] at this
end Go.Proofs.Ytfjadphgjjlhiaa
