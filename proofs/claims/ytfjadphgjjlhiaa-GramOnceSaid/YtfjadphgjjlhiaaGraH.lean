
/- The walk of a net's List. No condition but that the net is one, and not too great. -/
import Derived.Test.YtfjadphgjjlhiaaGraG
import Derived.Test.YtfjadphgjjlhiaaOwn
namespace Go.Proofs.Ytfjadphgjjlhiaa
open Go.RowKit Go.Maps Gr Sok
set_option linter.unusedVariables false
set_option linter.unusedSimpArgs false
namespace Gr
def gcells (g : G) : List Value := [.int .u64 g.id, .int .i64 g.fr, .int .i64 g.tt, .string g.tx]
theorem gcells_len (g : G) : (gcells g).length = 4 := rfl
def rowsG (L : List G) : List Value := L.flatMap gcells
theorem rowsG_take {L : List G} {i : Nat} (h : i < L.length) : rowsG (L.take (i + 1)) = rowsG (L.take i) ++ gcells L[i] := by
  unfold rowsG; rw [List.take_succ_eq_append_getElem h, List.flatMap_append]; simp
theorem sorted_eq : ∀ {A B : List Int}, A.Pairwise (· < ·) → B.Pairwise (· < ·) → (∀ x, x ∈ A ↔ x ∈ B) → A = B := by
  intro A
  induction A with
  | nil =>
    intro B _ _ h
    cases B with
    | nil => rfl
    | cons b B => exact absurd ((h b).2 (by simp)) (by simp)
  | cons a A ih =>
    intro B ha hb h
    cases B with
    | nil => exact absurd ((h a).1 (by simp)) (by simp)
    | cons b B =>
      obtain ⟨ha1, ha2⟩ := List.pairwise_cons.1 ha
      obtain ⟨hb1, hb2⟩ := List.pairwise_cons.1 hb
      have hab : a = b := by
        have h1 := (h a).1 (by simp)
        have h2 := (h b).2 (by simp)
        rcases List.mem_cons.1 h1 with e | e
        · exact e
        · rcases List.mem_cons.1 h2 with e' | e'
          · exact e'.symm
          · have := ha1 b e'; have := hb1 a e; omega
      subst hab
      rw [ih ha2 hb2 fun x => ?_]
      constructor
      · intro hx
        rcases List.mem_cons.1 ((h x).1 (List.mem_cons_of_mem _ hx)) with e | e
        · have := ha1 x hx; omega
        · exact e
      · intro hx
        rcases List.mem_cons.1 ((h x).2 (List.mem_cons_of_mem _ hx)) with e | e
        · have := hb1 x hx; omega
        · exact e
end Gr
theorem info_gram : Info Try.prog 33 (.agg #[.int .u64 0, .int .i64 0, .int .i64 0, .string ⟨#[]⟩]) 4 40 := by unfold Info; kernel_rfl
/-- A call that answers a row of messages of its own. -/
def LsPost (w : World) (L : List G) (e : Ending) (w' : World) : Prop := ∃ v, e = .returned v ∧ w'.ownsRow w.heap.size 33 4 v L.length (rowsG L) ∧ Below w.heap.size w w'
set_option maxRecDepth 100000 in
theorem list_nil (w : World) : Calls Try.prog 12 #[.pointer none] w fun e w' => e = .returned (.slice none 0 0) ∧ w' = w := by
  go_enter Try.func12, Try.ntmps12
  go_wp2_with fail
  go_ret
  exact ⟨rfl, rfl⟩
def LsR (w w2 : World) (L : List G) (v u : Value) (wr : World) : Prop :=
  ∃ i : Nat, i ≤ L.length ∧ u = .int .i64 i ∧ wr.ownsRow w2.heap.size 33 4 v i (rowsG (L.take i)) ∧ Below w2.heap.size w2 wr
set_option maxRecDepth 100000 in
set_option maxHeartbeats 2000000 in
theorem list_any {w : World} {b h c N : Nat} {last : Int} {L : List G} {C : Int → Int → Bool} (n : NW w b h c last L C N) (hL : L.length ≤ 100000) :
    Calls Try.prog 12 #[.pointer (some ⟨b, 0, none⟩)] w (LsPost w L) := by
  have HN := Lib.hid n
  have HL := Lib.hid hL
  have c1 := n.c1
  obtain ⟨D, o, o1, o2, o3⟩ := n.gm
  have HK := Lib.hid (keys_u (some h) w)
  have HS := Lib.hid (sortedKeys_u (w := w.alloc (.cells #[.map (some h)] 55)) (Bm := w.heap.size) (by simp) ((Blk.new w 55 #[.map (some h)]).cell 0) (o.alloc _) (by omega))
  have HID : Hid (∀ K : List Int, K.Pairwise (· < ·) → (∀ x, x ∈ K ↔ has D (.int .u64 x) = true) → K = L.map (·.id)) := Lib.hid fun K h1 h2 => by
    refine sorted_eq h1 (List.pairwise_map.2 n.inv.2.2.1) fun x => ?_
    rw [h2 x, show has D (.int .u64 x) = true ↔ _ from o2 x]; simp
  clear n o o1 o2 o3 hL
  go_enter Try.func12, Try.ntmps12
  go_wp2_with (first | (go_at_call 31; ((with_reducible refine HK.out.mono ?_); rintro e w' ⟨rfl, rfl⟩)) | (go_at_call 30; ((with_reducible refine HS.out.mono ?_); rintro e w2 ⟨v, K, rfl, k1, k2, k3, k4, k5, k6⟩; obtain rfl := HID.out K k1 k2; obtain ⟨pv, cv, rfl⟩ := owns_slice k4; have HR := Lib.hid k4; have HB := Lib.hid (((Below.refl _ w).alloc (Nat.le_refl _) (.cells #[.map (some h)] 55)).trans (k6.mono (by simp))); clear k1 k2 k3 k4 k5 k6; rw [List.length_map] at *)))
  go_loopw [2, 14] (fun v u wr => LsR w w2 L v u wr) (fun _ u _ => ((L.length : Int) - intOf u).toNat)
  case atStart => exact ⟨0, Nat.zero_le _, rfl, World.ownsRow_nil _ _ _ _, Below.refl _ _⟩
  case round =>
    obtain ⟨i, hi, rfl, hown, hb⟩ := hrel
    have HOW := Lib.hid hown
    have HB2 := Lib.hid hb
    by_cases hil : i < L.length
    · have hil' : (i : Int) < (L.length : Int) := by omega
      have hi0 : (0 : Int) ≤ (i : Int) := by omega
      obtain ⟨g, cap, ev, _, hg, _, hc⟩ := owns_cells HR.out (by omega)
      injection ev with e1 e2 e3
      subst e1 e3
      have x0 := hc i (by omega)
      rw [List.map_map, List.getElem?_map, List.getElem?_eq_getElem hil, ← hb.cell (p := ⟨g, _, none⟩) hg] at x0
      have HN2 := Lib.hid ((HN.out.below HB.out).below hb)
      have n1 := HN2.out.c1
      have hlk := HN2.out.gm.at (List.getElem_mem hil) (by have := HN.out.inv.2.2.2 _ (List.getElem_mem hil); have := HN.out.inv.2.1; unfold U64; omega)
      have HT := Lib.hid (rowsG_take hil)
      have HI := Lib.hid hil
      have HE : Hid (wrap64 ((i : Int) + 1) = ((i + 1 : Nat) : Int)) := Lib.hid (Sou.w64n rfl (by have := HL.out; omega))
      have HM : Hid (i < 2147483648) := Lib.hid (by have := HL.out; omega)
      clear hown hb hc hi e2
      generalize L[i] = q at *
      clear hil
      obtain ⟨id, fr, tt, tx⟩ := q
      dsimp only [Option.map_some, Function.comp] at x0
      unfold gv at hlk
      dsimp only at hlk
      obtain ⟨pv, cv, rfl⟩ := owns_slice HOW.out
      go_wp2_with (at_builtin; refine wpl_append_row2 (ys := gcells ⟨id, fr, tt, tx⟩) rfl rfl rfl rfl Try.underlying36 info_gram rfl rfl rfl (by decide) (by decide) HOW.out HM.out HB2.out.size (by first | rfl | simp) ?_; intro v5 w5 h5 o5; have H5 := Lib.hid h5; have B5 := Lib.hid (HB2.out.trans (o5.below (B := w2.heap.size) HB2.out.size (fun k hk => (owns_type HOW.out hk).choose_spec.2.1))); obtain ⟨p5, c5, rfl⟩ := owns_slice h5; clear h5 o5)
      have HZ : Hid (LsR w w2 L (.slice p5 (i + 1) c5) (.int .i64 ((i + 1 : Nat) : Int)) w5) := Lib.hid ⟨i + 1, HI.out, rfl, by rw [HT.out]; exact H5.out, B5.out⟩
      go_roundw
      case rel => first | exact HZ.out | (rw [HE.out]; exact HZ.out)
      case measure => have := HI.out; first | (simp [intOf]; omega) | (rw [HE.out]; simp [intOf]; omega)
    · obtain rfl : i = L.length := by omega
      have hil' : ¬ ((L.length : Nat) : Int) < (L.length : Int) := by omega
      clear hown hb hi hil
      go_wp2_with fail
      go_ret
      refine ⟨_, rfl, ?_, HB.out.trans (HB2.out.mono HB.out.size)⟩
      have := owns_ge HOW.out HB.out.size
      rwa [List.take_length] at this
end Go.Proofs.Ytfjadphgjjlhiaa
