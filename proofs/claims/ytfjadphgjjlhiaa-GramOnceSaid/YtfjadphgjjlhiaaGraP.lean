
/- The document's net in the world; the walks of its Place, find and IsCut. No condition but that the rows are not too long. -/
import Derived.Test.YtfjadphgjjlhiaaGraK
namespace Go.Proofs.Ytfjadphgjjlhiaa
open Go.RowKit Go.Maps Gr Sok
set_option linter.unusedVariables false
set_option linter.unusedSimpArgs false
namespace Gr
def ccells (p : Int × Int) : List Value := [.int .i64 p.1, .int .i64 p.2]
theorem ccells_len (p : Int × Int) : (ccells p).length = 2 := rfl
def rowsC (l : List (Int × Int)) : List Value := l.flatMap ccells
def ix (L : List G) (x : Int) : Option Nat := L.findIdx? fun g => g.id == x
def ixI (L : List G) (x : Int) : Int := match ix L x with | some i => (i : Int) | none => -1
theorem ix_at {L : List G} {x : Int} {i : Nat} (hi : i < L.length) (h0 : hasId (L.take i) x = false) (h : L[i].id = x) : ix L x = some i := by
  unfold ix
  rw [List.findIdx?_eq_some_iff_getElem]
  refine ⟨hi, by simp [h], fun j hj => ?_⟩
  unfold hasId at h0
  rw [List.any_eq_false] at h0
  exact h0 _ (List.mem_iff_getElem.2 ⟨j, by rw [List.length_take]; omega, by rw [List.getElem_take]⟩)
theorem ix_none {L : List G} {x : Int} (h0 : hasId L x = false) : ix L x = none := by
  unfold ix hasId at *
  rw [List.findIdx?_eq_none_iff]
  rw [List.any_eq_false] at h0
  intro g hg; simpa using h0 g hg
theorem has_take {L : List G} {x : Int} {i : Nat} (hi : i < L.length) : hasId (L.take (i + 1)) x = (hasId (L.take i) x || (L[i].id == x)) := by
  unfold hasId; rw [List.take_succ_eq_append_getElem hi, List.any_append]; simp
def cutL (Cs : List (Int × Int)) (a b : Int) : Bool := Cs.any fun p => p.1 == a && p.2 == b
theorem cut_take {Cs : List (Int × Int)} {a b : Int} {i : Nat} (hi : i < Cs.length) : cutL (Cs.take (i + 1)) a b = (cutL (Cs.take i) a b || (Cs[i].1 == a && Cs[i].2 == b)) := by
  unfold cutL; rw [List.take_succ_eq_append_getElem hi, List.any_append]; simp
end Gr
/-- The document's net. -/
structure RW (w : World) (B r : Nat) (vL vC : Value) (last : Int) (L : List G) (Cs : List (Int × Int)) : Prop where
  blk : Blk w r 45 #[.int .u64 last, vL, vC]
  row : w.ownsRow B 33 4 vL L.length (rowsG L)
  cuts : w.ownsRow B 59 2 vC Cs.length (rowsC Cs)
  ge : B ≤ r
theorem place_any (a : Int) (w : World) : Calls Try.prog 32 #[.int .i64 a] w fun e w' => e = .returned (.bool (!bad a)) ∧ w' = w := by
  by_cases h1 : a < 0
  · have hb : bad a = true := by simp [bad, h1]
    have h2 : ¬ (0 : Int) ≤ a := by omega
    go_enter Try.func32, Try.ntmps32
    go_wp2_with fail
    go_ret
    first | exact ⟨rfl, rfl⟩ | (rw [hb]; exact ⟨rfl, rfl⟩)
  · have h2 : (0 : Int) ≤ a := by omega
    by_cases h3 : a < 1024
    · have hb : bad a = false := by simp [bad]; omega
      go_enter Try.func32, Try.ntmps32
      go_wp2_with fail
      go_ret
      first | exact ⟨rfl, rfl⟩ | (rw [hb]; exact ⟨rfl, rfl⟩)
    · have hb : bad a = true := by simp [bad]; omega
      go_enter Try.func32, Try.ntmps32
      go_wp2_with fail
      go_ret
      first | exact ⟨rfl, rfl⟩ | (rw [hb]; exact ⟨rfl, rfl⟩)
section
variable {w w' : World} {B r : Nat} {vL vC : Value} {last : Int} {L : List G} {Cs : List (Int × Int)}
theorem RW.c0 (h : RW w B r vL vC last L Cs) : w.cell? ⟨r, 0, none⟩ = some (.int .u64 last) := by rw [h.blk.cell 0]; rfl
theorem RW.c1 (h : RW w B r vL vC last L Cs) : w.cell? ⟨r, 1, none⟩ = some vL := by rw [h.blk.cell 1]; rfl
theorem RW.c2 (h : RW w B r vL vC last L Cs) : w.cell? ⟨r, 2, none⟩ = some vC := by rw [h.blk.cell 2]; rfl
theorem RW.gram (h : RW w B r vL vC last L Cs) {i : Nat} (hi : i < L.length) : ∃ g cap, vL = .slice (some ⟨g, 0, none⟩) L.length cap ∧ B ≤ g ∧ g < w.heap.size ∧ g ≠ r ∧
    w.cell? ⟨g, i * 4, none⟩ = some (.int .u64 L[i].id) ∧ w.cell? ⟨g, i * 4 + 1, none⟩ = some (.int .i64 L[i].fr) ∧ w.cell? ⟨g, i * 4 + 2, none⟩ = some (.int .i64 L[i].tt) ∧ w.cell? ⟨g, i * 4 + 3, none⟩ = some (.string L[i].tx) := by
  obtain ⟨g, cap, ev, hb, hg, _, hc⟩ := owns_cells h.row (by omega)
  have x0 : ∀ j, j < 4 → w.cell? ⟨g, i * 4 + j, none⟩ = (gcells L[i])[j]? := fun j hj => by
    rw [← flat_at gcells 4 gcells_len L i j hi hj]; exact hc (i * 4 + j) (by omega)
  exact ⟨g, cap, ev, hb, hg, owns_ne h.row h.blk (by decide) g (by rw [ev]; rfl), x0 0 (by decide), x0 1 (by decide), x0 2 (by decide), x0 3 (by decide)⟩
theorem RW.way (h : RW w B r vL vC last L Cs) {i : Nat} (hi : i < Cs.length) : ∃ g cap, vC = .slice (some ⟨g, 0, none⟩) Cs.length cap ∧ B ≤ g ∧ g < w.heap.size ∧ g ≠ r ∧
    w.cell? ⟨g, i * 2, none⟩ = some (.int .i64 Cs[i].1) ∧ w.cell? ⟨g, i * 2 + 1, none⟩ = some (.int .i64 Cs[i].2) := by
  obtain ⟨g, cap, ev, hb, hg, _, hc⟩ := owns_cells h.cuts (by omega)
  have x0 : ∀ j, j < 2 → w.cell? ⟨g, i * 2 + j, none⟩ = (ccells Cs[i])[j]? := fun j hj => by
    rw [← flat_at ccells 2 ccells_len Cs i j hi hj]; exact hc (i * 2 + j) (by omega)
  exact ⟨g, cap, ev, hb, hg, owns_ne h.cuts h.blk (by decide) g (by rw [ev]; rfl), x0 0 (by decide), x0 1 (by decide)⟩
theorem RW.only {S : Nat → Prop} (h : RW w B r vL vC last L Cs) (o : Only S w w') (h1 : ¬ S r) (h2 : ∀ g, vL.ownBlock = some g → ¬ S g) (h3 : ∀ g, vC.ownBlock = some g → ¬ S g) : RW w' B r vL vC last L Cs :=
  ⟨h.blk.only o h1, owns_only h.row o h2, owns_only h.cuts o h3, h.ge⟩
theorem RW.below (h : RW w B r vL vC last L Cs) (o : Below w.heap.size w w') : RW w' B r vL vC last L Cs := h.only (Only.of_below (S := fun _ => False) o) id (fun _ _ => id) (fun _ _ => id)
theorem RW.alloc (h : RW w B r vL vC last L Cs) (o : Obj) : RW (w.alloc o) B r vL vC last L Cs := h.below ((Below.refl _ _).alloc (Nat.le_refl _) o)
theorem RW.slices (h : RW w B r vL vC last L Cs) : (∃ p cap, vL = .slice p L.length cap) ∧ ∃ p cap, vC = .slice p Cs.length cap := ⟨owns_slice h.row, owns_slice h.cuts⟩
set_option maxRecDepth 100000 in
set_option maxHeartbeats 1000000 in
theorem find_any (h : RW w B r vL vC last L Cs) (hL : L.length ≤ 100000) (x : Int) :
    Calls Try.prog 33 #[.pointer (some ⟨r, 0, none⟩), .int .u64 x] w fun e w' => e = .returned (.int .i64 (ixI L x)) ∧ w' = w := by
  have HR := Lib.hid h
  have HL := Lib.hid hL
  have c1 := h.c1
  obtain ⟨⟨pL, cL, eL⟩, _⟩ := h.slices
  subst eL
  clear h hL
  go_enter Try.func33, Try.ntmps33
  go_wp2_with fail
  go_loopw [5] (fun u wr => ∃ i : Nat, u = .int .i64 i ∧ i ≤ L.length ∧ hasId (L.take i) x = false ∧ wr = w) (fun u _ => ((L.length : Int) - intOf u).toNat)
  case atStart => exact ⟨0, rfl, Nat.zero_le _, rfl, rfl⟩
  case round =>
    obtain ⟨i, rfl, hi, hnone, rfl⟩ := hrel
    have HI := Lib.hid (And.intro hi hnone)
    clear hi hnone
    by_cases hil : i < L.length
    · have hil' : (i : Int) < (L.length : Int) := by omega
      have hi0 : (0 : Int) ≤ (i : Int) := by omega
      obtain ⟨g, cap, ev, _, hg, hgr, z0, z1, z2, z3⟩ := HR.out.gram hil
      injection ev with e1 e2 e3
      subst e1 e3
      have HT := Lib.hid (has_take (x := x) hil)
      have HAT := Lib.hid (ix_at (x := x) hil HI.out.2)
      have HLT := Lib.hid hil
      have HE : Hid (wrap64 ((i : Int) + 1) = ((i + 1 : Nat) : Int)) := Lib.hid (Sou.w64n rfl (by have := HL.out; omega))
      clear e2 z1 z2 z3
      generalize L[i] = q at *
      clear hil
      by_cases hq : q.id = x
      · have HIX := Lib.hid (HAT.out hq)
        have hq' : (q.id == x) = true := by simpa using hq
        clear hq HAT HT
        go_wp2_with fail
        go_ret
        exact ⟨by unfold ixI; rw [HIX.out]; rfl, rfl⟩
      · have hq' : (q.id == x) = false := by simpa using hq
        have HT2 : Hid (hasId (L.take (i + 1)) x = false) := Lib.hid (by rw [HT.out, HI.out.2, hq']; rfl)
        clear hq HAT HT
        go_wp2_with fail
        go_roundw
        case rel => rw [HE.out]; exact ⟨i + 1, rfl, HLT.out, HT2.out, by first | rfl | trivial⟩
        case measure => have := HLT.out; rw [HE.out]; simp [intOf]; omega
    · obtain rfl : i = L.length := by have := HI.out; omega
      have hil' : ¬ ((L.length : Nat) : Int) < (L.length : Int) := by omega
      have HX := Lib.hid (ix_none (x := x) (L := L) (by have := HI.out.2; rwa [List.take_length] at this))
      clear hil
      go_wp2_with fail
      go_ret
      exact ⟨by unfold ixI; rw [HX.out]; rfl, rfl⟩
set_option maxRecDepth 100000 in
set_option maxHeartbeats 1000000 in
theorem iscut_any (h : RW w B r vL vC last L Cs) (hL : Cs.length ≤ 100000) (x y : Int) :
    Calls Try.prog 34 #[.pointer (some ⟨r, 0, none⟩), .int .i64 x, .int .i64 y] w fun e w' => e = .returned (.bool (cutL Cs x y)) ∧ w' = w := by
  have HR := Lib.hid h
  have HL := Lib.hid hL
  have c2 := h.c2
  obtain ⟨_, ⟨pL, cL, eL⟩⟩ := h.slices
  subst eL
  clear h hL
  go_enter Try.func34, Try.ntmps34
  go_wp2_with fail
  go_loopw [7] (fun u wr => ∃ i : Nat, u = .int .i64 i ∧ i ≤ Cs.length ∧ cutL (Cs.take i) x y = false ∧ wr = w) (fun u _ => ((Cs.length : Int) - intOf u).toNat)
  case atStart => exact ⟨0, rfl, Nat.zero_le _, rfl, rfl⟩
  case round =>
    obtain ⟨i, rfl, hi, hnone, rfl⟩ := hrel
    have HI := Lib.hid (And.intro hi hnone)
    clear hi hnone
    by_cases hil : i < Cs.length
    · have hil' : (i : Int) < (Cs.length : Int) := by omega
      have hi0 : (0 : Int) ≤ (i : Int) := by omega
      obtain ⟨g, cap, ev, _, hg, hgr, z0, z1⟩ := HR.out.way hil
      injection ev with e1 e2 e3
      subst e1 e3
      have HT := Lib.hid (cut_take (a := x) (b := y) hil)
      have HMEM : Hid (cutL Cs x y = true ∨ ¬ (Cs[i].1 == x && Cs[i].2 == y) = true) := Lib.hid (by
        cases hh : (Cs[i].1 == x && Cs[i].2 == y) with
        | false => exact .inr (by simp)
        | true => exact .inl (by unfold cutL; rw [List.any_eq_true]; exact ⟨_, List.getElem_mem hil, hh⟩))
      have HLT := Lib.hid hil
      have HE : Hid (wrap64 ((i : Int) + 1) = ((i + 1 : Nat) : Int)) := Lib.hid (Sou.w64n rfl (by have := HL.out; omega))
      clear e2
      generalize Cs[i] = q at *
      clear hil
      obtain ⟨q1, q2⟩ := q
      dsimp only at HMEM HT z0 z1
      cases hq1 : (q1 == x) with
      | true =>
        cases hq2 : (q2 == y) with
        | true =>
          have HX : Hid (cutL Cs x y = true) := Lib.hid (by
            rcases HMEM.out with h | h
            · exact h
            · rw [hq1, hq2] at h; exact absurd rfl h)
          clear HMEM HT
          go_wp2_with fail
          go_ret
          exact ⟨by rw [HX.out]; rfl, rfl⟩
        | false =>
          have HT2 : Hid (cutL (Cs.take (i + 1)) x y = false) := Lib.hid (by rw [HT.out, HI.out.2, hq1, hq2]; rfl)
          clear HMEM HT
          go_wp2_with fail
          go_roundw
          case rel => rw [HE.out]; exact ⟨i + 1, rfl, HLT.out, HT2.out, by first | rfl | trivial⟩
          case measure => have := HLT.out; rw [HE.out]; simp [intOf]; omega
      | false =>
        have HT2 : Hid (cutL (Cs.take (i + 1)) x y = false) := Lib.hid (by rw [HT.out, HI.out.2, hq1]; rfl)
        clear HMEM HT
        go_wp2_with fail
        go_roundw
        case rel => rw [HE.out]; exact ⟨i + 1, rfl, HLT.out, HT2.out, by first | rfl | trivial⟩
        case measure => have := HLT.out; rw [HE.out]; simp [intOf]; omega
    · obtain rfl : i = Cs.length := by have := HI.out; omega
      have hil' : ¬ ((Cs.length : Nat) : Int) < (Cs.length : Int) := by omega
      have HX := Lib.hid (show cutL Cs x y = false by have := HI.out.2; rwa [List.take_length] at this)
      clear hil
      go_wp2_with fail
      go_ret
      exact ⟨by rw [HX.out]; rfl, rfl⟩
end
end Go.Proofs.Ytfjadphgjjlhiaa
