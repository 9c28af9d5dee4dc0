
/- The walks of a net's put, Take, Double, Cut and Heal. No condition but that the net is one, and not beyond any bound. -/
import Derived.Test.YtfjadphgjjlhiaaGraB
namespace Go.Proofs.Ytfjadphgjjlhiaa
open Go.RowKit Go.Maps Gr Sok
set_option linter.unusedVariables false
set_option linter.unusedSimpArgs false
namespace Gr
theorem inv_put {last : Int} {L : List G} (h : Inv last L) {g : G} (hi : g.id = last + 1) (hl : last + 1 ≤ 4611686018427387904) (h1 : I64 g.fr) (h2 : I64 g.tt) : Inv (last + 1) (L ++ [g]) := by
  obtain ⟨a1, a2, a3, a4⟩ := h
  refine ⟨by omega, hl, ?_, fun x hx => ?_⟩
  · refine List.pairwise_append.2 ⟨a3, List.pairwise_singleton _ _, fun x hx y hy => ?_⟩
    simp at hy; subst hy
    have := (a4 x hx).2.1
    omega
  · rcases List.mem_append.1 hx with hx | hx
    · have := a4 x hx; exact ⟨this.1, by omega, this.2.2⟩
    · simp at hx; subst hx; exact ⟨by omega, by omega, h1, h2⟩
theorem inv_del {last : Int} {L : List G} (h : Inv last L) (p : G → Bool) : Inv last (L.filter p) :=
  ⟨h.1, h.2.1, h.2.2.1.filter p, fun g hg => h.2.2.2 g (List.mem_filter.1 hg).1⟩
theorem inv_fresh {last : Int} {L : List G} (h : Inv last L) : ¬ ∃ g' ∈ L, g'.id = last + 1 := by
  rintro ⟨g, hg, e⟩; have := (h.2.2.2 g hg).2.1; omega
end Gr
theorem Only.grown' {b : Nat} {w w' : World} (h : Only (fun k => k = b) w w') : w.grownBy w' (some b) := ⟨h.os, h.tape, h.output, h.size, fun i hi hne => h.block i hi (fun e => hne (by rw [e]))⟩
section
variable {w w' w1 : World} {b h c N : Nat} {last : Int} {L : List G} {C : Int → Int → Bool}
theorem only_turned {w w' : World} {b : Nat} (t : w.grownBy w' (some b)) : Only (· = b) w w' := ⟨t.os, t.tape, t.output, t.size, fun i hi hne => t.block i hi (fun e => hne (by injection e))⟩
/-- The map of messages behind a store: the net whole. -/
theorem NW.put {D : DV} (n : NW w b h c last L C N) {g : G} (hi : g.id = last + 1) (hl : last + 1 ≤ 4611686018427387904) (h1 : I64 g.fr) (h2 : I64 g.tt)
    (o1 : ∀ g ∈ L, ∀ zd, D.atKey (KU g.id) zd = gd g) (o2 : ∀ x, has D (KU x) = true ↔ ∃ g ∈ L, g.id = x) (o3 : Maps.size D = L.length) (hD : IsMap D) (hT : Tidy D)
    (hb : Blk w1 b 64 #[.int .u64 (last + 1), .map (some h), .map (some c)]) (hc : CM w1 c C N) (o : w1.ownsMap Try.prog 29 gramE h (N + 1) (D.put (KU g.id) (gd g))) : NW w1 b h c (last + 1) (L ++ [g]) C (N + 1) := by
  obtain ⟨p1, p2, p3⟩ := put_ok hD hT o1 o2 o3 g (by rw [hi]; exact inv_fresh n.inv)
  exact ⟨hb, ⟨_, o, p1, p2, p3⟩, hc.mono (Nat.le_succ _), n.ap, inv_put n.inv hi hl h1 h2⟩
end
def PutPost (w : World) (b h c : Nat) (last : Int) (L : List G) (C : Int → Int → Bool) (N : Nat) (g : G) (e : Ending) (w' : World) : Prop :=
  e = .returned (.int .u64 (last + 1)) ∧ NW w' b h c (last + 1) (L ++ [{ g with id := last + 1 }]) C (N + 1) ∧ Only (fun k => k = b ∨ k = h) w w'
set_option maxRecDepth 100000 in
set_option maxHeartbeats 1000000 in
theorem put_any {w : World} {b h c N : Nat} {last : Int} {L : List G} {C : Int → Int → Bool} (n : NW w b h c last L C N) (g : G) (hl : last + 1 ≤ 4611686018427387904) (hN : N ≤ 1000000) (h1 : I64 g.fr) (h2 : I64 g.tt) :
    Calls Try.prog 28 #[.pointer (some ⟨b, 0, none⟩), gv g] w (PutPost w b h c last L C N g) := by
  obtain ⟨id, fr, tt, tx⟩ := g
  have hbl := n.blk.lt
  have hhl := n.gm.lt
  have hap := n.ap
  have hpos := n.inv.1
  have e1 : IntKind.u64.wrap (last + 1) = last + 1 := by rw [IntKind.wrap_u64]; omega
  have hu : U64 (last + 1) := by unfold U64; omega
  have HK := Lib.hid (keyG hu)
  obtain ⟨wa, hwa⟩ : ∃ wa, wa = (w.setCell ⟨b, 0, none⟩ (.int .u64 (last + 1))).alloc (.cells #[.int .u64 (last + 1), .int .i64 fr, .int .i64 tt, .string tx] 33) := ⟨_, rfl⟩
  have hob : Only (fun k => k = b ∨ k = h) w wa := by
    rw [hwa]; exact ((Only.refl _ w).setCell (p := ⟨b, 0, none⟩) (.inl (.inl rfl)) _).alloc _
  have hba : Blk wa b 64 #[.int .u64 (last + 1), .map (some h), .map (some c)] := by
    rw [hwa]; have := (n.blk.set 0 (.int .u64 (last + 1))).alloc (.cells #[.int .u64 (last + 1), .int .i64 fr, .int .i64 tt, .string tx] 33); simpa using this
  have hga : GM wa h L N := by
    have hob2 : Only (fun k => k = b) w wa := by rw [hwa]; exact ((Only.refl (fun k => k = b) w).setCell (p := ⟨b, 0, none⟩) (.inl rfl) _).alloc _
    exact n.gm.kept (Only.grown' hob2) (by intro e; injection e with e; omega)
  have hca : CM wa c C N := by
    have hob2 : Only (fun k => k = b) w wa := by rw [hwa]; exact ((Only.refl (fun k => k = b) w).setCell (p := ⟨b, 0, none⟩) (.inl rfl) _).alloc _
    exact n.cm.kept (Only.grown' hob2) (by intro e; injection e with e; omega)
  obtain ⟨D, o, o1, o2, o3⟩ := hga
  have HO := Lib.hid o
  have HD := Lib.hid (And.intro o.isMap (o.tidy kdG))
  have HF : Hid (∀ w1, w1.ownsMap Try.prog 29 gramE h (N + 1) (D.put (KU (last + 1)) (gd ⟨last + 1, fr, tt, tx⟩)) → wa.grownBy w1 (some h) → PutPost w b h c last L C N ⟨id, fr, tt, tx⟩ (.returned (.int .u64 (last + 1))) w1) := Lib.hid fun w1 o' g' => by
    have hoh := only_turned g'
    refine ⟨rfl, n.put rfl hl h1 h2 o1 o2 o3 HD.out.1 HD.out.2 (hba.only hoh (by omega)) (hca.kept g' (by intro e; injection e with e; omega)) o', hob.trans (hoh.mono (fun k _ e => .inr e))⟩
  have HN : Hid (N < maxLen) := Lib.hid (by unfold maxLen; omega)
  have HWA := Lib.hid hwa
  have c0 := n.c0
  have fz := n.fz
  have c1 := n.c1
  have q0 : Blk wa w.heap.size 33 #[.int .u64 (last + 1), .int .i64 fr, .int .i64 tt, .string tx] := by
    rw [hwa]; have := Blk.new (w.setCell ⟨b, 0, none⟩ (.int .u64 (last + 1))) 33 #[.int .u64 (last + 1), .int .i64 fr, .int .i64 tt, .string tx]; rwa [setCell_size] at this
  have HQ := Lib.hid q0
  have HQH : Hid (w.heap.size ≠ h) := Lib.hid (by omega)
  have HB1 : Hid (wa.cell? ⟨b, 1, none⟩ = some (.map (some h))) := Lib.hid (by rw [hba.cell 1]; rfl)
  clear n hob hba hca o o1 o2 o3 hpos hu hl h1 h2 hN hap hhl q0
  unfold gv
  dsimp only
  go_enter Try.func28, Try.ntmps28
  go_upto_region 3 with fail
  rw [← HWA.out]
  have z0 : wa.cell? ⟨w.heap.size, 0, none⟩ = some (.int .u64 (last + 1)) := by rw [HQ.out.cell 0]; rfl
  have z1 : wa.cell? ⟨w.heap.size, 1, none⟩ = some (.int .i64 fr) := by rw [HQ.out.cell 1]; rfl
  have z2 : wa.cell? ⟨w.heap.size, 2, none⟩ = some (.int .i64 tt) := by rw [HQ.out.cell 2]; rfl
  have z3 : wa.cell? ⟨w.heap.size, 3, none⟩ = some (.string tx) := by rw [HQ.out.cell 3]; rfl
  have b1 := HB1.out
  clear hwa HWA c0 fz c1 e1 hbl HB1
  refine Reg.wp_text (by kernel_rfl) (by kernel_rfl) ?_
  go_wp2_with (at_mapUpdate; refine wpList_mapUpdate_own _ rfl _ _ _ 55 rfl 29 33 kdG Try.underlying55 _ h N D rfl HO.out.drew HN.out _ (gv ⟨last + 1, fr, tt, tx⟩) (KU (last + 1)) rfl rfl HK.out (gd ⟨last + 1, fr, tt, tx⟩) [] (gramE_mk _) ?_; intro w5 o5 g5; have y0 : w5.cell? ⟨w.heap.size, 0, none⟩ = some (.int .u64 (last + 1)) := (by rw [(HQ.out.drew.only (only_turned g5) HQH.out).cell 0]; rfl); have HR := Lib.hid (HF.out _ o5 ⟨g5.os, g5.tape, g5.output, g5.size, g5.block⟩); clear o5 g5 z0 z1 z2 z3 b1)
  refine Reg.fin (by kernel_rfl) ?_
  go_wp2_with fail
  go_ret
  exact HR.out
end Go.Proofs.Ytfjadphgjjlhiaa
