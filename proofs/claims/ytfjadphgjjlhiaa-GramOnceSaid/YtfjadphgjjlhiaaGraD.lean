
/- The walks of a net's Take, Double, Cut and Heal. No condition but that the net is one, and not beyond any bound. -/
import Derived.Test.YtfjadphgjjlhiaaGraC
namespace Go.Proofs.Ytfjadphgjjlhiaa
open Go.RowKit Go.Maps Gr Sok
set_option linter.unusedVariables false
set_option linter.unusedSimpArgs false
theorem zcells {w w1 : World} {q : Nat} {T : TypeId} {v0 v1 v2 v3 : Value} (h : Blk w q T #[v0, v1, v2, v3]) (hb : Below w.heap.size w w1) :
    Blk w1 q T #[v0, v1, v2, v3] ∧ w1.cell? ⟨q, 0, none⟩ = some v0 ∧ w1.cell? ⟨q, 1, none⟩ = some v1 ∧ w1.cell? ⟨q, 2, none⟩ = some v2 ∧ w1.cell? ⟨q, 3, none⟩ = some v3 ∧ w1.frozen? ⟨q, 0, none⟩ = false ∧ w1.frozen? ⟨q, 1, none⟩ = false ∧ w1.frozen? ⟨q, 2, none⟩ = false ∧ w1.frozen? ⟨q, 3, none⟩ = false ∧ q < w1.heap.size := by
  have k := h.below hb
  exact ⟨k, by rw [k.cell 0]; rfl, by rw [k.cell 1]; rfl, by rw [k.cell 2]; rfl, by rw [k.cell 3]; rfl, k.frozen 0, k.frozen 1, k.frozen 2, k.frozen 3, k.lt⟩
theorem fin4 {w w1 : World} {o : Obj} (hb : Below (w.alloc o).heap.size (w.alloc o) w1) (v0 v1 v2 v3 : Value) (o2 : Obj) :
    Below w.heap.size w (((((w1.setCell ⟨w.heap.size, 0, none⟩ v0).setCell ⟨w.heap.size, 1, none⟩ v1).setCell ⟨w.heap.size, 2, none⟩ v2).setCell ⟨w.heap.size, 3, none⟩ v3).alloc o2) := by
  have h1 : Below w.heap.size w w1 := ((Below.refl _ w).alloc (Nat.le_refl _) o).trans (hb.mono (by simp))
  have h2 := (((h1.setCell (p := ⟨w.heap.size, 0, none⟩) (Nat.le_refl _) v0).setCell (p := ⟨w.heap.size, 1, none⟩) (Nat.le_refl _) v1).setCell (p := ⟨w.heap.size, 2, none⟩) (Nat.le_refl _) v2).setCell (p := ⟨w.heap.size, 3, none⟩) (Nat.le_refl _) v3
  exact h2.alloc h2.size o2
def TakePost (w : World) (g : G) (k : Int) (b h c : Nat) (last : Int) (L : List G) (C : Int → Int → Bool) (N : Nat) (e : Ending) (w' : World) : Prop :=
  e = .returned (.tuple #[gv g, .int .i64 k]) ∧ NW w' b h c last L C N ∧ Only (· = h) w w'
theorem below_a2 {w w' : World} {o : Obj} (hb : Below w.heap.size (w.alloc o) w') : Below w.heap.size w w' := ((Below.refl _ w).alloc (Nat.le_refl _) o).trans hb
theorem tfin {w W : World} {b h c N : Nat} {last : Int} {L : List G} {C : Int → Int → Bool} {Q : Nat} (hQ : w.heap.size ≤ Q) (hw : b < w.heap.size ∧ h < w.heap.size ∧ c < w.heap.size) (n : NW W b h c last L C N) (ho : Only (· = h) w W) (v0 v1 v2 v3 : Value) :
    NW ((((W.setCell ⟨Q, 0, none⟩ v0).setCell ⟨Q, 1, none⟩ v1).setCell ⟨Q, 2, none⟩ v2).setCell ⟨Q, 3, none⟩ v3) b h c last L C N ∧ Only (· = h) w ((((W.setCell ⟨Q, 0, none⟩ v0).setCell ⟨Q, 1, none⟩ v1).setCell ⟨Q, 2, none⟩ v2).setCell ⟨Q, 3, none⟩ v3) := by
  refine ⟨n.only (S := fun k => k = Q) ?_ ⟨by omega, by omega, by omega⟩, ?_⟩
  · exact ((((Only.refl (fun k => k = Q) W).setCell (p := ⟨Q, 0, none⟩) (.inl rfl) v0).setCell (p := ⟨Q, 1, none⟩) (.inl rfl) v1).setCell (p := ⟨Q, 2, none⟩) (.inl rfl) v2).setCell (p := ⟨Q, 3, none⟩) (.inl rfl) v3
  · exact (((ho.setCell (p := ⟨Q, 0, none⟩) (.inr hQ) v0).setCell (p := ⟨Q, 1, none⟩) (.inr hQ) v1).setCell (p := ⟨Q, 2, none⟩) (.inr hQ) v2).setCell (p := ⟨Q, 3, none⟩) (.inr hQ) v3
set_option maxRecDepth 100000 in
theorem take_nil (x : Int) (w : World) : Calls Try.prog 11 #[.pointer none, .int .u64 x] w (OnePost w g0 1) := by
  have HZ := Lib.hid (Blk.new w 33 #[.int .u64 0, .int .i64 0, .int .i64 0, .string ⟨#[]⟩])
  go_enter Try.func11, Try.ntmps11
  go_wp2_with (go_at_call 29; ((with_reducible refine (one_nil _ _).mono ?_); rintro e w1 ⟨rfl, hb⟩; obtain ⟨k, c0, c1, c2, c3, f0, f1, f2, f3, hq⟩ := zcells HZ.out hb; have HK := Lib.hid k; have HB := Lib.hid hb; unfold gv; try unfold g0; dsimp only; clear hb k))
  exact ret_pair (cs := #[.int .u64 0, .int .i64 0, .int .i64 0, .string ⟨#[]⟩]) (T := 33) rfl rfl rfl (((((HK.out.set 0 _).set 1 _).set 2 _).set 3 _).alloc _) Try.underlying33 rfl (by kernel_rfl) rfl ⟨rfl, fin4 HB.out _ _ _ _ _⟩
set_option maxRecDepth 100000 in
theorem take_miss {w : World} {b h c N : Nat} {last : Int} {L : List G} {C : Int → Int → Bool} (n : NW w b h c last L C N) {x : Int} (hg : ¬ ∃ g ∈ L, g.id = x) (hu : U64 x) :
    Calls Try.prog 11 #[.pointer (some ⟨b, 0, none⟩), .int .u64 x] w (OnePost w g0 5) := by
  have HZ := Lib.hid (Blk.new w 33 #[.int .u64 0, .int .i64 0, .int .i64 0, .string ⟨#[]⟩])
  have HC := Lib.hid (one_miss (n.alloc (.cells #[.int .u64 0, .int .i64 0, .int .i64 0, .string ⟨#[]⟩] 33)) hg hu)
  clear n hg hu
  go_enter Try.func11, Try.ntmps11
  go_wp2_with (go_at_call 29; ((with_reducible refine (HC.out).mono ?_); rintro e w1 ⟨rfl, hb⟩; obtain ⟨k, c0, c1, c2, c3, f0, f1, f2, f3, hq⟩ := zcells HZ.out hb; have HK := Lib.hid k; have HB := Lib.hid hb; unfold gv; try unfold g0; dsimp only; clear hb k))
  exact ret_pair (cs := #[.int .u64 0, .int .i64 0, .int .i64 0, .string ⟨#[]⟩]) (T := 33) rfl rfl rfl (((((HK.out.set 0 _).set 1 _).set 2 _).set 3 _).alloc _) Try.underlying33 rfl (by kernel_rfl) rfl ⟨rfl, fin4 HB.out _ _ _ _ _⟩
set_option maxRecDepth 100000 in
set_option maxHeartbeats 1000000 in
theorem take_any {w : World} {b h c N : Nat} {last : Int} {L : List G} {C : Int → Int → Bool} (n : NW w b h c last L C N) {g : G} (hg : g ∈ L) {x : Int} (hx : g.id = x) {q : Bool} (hq : C g.fr g.tt = q) :
    Calls Try.prog 11 #[.pointer (some ⟨b, 0, none⟩), .int .u64 x] w (TakePost w (if q then g0 else g) (if q then 90 else 0) b h c last (if q then L else L.filter fun g' => !(g'.id == x)) C N) := by
  have hu : U64 x := by have := n.inv.2.2.2 g hg; have := n.inv.1; have := n.inv.2.1; unfold U64; omega
  have hfr : I64 g.fr ∧ I64 g.tt := (n.inv.2.2.2 g hg).2.2
  have HZ := Lib.hid (Blk.new w 33 #[.int .u64 0, .int .i64 0, .int .i64 0, .string ⟨#[]⟩])
  have HN := Lib.hid n
  have HC := Lib.hid (one_any (n.alloc (.cells #[.int .u64 0, .int .i64 0, .int .i64 0, .string ⟨#[]⟩] 33)) hg hx)
  have HX := Lib.hid (And.intro hu (And.intro hfr hq))
  have HWL := Lib.hid (And.intro n.blk.lt (And.intro n.gm.lt n.cm.lt))
  clear n hg hu hfr hq hx
  obtain ⟨id, fr, tt, tx⟩ := g
  go_enter Try.func11, Try.ntmps11
  go_upto_region 4 with (go_at_call 29; ((with_reducible refine (HC.out).mono ?_); rintro e w1 ⟨rfl, hb⟩; obtain ⟨k, c0, c1, c2, c3, f0, f1, f2, f3, hq⟩ := zcells HZ.out hb; have HK := Lib.hid k; have HB := Lib.hid hb; unfold gv; try unfold g0; dsimp only; clear hb k))
  have HN1 : Hid (NW (w1.alloc (.cells #[.int .u64 id, .int .i64 fr, .int .i64 tt, .string tx] 33)) b h c last L C N) := Lib.hid ((HN.out.below (below_a2 (HB.out.mono (by simp)))).alloc _)
  have n2 := HN1.out.c2
  have n1 := HN1.out.c1
  have HQ := Lib.hid (HK.out.alloc (.cells #[.int .u64 id, .int .i64 fr, .int .i64 tt, .string tx] 33))
  have HQH : Hid (w1.heap.size ≠ h) := Lib.hid (by have := HWL.out; have := HB.out.size; simp at this; omega)
  have HQ6 := Lib.hid (Blk.new w1 33 #[.int .u64 id, .int .i64 fr, .int .i64 tt, .string tx])
  have HBW : Hid (Only (· = h) w (w1.alloc (.cells #[.int .u64 id, .int .i64 fr, .int .i64 tt, .string tx] 33))) := Lib.hid ((Only.of_below (below_a2 (HB.out.mono (by simp)))).alloc _)
  clear c0 c1 c2 c3 f0 f1 f2 f3 hq HZ HN HC HK HB
  try clear hb
  try clear k
  generalize w1.alloc (.cells #[.int .u64 id, .int .i64 fr, .int .i64 tt, .string tx] 33) = W at *
  generalize w1.heap.size = Q6 at *
  have z0 : W.cell? ⟨Q6, 0, none⟩ = some (.int .u64 id) := by rw [HQ6.out.cell 0]; rfl
  have z1 : W.cell? ⟨Q6, 1, none⟩ = some (.int .i64 fr) := by rw [HQ6.out.cell 1]; rfl
  have z2 : W.cell? ⟨Q6, 2, none⟩ = some (.int .i64 tt) := by rw [HQ6.out.cell 2]; rfl
  have z3 : W.cell? ⟨Q6, 3, none⟩ = some (.string tx) := by rw [HQ6.out.cell 3]; rfl
  have hcut := (show CM W.drew c C N from HN1.out.cm).at HX.out.2.1.1 HX.out.2.1.2
  rw [HX.out.2.2] at hcut
  have hcut3 := HN1.out.cm.at HX.out.2.1.1 HX.out.2.1.2
  rw [HX.out.2.2] at hcut3
  cases q with
  | true =>
    go_region
    have HQ2 := Lib.hid (show Blk (W.drew) w.heap.size 33 #[.int .u64 0, .int .i64 0, .int .i64 0, .string ⟨#[]⟩] from HQ.out)
    have HT := Lib.hid (fun v0 v1 v2 v3 => tfin (W := W.drew) (Nat.le_refl w.heap.size) HWL.out (HN1.out.below (Below.refl _ _ |> fun h => ⟨h.os, h.tape, h.output, h.size, h.block⟩)) ⟨HBW.out.os, HBW.out.tape, HBW.out.output, HBW.out.size, HBW.out.block⟩ v0 v1 v2 v3)
    clear HQ HQ6 HN1 HBW n1 n2 z0 z1 z2 z3 hcut hcut3
    generalize W.drew = X at *
    have c0 : X.cell? ⟨w.heap.size, 0, none⟩ = some (.int .u64 0) := by rw [HQ2.out.cell 0]; rfl
    have c1 : X.cell? ⟨w.heap.size, 1, none⟩ = some (.int .i64 0) := by rw [HQ2.out.cell 1]; rfl
    have c2 : X.cell? ⟨w.heap.size, 2, none⟩ = some (.int .i64 0) := by rw [HQ2.out.cell 2]; rfl
    have c3 : X.cell? ⟨w.heap.size, 3, none⟩ = some (.string ⟨#[]⟩) := by rw [HQ2.out.cell 3]; rfl
    have hf := HQ2.out.frozen
    go_wp2_with fail
    exact ret_pair (cs := #[.int .u64 0, .int .i64 0, .int .i64 0, .string ⟨#[]⟩]) (T := 33) rfl rfl rfl ((((HQ2.out.set 0 _).set 1 _).set 2 _).set 3 _) Try.underlying33 rfl (by kernel_rfl) rfl ⟨rfl, HT.out _ _ _ _⟩
  | false =>
    go_region
    have HQ2 := Lib.hid (show Blk (W.drew) w.heap.size 33 #[.int .u64 0, .int .i64 0, .int .i64 0, .string ⟨#[]⟩] from HQ.out)
    have HQ7 := Lib.hid (show Blk (W.drew) Q6 33 #[.int .u64 id, .int .i64 fr, .int .i64 tt, .string tx] from HQ6.out)
    have HN2 : Hid (NW (W.drew) b h c last L C N) := Lib.hid (HN1.out.below (Below.refl _ _ |> fun h => ⟨h.os, h.tape, h.output, h.size, h.block⟩))
    have HBX : Hid (Only (· = h) w (W.drew)) := Lib.hid ⟨HBW.out.os, HBW.out.tape, HBW.out.output, HBW.out.size, HBW.out.block⟩
    clear HQ HQ6 HN1 HBW n1 n2 z0 z1 z2 z3 hcut hcut3
    generalize W.drew = X at *
    have n1 := HN2.out.c1
    obtain ⟨D, o, o1, o2, o3⟩ := HN2.out.gm
    have HO := Lib.hid o
    have HKEY := Lib.hid (keyG HX.out.1)
    have HF : Hid (∀ w5, w5.ownsMap Try.prog 29 gramE h N (D.del (KU x)) → X.mapTurned w5 h → NW w5 b h c last (L.filter fun g' => !(g'.id == x)) C N ∧ Only (· = h) X w5) := Lib.hid fun w5 o' t' => by
      obtain ⟨p1, p2, p3⟩ := del_ok o.isMap (o.tidy kdG) o1 o2 o3 HN2.out.inv.2.2.1 x
      have hoh := only_turned t'.grown
      exact ⟨⟨HN2.out.blk.only hoh HN2.out.ap.1, ⟨_, o', p1, p2, p3⟩, HN2.out.cm.kept t'.grown (by intro e; injection e with e; exact HN2.out.ap.2.2 e.symm), HN2.out.ap, inv_del HN2.out.inv _⟩, hoh⟩
    have HQS : Hid (w.heap.size ≠ h ∧ Q6 ≠ h) := Lib.hid ⟨by have := HWL.out; omega, HQH.out⟩
    clear o o1 o2 o3
    go_wp2_with (at_delete; refine wpList_delete_own _ rfl _ _ 55 29 rfl 33 kdG Try.underlying55 _ h N D rfl HO.out _ (KU x) rfl HKEY.out ?_; intro w5 o5 t5; have HR := Lib.hid (HF.out w5 o5 t5); have HQ8 := Lib.hid (HQ2.out.only (only_turned t5.grown) HQS.out.1); have HQ9 := Lib.hid (HQ7.out.only (only_turned t5.grown) HQS.out.2); have c0 : w5.cell? ⟨w.heap.size, 0, none⟩ = some (.int .u64 0) := (by rw [HQ8.out.cell 0]; rfl); have c1 : w5.cell? ⟨w.heap.size, 1, none⟩ = some (.int .i64 0) := (by rw [HQ8.out.cell 1]; rfl); have c2 : w5.cell? ⟨w.heap.size, 2, none⟩ = some (.int .i64 0) := (by rw [HQ8.out.cell 2]; rfl); have c3 : w5.cell? ⟨w.heap.size, 3, none⟩ = some (.string ⟨#[]⟩) := (by rw [HQ8.out.cell 3]; rfl); have hf := HQ8.out.frozen; have z0 : w5.cell? ⟨Q6, 0, none⟩ = some (.int .u64 id) := (by rw [HQ9.out.cell 0]; rfl); have z1 : w5.cell? ⟨Q6, 1, none⟩ = some (.int .i64 fr) := (by rw [HQ9.out.cell 1]; rfl); have z2 : w5.cell? ⟨Q6, 2, none⟩ = some (.int .i64 tt) := (by rw [HQ9.out.cell 2]; rfl); have z3 : w5.cell? ⟨Q6, 3, none⟩ = some (.string tx) := (by rw [HQ9.out.cell 3]; rfl); clear o5 t5 n1)
    have HT := Lib.hid (fun v0 v1 v2 v3 => tfin (W := w5) (Nat.le_refl w.heap.size) HWL.out HR.out.1 (HBX.out.trans HR.out.2) v0 v1 v2 v3)
    exact ret_pair (cs := #[.int .u64 id, .int .i64 fr, .int .i64 tt, .string tx]) (T := 33) rfl rfl rfl ((((HQ8.out.set 0 _).set 1 _).set 2 _).set 3 _) Try.underlying33 rfl (by kernel_rfl) rfl ⟨rfl, HT.out _ _ _ _⟩
end Go.Proofs.Ytfjadphgjjlhiaa
