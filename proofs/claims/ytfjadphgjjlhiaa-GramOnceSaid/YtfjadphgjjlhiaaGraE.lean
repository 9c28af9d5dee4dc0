
/- The walks of a net's Double, Cut and Heal. No condition but that the net is one, and not beyond any bound. -/
import Derived.Test.YtfjadphgjjlhiaaGraD
namespace Go.Proofs.Ytfjadphgjjlhiaa
open Go.RowKit Go.Maps Gr Sok
set_option linter.unusedVariables false
set_option linter.unusedSimpArgs false
/-- A call that only makes memory. -/
def MkPost (w : World) (v : Value) (e : Ending) (w' : World) : Prop := e = .returned v ∧ Below w.heap.size w w'
set_option maxRecDepth 100000 in
theorem double_nil (x : Int) (w : World) : Calls Try.prog 10 #[.pointer none, .int .u64 x] w (MkPost w (.tuple #[.int .u64 0, .int .i64 1])) := by
  go_enter Try.func10, Try.ntmps10
  go_wp2_with (go_at_call 29; ((with_reducible refine (one_nil _ _).mono ?_); rintro e w1 ⟨rfl, hb⟩; have HB := Lib.hid hb; clear hb; unfold gv; try unfold g0))
  go_ret2
  exact ⟨rfl, HB.out.alloc HB.out.size _⟩
set_option maxRecDepth 100000 in
theorem double_miss {w : World} {b h c N : Nat} {last : Int} {L : List G} {C : Int → Int → Bool} (n : NW w b h c last L C N) {x : Int} (hg : ¬ ∃ g ∈ L, g.id = x) (hu : U64 x) :
    Calls Try.prog 10 #[.pointer (some ⟨b, 0, none⟩), .int .u64 x] w (MkPost w (.tuple #[.int .u64 0, .int .i64 5])) := by
  have HC := Lib.hid (one_miss n hg hu)
  clear n hg hu
  go_enter Try.func10, Try.ntmps10
  go_wp2_with (go_at_call 29; ((with_reducible refine (HC.out).mono ?_); rintro e w1 ⟨rfl, hb⟩; have HB := Lib.hid hb; clear hb; unfold gv; try unfold g0))
  go_ret2
  exact ⟨rfl, HB.out.alloc HB.out.size _⟩
def DbPost (w : World) (b h c : Nat) (last : Int) (L : List G) (C : Int → Int → Bool) (N : Nat) (g : G) (e : Ending) (w' : World) : Prop :=
  e = .returned (.tuple #[.int .u64 (last + 1), .int .i64 0]) ∧ NW w' b h c (last + 1) (L ++ [{ g with id := last + 1 }]) C (N + 1) ∧ Only (fun k => k = b ∨ k = h) w w'
set_option maxRecDepth 100000 in
set_option maxHeartbeats 1000000 in
theorem double_full {w : World} {b h c N : Nat} {last : Int} {L : List G} {C : Int → Int → Bool} (n : NW w b h c last L C N) {g : G} (hg : g ∈ L) {x : Int} (hx : g.id = x) (hf : 4096 ≤ L.length) :
    Calls Try.prog 10 #[.pointer (some ⟨b, 0, none⟩), .int .u64 x] w (MkPost w (.tuple #[.int .u64 0, .int .i64 6])) := by
  have HC := Lib.hid (one_any n hg hx)
  have HN := Lib.hid n
  have hf' : (4096 : Int) ≤ (L.length : Int) := by omega
  clear n hg hx hf
  obtain ⟨id, fr, tt, tx⟩ := g
  go_enter Try.func10, Try.ntmps10
  go_upto_region 4 with (go_at_call 29; ((with_reducible refine (HC.out).mono ?_); rintro e w1 ⟨rfl, hb⟩; have HB := Lib.hid hb; clear hb; unfold gv; try unfold g0))
  have HN1 := Lib.hid ((HN.out.below HB.out).alloc (.cells #[.int .u64 id, .int .i64 fr, .int .i64 tt, .string tx] 33))
  have HB1 := Lib.hid (HB.out.alloc HB.out.size (.cells #[.int .u64 id, .int .i64 fr, .int .i64 tt, .string tx] 33))
  have n1 := HN1.out.c1
  obtain ⟨D, o, o1, o2, o3⟩ := HN1.out.gm
  have HO := Lib.hid o
  have hlen : ((Maps.size D : Nat) : Int) = (L.length : Int) := by rw [o3]
  clear o o1 o2 o3 HB HN HC
  go_wp2_with (at_len; refine wpList_len_own _ rfl _ 55 rfl 29 33 Try.underlying55 _ h N D rfl HO.out ?_; rw [hlen])
  go_ret2
  exact ⟨rfl, HB1.out⟩
set_option maxRecDepth 100000 in
set_option maxHeartbeats 1000000 in
theorem double_any {w : World} {b h c N : Nat} {last : Int} {L : List G} {C : Int → Int → Bool} (n : NW w b h c last L C N) {g : G} (hg : g ∈ L) {x : Int} (hx : g.id = x) (hf : ¬ 4096 ≤ L.length) (hl : last + 1 ≤ 4611686018427387904) (hN : N ≤ 1000000) :
    Calls Try.prog 10 #[.pointer (some ⟨b, 0, none⟩), .int .u64 x] w (DbPost w b h c last L C N g) := by
  have HC := Lib.hid (one_any n hg hx)
  have HN := Lib.hid n
  have hf' : ¬ (4096 : Int) ≤ (L.length : Int) := by omega
  have HX := Lib.hid (And.intro hl (And.intro hN (n.inv.2.2.2 g hg).2.2))
  clear n hg hx hf hl hN
  obtain ⟨id, fr, tt, tx⟩ := g
  go_enter Try.func10, Try.ntmps10
  go_upto_region 4 with (go_at_call 29; ((with_reducible refine (HC.out).mono ?_); rintro e w1 ⟨rfl, hb⟩; have HB := Lib.hid hb; clear hb; unfold gv; try unfold g0))
  have HN1 := Lib.hid ((HN.out.below HB.out).alloc (.cells #[.int .u64 id, .int .i64 fr, .int .i64 tt, .string tx] 33))
  have HB1 := Lib.hid (HB.out.alloc HB.out.size (.cells #[.int .u64 id, .int .i64 fr, .int .i64 tt, .string tx] 33))
  have n1 := HN1.out.c1
  obtain ⟨D, o, o1, o2, o3⟩ := HN1.out.gm
  have HO := Lib.hid o
  have hlen : ((Maps.size D : Nat) : Int) = (L.length : Int) := by rw [o3]
  have HP : Hid (Calls Try.prog 28 #[.pointer (some ⟨b, 0, none⟩), .agg #[.int .u64 id, .int .i64 fr, .int .i64 tt, .string tx]] _ _) := Lib.hid (put_any HN1.out ⟨id, fr, tt, tx⟩ HX.out.1 HX.out.2.1 HX.out.2.2.1 HX.out.2.2.2)
  clear o o1 o2 o3 HB HN HC
  go_wp2_with (first | (at_len; refine wpList_len_own _ rfl _ 55 rfl 29 33 Try.underlying55 _ h N D rfl HO.out ?_; rw [hlen]) | (go_at_call 28; ((with_reducible refine HP.out.mono ?_); rintro e w5 ⟨rfl, hn5, ho5⟩)))
  go_ret2
  exact ⟨rfl, hn5, (Only.of_below HB1.out).trans ho5⟩
theorem pl2 (w : World) (a b : Int) : Pl (w.alloc (.cells #[.int .i64 a, .int .i64 b] 3)) (some ⟨w.heap.size, 0, none⟩) [a, b] := by
  refine .inr ⟨_, 0, rfl, fun i hi => ?_⟩
  have hB := Blk.new w 3 #[.int .i64 a, .int .i64 b]
  rw [show (0 + i) = i by omega, hB.cell i]
  rcases i with _ | _ | i
  · rfl
  · rfl
  · simp at hi; omega
def bad2 (a b : Int) : Bool := bad a || bad b
theorem any2 (a b : Int) : [a, b].any bad = bad2 a b := by simp [bad2]
set_option maxRecDepth 100000 in
theorem cut_nil (x y : Int) (w : World) : Calls Try.prog 20 #[.pointer none, .int .i64 x, .int .i64 y] w (MkPost w (.int .i64 1)) := by
  go_enter Try.func20, Try.ntmps20
  go_wp2_with (go_at_call 27; ((with_reducible refine (may_nil _ _).mono ?_); rintro e w' ⟨rfl, rfl⟩))
  go_ret
  exact ⟨rfl, (Below.refl _ _).alloc (Nat.le_refl _) _⟩
set_option maxRecDepth 100000 in
theorem heal_nil (x y : Int) (w : World) : Calls Try.prog 22 #[.pointer none, .int .i64 x, .int .i64 y] w (MkPost w (.int .i64 1)) := by
  go_enter Try.func22, Try.ntmps22
  go_wp2_with (go_at_call 27; ((with_reducible refine (may_nil _ _).mono ?_); rintro e w' ⟨rfl, rfl⟩))
  go_ret
  exact ⟨rfl, (Below.refl _ _).alloc (Nat.le_refl _) _⟩
def CutPost (w : World) (k : Int) (b h c : Nat) (last : Int) (L : List G) (C : Int → Int → Bool) (N : Nat) (e : Ending) (w' : World) : Prop := e = .returned (.int .i64 k) ∧ NW w' b h c last L C N ∧ Only (· = c) w w'
set_option maxRecDepth 100000 in
theorem cut_bad {w : World} {b h c N : Nat} {last : Int} {L : List G} {C : Int → Int → Bool} (n : NW w b h c last L C N) {x y : Int} (hbad : bad2 x y = true) :
    Calls Try.prog 20 #[.pointer (some ⟨b, 0, none⟩), .int .i64 x, .int .i64 y] w (MkPost w (.int .i64 2)) := by
  have HM := Lib.hid (may_any (m := 2) (cap := 2) (n.alloc (.cells #[.int .i64 x, .int .i64 y] 3)) ((any2 x y).trans hbad) (pl2 w x y) rfl (by decide))
  clear n hbad
  go_enter Try.func20, Try.ntmps20
  go_wp2_with (go_at_call 27; ((with_reducible refine HM.out.mono ?_); rintro e w' ⟨rfl, rfl⟩))
  go_ret
  exact ⟨rfl, (Below.refl _ _).alloc (Nat.le_refl _) _⟩
set_option maxRecDepth 100000 in
  theorem heal_bad {w : World} {b h c N : Nat} {last : Int} {L : List G} {C : Int → Int → Bool} (n : NW w b h c last L C N) {x y : Int} (hbad : bad2 x y = true) :
      Calls Try.prog 22 #[.pointer (some ⟨b, 0, none⟩), .int .i64 x, .int .i64 y] w (MkPost w (.int .i64 2)) := by
    have HM := Lib.hid (may_any (m := 2) (cap := 2) (n.alloc (.cells #[.int .i64 x, .int .i64 y] 3)) ((any2 x y).trans hbad) (pl2 w x y) rfl (by decide))
    clear n hbad
    go_enter Try.func22, Try.ntmps22
    go_wp2_with (go_at_call 27; ((with_reducible refine HM.out.mono ?_); rintro e w' ⟨rfl, rfl⟩))
    go_ret
    exact ⟨rfl, (Below.refl _ _).alloc (Nat.le_refl _) _⟩
theorem i64_of_bad {x y : Int} (h : bad2 x y = false) : I64 x ∧ I64 y := by
  unfold bad2 bad at h
  simp at h
  unfold I64; omega
set_option maxRecDepth 100000 in
set_option maxHeartbeats 1000000 in
theorem cut_any {w : World} {b h c N : Nat} {last : Int} {L : List G} {C : Int → Int → Bool} (n : NW w b h c last L C N) {x y : Int} (hbad : bad2 x y = false) (hN : N ≤ 1000000) :
    Calls Try.prog 20 #[.pointer (some ⟨b, 0, none⟩), .int .i64 x, .int .i64 y] w (CutPost w 0 b h c last L (fun p q => C p q || (p == x && q == y)) (N + 1)) := by
  have n1 := n.alloc (.cells #[.int .i64 x, .int .i64 y] 3)
  have HM := Lib.hid (may_any (m := 2) (cap := 2) n1 ((any2 x y).trans hbad) (pl2 w x y) rfl (by decide))
  obtain ⟨hx, hy⟩ := i64_of_bad hbad
  have HKEY := Lib.hid (keyW hx hy)
  obtain ⟨D, o, o1⟩ := n1.cm
  have HO := Lib.hid o
  have HNM : Hid (N < maxLen) := Lib.hid (by unfold maxLen; omega)
  have c2 := n1.c2
  have HF : Hid (∀ w5, w5.ownsMap Try.prog 68 (plainElem Try.prog 3) c (N + 1) (D.put (KW x y) (vi 1)) → (w.alloc (.cells #[.int .i64 x, .int .i64 y] 3)).grownBy w5 (some c) → CutPost w 0 b h c last L (fun p q => C p q || (p == x && q == y)) (N + 1) (.returned (.int .i64 0)) w5) := Lib.hid fun w5 o' g' => by
    have hoc := only_turned g'
    exact ⟨rfl, ⟨n1.blk.only hoc n1.ap.2.1, (n1.gm.kept g' (by intro e; injection e with e; exact n1.ap.2.2 e)).mono (Nat.le_succ _), CM.of_put o.isMap o1 hx hy o', n1.ap, n1.inv⟩, ((Only.refl _ w).alloc _).trans hoc⟩
  clear n n1 hbad hN hx hy o o1
  go_enter Try.func20, Try.ntmps20
  go_wp2_with (first | (go_at_call 27; ((with_reducible refine HM.out.mono ?_); rintro e w' ⟨rfl, rfl⟩)) | (at_mapUpdate; refine wpList_mapUpdate_own _ rfl _ _ _ 62 rfl 68 3 kdW Try.underlying62 _ c N D rfl HO.out HNM.out _ _ (KW x y) rfl rfl HKEY.out (vi 1) [] (plainElem_int Try.underlying3 (by decide)) ?_; intro w5 o5 g5; have HR := Lib.hid (HF.out _ o5 g5); clear o5 g5 c2))
  go_ret
  exact HR.out
set_option maxRecDepth 100000 in
set_option maxHeartbeats 1000000 in
theorem heal_any {w : World} {b h c N : Nat} {last : Int} {L : List G} {C : Int → Int → Bool} (n : NW w b h c last L C N) {x y : Int} (hbad : bad2 x y = false) :
    Calls Try.prog 22 #[.pointer (some ⟨b, 0, none⟩), .int .i64 x, .int .i64 y] w (CutPost w 0 b h c last L (fun p q => C p q && !(p == x && q == y)) N) := by
  have n1 := n.alloc (.cells #[.int .i64 x, .int .i64 y] 3)
  have HM := Lib.hid (may_any (m := 2) (cap := 2) n1 ((any2 x y).trans hbad) (pl2 w x y) rfl (by decide))
  obtain ⟨hx, hy⟩ := i64_of_bad hbad
  have HKEY := Lib.hid (keyW hx hy)
  obtain ⟨D, o, o1⟩ := n1.cm
  have HO := Lib.hid o
  have c2 := n1.c2
  have HF : Hid (∀ w5, w5.ownsMap Try.prog 68 (plainElem Try.prog 3) c N (D.del (KW x y)) → (w.alloc (.cells #[.int .i64 x, .int .i64 y] 3)).mapTurned w5 c → CutPost w 0 b h c last L (fun p q => C p q && !(p == x && q == y)) N (.returned (.int .i64 0)) w5) := Lib.hid fun w5 o' t' => by
    have hoc := only_turned t'.grown
    exact ⟨rfl, ⟨n1.blk.only hoc n1.ap.2.1, n1.gm.kept t'.grown (by intro e; injection e with e; exact n1.ap.2.2 e), CM.of_del o1 hx hy o', n1.ap, n1.inv⟩, ((Only.refl _ w).alloc _).trans hoc⟩
  clear n n1 hbad hx hy o o1
  go_enter Try.func22, Try.ntmps22
  go_wp2_with (first | (go_at_call 27; ((with_reducible refine HM.out.mono ?_); rintro e w' ⟨rfl, rfl⟩)) | (at_delete; refine wpList_delete_own _ rfl _ _ 62 68 rfl 3 kdW Try.underlying62 _ c N D rfl HO.out _ (KW x y) rfl HKEY.out ?_; intro w5 o5 t5; have HR := Lib.hid (HF.out w5 o5 t5); clear o5 t5 c2))
  go_ret
  exact HR.out
end Go.Proofs.Ytfjadphgjjlhiaa
