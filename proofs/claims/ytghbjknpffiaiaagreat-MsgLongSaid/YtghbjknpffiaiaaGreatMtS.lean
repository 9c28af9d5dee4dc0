import Derived.Test.YtghbjknpffiaiaaGreatMtQ
namespace Go.Proofs.YtghbjknpffiaiaaGreat
open Go.RowKit Wire Ms
set_option linter.unusedVariables false
set_option linter.unusedSimpArgs false
def oif (m : M) (p : Pt) (t : M) : M := if hasK m.kind p then cp p m t else t
structure OW (W : World) (B g go r : Nat) (m : M) (v : VS) (t : M) (u : VS) (w : World) : Prop where
 gm : Blk w g 34 (mcells m v)
 gt : Blk w go 34 (mcells t u)
 gr : ∃ A, Blk w r 34 A ∧ A.size = 19
 rm : MR w B m v
 ru : MR w B t u
 bel : Below W.heap.size W w
 ne : g ≠ go ∧ r ≠ go ∧ B ≤ go ∧ W.heap.size ≤ go
 le : B ≤ w.heap.size
section
variable {W w w' : World} {B g go r : Nat} {m t : M} {v u : VS}
theorem OW.step (x : OW W B g go r m v t u w) (hb : Below w.heap.size w w') : OW W B g go r m v t u w' := by
 obtain ⟨A, h1, h2⟩ := x.gr
 have hw : W.heap.size ≤ w.heap.size := x.bel.size
 exact ⟨x.gm.below hb, x.gt.below hb, ⟨A, h1.below hb, h2⟩, x.rm.keep fun b o y h1 h2 => Below.cellq hb (by have := x.le; omega) h2, x.ru.keep fun b o y h1 h2 => Below.cellq hb (by have := x.le; omega) h2, x.bel.trans (hb.mono hw), x.ne, Nat.le_trans x.le hb.size⟩
theorem OW.put {t' : M} {u' : VS} (x : OW W B g go r m v t u w) (ho : Only (· = go) w w') (hk : Blk w' go 34 (mcells t' u')) (hr : MR w B t' u') : OW W B g go r m v t' u' w' := by
 obtain ⟨A, h1, h2⟩ := x.gr
 have hw : W.heap.size ≤ w.heap.size := x.bel.size
 have kp : ∀ b o y, b < B → w.cell? ⟨b, o, none⟩ = some y → w'.cell? ⟨b, o, none⟩ = some y := fun b o y hb hy => Only.cellq ho hy fun e => by have e' : b = go := e; have := x.ne; omega
 exact ⟨x.gm.only ho x.ne.1, hk, ⟨A, h1.only ho x.ne.2.1, h2⟩, x.rm.keep kp, hr.keep kp, x.bel.trans (Only.below ho hw fun k e => by have e' : k = go := e; have := x.ne; omega), x.ne, Nat.le_trans x.le ho.size⟩
end
theorem ow_J {W w : World} {B g go r : Nat} {m t : M} {v u : VS} (x : OW W B g go r m v t u w) : OW W B g go r m v (cp .J m t) u (w.setCell ⟨go, 1, none⟩ (.int .u64 m.job)) :=
 have hm := x.rm
 have hu := x.ru
 x.put (Only.refl (· = go) w).set1 (x.gt.set 1 (.int .u64 m.job)) ⟨hu.ri, hu.ra, hu.rn, hu.rh, hu.rm, hu.rc⟩
theorem ow_T {W w : World} {B g go r : Nat} {m t : M} {v u : VS} (x : OW W B g go r m v t u w) : OW W B g go r m v (cp .T m t) u (w.setCell ⟨go, 2, none⟩ (.string m.tok)) :=
 have hm := x.rm
 have hu := x.ru
 x.put (Only.refl (· = go) w).set1 (x.gt.set 2 (.string m.tok)) ⟨hu.ri, hu.ra, hu.rn, hu.rh, hu.rm, hu.rc⟩
theorem ow_P {W w : World} {B g go r : Nat} {m t : M} {v u : VS} (x : OW W B g go r m v t u w) : OW W B g go r m v (cp .P m t) u (w.setCell ⟨go, 3, none⟩ (.string m.prog)) :=
 have hm := x.rm
 have hu := x.ru
 x.put (Only.refl (· = go) w).set1 (x.gt.set 3 (.string m.prog)) ⟨hu.ri, hu.ra, hu.rn, hu.rh, hu.rm, hu.rc⟩
theorem ow_I {W w : World} {B g go r : Nat} {m t : M} {v u : VS} (x : OW W B g go r m v t u w) : OW W B g go r m v (cp .I m t) ⟨v.i, u.a, u.n, u.h, u.m, u.c⟩ (w.setCell ⟨go, 4, none⟩ (v.i)) :=
 have hm := x.rm
 have hu := x.ru
 x.put (Only.refl (· = go) w).set1 (x.gt.set 4 (v.i)) ⟨hm.ri, hu.ra, hu.rn, hu.rh, hu.rm, hu.rc⟩
theorem ow_F {W w : World} {B g go r : Nat} {m t : M} {v u : VS} (x : OW W B g go r m v t u w) : OW W B g go r m v (cp .F m t) u (w.setCell ⟨go, 5, none⟩ (.int .i64 m.fuel)) :=
 have hm := x.rm
 have hu := x.ru
 x.put (Only.refl (· = go) w).set1 (x.gt.set 5 (.int .i64 m.fuel)) ⟨hu.ri, hu.ra, hu.rn, hu.rh, hu.rm, hu.rc⟩
theorem ow_K {W w : World} {B g go r : Nat} {m t : M} {v u : VS} (x : OW W B g go r m v t u w) : OW W B g go r m v (cp .K m t) ⟨u.i, v.a, u.n, u.h, u.m, u.c⟩ ((((w.setCell ⟨go, 6, none⟩ (.string m.task.path)).setCell ⟨go, 7, none⟩ (.int .i64 m.task.fn)).setCell ⟨go, 8, none⟩ (v.a)).setCell ⟨go, 9, none⟩ (.int .i64 m.task.fuel)) :=
 have hm := x.rm
 have hu := x.ru
 x.put (Only.refl (· = go) w).set1.set1.set1.set1 ((((x.gt.set 6 (.string m.task.path)).set 7 (.int .i64 m.task.fn)).set 8 (v.a)).set 9 (.int .i64 m.task.fuel)) ⟨hu.ri, hm.ra, hu.rn, hu.rh, hu.rm, hu.rc⟩
theorem ow_E {W w : World} {B g go r : Nat} {m t : M} {v u : VS} (x : OW W B g go r m v t u w) : OW W B g go r m v (cp .E m t) u (w.setCell ⟨go, 10, none⟩ (.int .u64 m.epoch)) :=
 have hm := x.rm
 have hu := x.ru
 x.put (Only.refl (· = go) w).set1 (x.gt.set 10 (.int .u64 m.epoch)) ⟨hu.ri, hu.ra, hu.rn, hu.rh, hu.rm, hu.rc⟩
theorem ow_N {W w : World} {B g go r : Nat} {m t : M} {v u : VS} (x : OW W B g go r m v t u w) : OW W B g go r m v (cp .N m t) ⟨u.i, u.a, v.n, u.h, u.m, u.c⟩ (w.setCell ⟨go, 11, none⟩ (v.n)) :=
 have hm := x.rm
 have hu := x.ru
 x.put (Only.refl (· = go) w).set1 (x.gt.set 11 (v.n)) ⟨hu.ri, hu.ra, hm.rn, hu.rh, hu.rm, hu.rc⟩
theorem ow_H {W w : World} {B g go r : Nat} {m t : M} {v u : VS} (x : OW W B g go r m v t u w) : OW W B g go r m v (cp .H m t) ⟨u.i, u.a, u.n, v.h, u.m, u.c⟩ (w.setCell ⟨go, 12, none⟩ (v.h)) :=
 have hm := x.rm
 have hu := x.ru
 x.put (Only.refl (· = go) w).set1 (x.gt.set 12 (v.h)) ⟨hu.ri, hu.ra, hu.rn, hm.rh, hu.rm, hu.rc⟩
theorem ow_A {W w : World} {B g go r : Nat} {m t : M} {v u : VS} (x : OW W B g go r m v t u w) : OW W B g go r m v (cp .A m t) ⟨u.i, u.a, u.n, u.h, v.m, u.c⟩ (w.setCell ⟨go, 13, none⟩ (v.m)) :=
 have hm := x.rm
 have hu := x.ru
 x.put (Only.refl (· = go) w).set1 (x.gt.set 13 (v.m)) ⟨hu.ri, hu.ra, hu.rn, hu.rh, hm.rm, hu.rc⟩
theorem ow_C {W w : World} {B g go r : Nat} {m t : M} {v u : VS} (x : OW W B g go r m v t u w) : OW W B g go r m v (cp .C m t) ⟨u.i, u.a, u.n, u.h, u.m, v.c⟩ (w.setCell ⟨go, 14, none⟩ (v.c)) :=
 have hm := x.rm
 have hu := x.ru
 x.put (Only.refl (· = go) w).set1 (x.gt.set 14 (v.c)) ⟨hu.ri, hu.ra, hu.rn, hu.rh, hu.rm, hm.rc⟩
theorem ow_S {W w : World} {B g go r : Nat} {m t : M} {v u : VS} (x : OW W B g go r m v t u w) : OW W B g go r m v (cp .S m t) u (w.setCell ⟨go, 15, none⟩ (.int .u8 m.state)) :=
 have hm := x.rm
 have hu := x.ru
 x.put (Only.refl (· = go) w).set1 (x.gt.set 15 (.int .u8 m.state)) ⟨hu.ri, hu.ra, hu.rn, hu.rh, hu.rm, hu.rc⟩
theorem ow_R {W w : World} {B g go r : Nat} {m t : M} {v u : VS} (x : OW W B g go r m v t u w) : OW W B g go r m v (cp .R m t) u ((w.setCell ⟨go, 16, none⟩ (.int .i64 m.res.val)).setCell ⟨go, 17, none⟩ (.int .i64 m.res.err)) :=
 have hm := x.rm
 have hu := x.ru
 x.put (Only.refl (· = go) w).set1.set1 ((x.gt.set 16 (.int .i64 m.res.val)).set 17 (.int .i64 m.res.err)) ⟨hu.ri, hu.ra, hu.rn, hu.rh, hu.rm, hu.rc⟩
theorem ow_X {W w : World} {B g go r : Nat} {m t : M} {v u : VS} (x : OW W B g go r m v t u w) : OW W B g go r m v (cp .X m t) u (w.setCell ⟨go, 18, none⟩ (.int .i64 m.err)) :=
 have hm := x.rm
 have hu := x.ru
 x.put (Only.refl (· = go) w).set1 (x.gt.set 18 (.int .i64 m.err)) ⟨hu.ri, hu.ra, hu.rn, hu.rh, hu.rm, hu.rc⟩
theorem ol_fin {w w' : World} {B go r : Nat} {t : M} {u : VS} {W : World} {g : Nat} (h : MR w B t u) (ho : Only (· = W.heap.size + 1 + 1) w w') (hn : g ≠ go ∧ r ≠ go ∧ B ≤ go ∧ W.heap.size ≤ go) (hB : B ≤ W.heap.size) : MR w' B t u := h.keep fun b o y hb hy => Only.cellq ho hy fun e => by have e' : b = W.heap.size + 1 + 1 := e; omega
theorem ol_bel {W w w' : World} (h : Below W.heap.size W w) (ho : Only (· = W.heap.size + 1 + 1) w w') : Below W.heap.size W w' := h.trans (Only.below ho h.size fun k e => by have e' : k = W.heap.size + 1 + 1 := e; omega)
def OlP (W : World) (B : Nat) (t : M) (e : Ending) (w' : World) : Prop := ∃ u, e = .returned (.agg (mcells t u)) ∧ MR w' B t u ∧ Below W.heap.size W w'
set_option maxRecDepth 100000 in
set_option maxHeartbeats 8000000 in
theorem onlyl26_any {m t0 : M} {W : World} {B : Nat} {v u : VS} (hv : MR W B m v) (hu : MR W B t0 u) (hB : B ≤ W.heap.size) (hkind : 0 ≤ m.kind ∧ m.kind ≤ 255) :
  Calls Tryz.prog 52 #[.agg (mcells m v), .agg (mcells t0 u)] W (OlP W B (oif m .X (oif m .R (oif m .S (oif m .C (oif m .A (oif m .H (oif m .N t0)))))))) := by
 have HHN := Lib.hid (fun w => (show Calls Tryz.prog 23 #[.int .u8 m.kind, .int .u8 78] w (HaPost (hasK m.kind .N) w) from has26_any hkind .N w))
 have HHH := Lib.hid (fun w => (show Calls Tryz.prog 23 #[.int .u8 m.kind, .int .u8 72] w (HaPost (hasK m.kind .H) w) from has26_any hkind .H w))
 have HHA := Lib.hid (fun w => (show Calls Tryz.prog 23 #[.int .u8 m.kind, .int .u8 65] w (HaPost (hasK m.kind .A) w) from has26_any hkind .A w))
 have HHC := Lib.hid (fun w => (show Calls Tryz.prog 23 #[.int .u8 m.kind, .int .u8 67] w (HaPost (hasK m.kind .C) w) from has26_any hkind .C w))
 have HHS := Lib.hid (fun w => (show Calls Tryz.prog 23 #[.int .u8 m.kind, .int .u8 83] w (HaPost (hasK m.kind .S) w) from has26_any hkind .S w))
 have HHR := Lib.hid (fun w => (show Calls Tryz.prog 23 #[.int .u8 m.kind, .int .u8 82] w (HaPost (hasK m.kind .R) w) from has26_any hkind .R w))
 have HHX := Lib.hid (fun w => (show Calls Tryz.prog 23 #[.int .u8 m.kind, .int .u8 88] w (HaPost (hasK m.kind .X) w) from has26_any hkind .X w))
 have hstart : ∀ A : Array Value, A.size = 19 → OW W B W.heap.size (W.heap.size + 1) (W.heap.size + 1 + 1) m v t0 u (((W.alloc (.cells (mcells m v) 34)).alloc (.cells (mcells t0 u) 34)).alloc (.cells A 34)) := fun A hA => by
  have hb : Below W.heap.size W (((W.alloc (.cells (mcells m v) 34)).alloc (.cells (mcells t0 u) 34)).alloc (.cells A 34)) := (((Below.refl _ W).alloc (Nat.le_refl _) _).alloc (by simp) _).alloc (by simp; omega) _
  have h2 := blk_new1 (W.alloc (.cells (mcells m v) 34)) (.cells (mcells t0 u) 34) 34 A
  rw [show (W.alloc (.cells (mcells m v) 34)).heap.size + 1 = W.heap.size + 1 + 1 by simp] at h2
  exact ⟨((Blk.new W _ _).alloc _).alloc _, (blk_new1 W _ _ _).alloc _, ⟨A, h2, hA⟩, hv.keep fun b o y h1 h2 => Below.cellq hb (by omega) h2, hu.keep fun b o y h1 h2 => Below.cellq hb (by omega) h2, hb, by omega, Nat.le_trans hB hb.size⟩
 have HO0 := Lib.hid (hstart (#[.int .u8 0, .int .u64 0, .string ⟨#[]⟩, .string ⟨#[]⟩, .slice none 0 0, .int .i64 0, .string ⟨#[]⟩, .int .i64 0, .slice none 0 0, .int .i64 0, .int .u64 0, .slice none 0 0, .slice none 0 0, .slice none 0 0, .slice none 0 0, .int .u8 0, .int .i64 0, .int .i64 0, .int .i64 0] : Array Value) rfl)
 clear hstart
 have HBB := Lib.hid hB
 obtain ⟨p1, c1, p2, c2, p3, c3, p4, c4, p5, c5, p6, c6, rfl⟩ := hv.vs
 obtain ⟨q1, d1, q2, d2, q3, d3, q4, d4, q5, d5, q6, d6, rfl⟩ := hu.vs
 clear hv hu hB hkind
 go_enter Tryz.func52, Tryz.ntmps52
 go_upto_region 1 with fail
 generalize ((W.alloc (.cells (mcells m ⟨.slice p1 m.input.length c1, .slice p2 m.task.args.length c2, .slice p3 m.ents.length c3, .slice p4 m.epochs.length c4, .slice p5 m.names.length c5, .slice p6 m.codes.length c6⟩) 34)).alloc (.cells (mcells t0 ⟨.slice q1 t0.input.length d1, .slice q2 t0.task.args.length d2, .slice q3 t0.ents.length d3, .slice q4 t0.epochs.length d4, .slice q5 t0.names.length d5, .slice q6 t0.codes.length d6⟩) 34)).alloc (.cells (#[.int .u8 0, .int .u64 0, .string ⟨#[]⟩, .string ⟨#[]⟩, .slice none 0 0, .int .i64 0, .string ⟨#[]⟩, .int .i64 0, .slice none 0 0, .int .i64 0, .int .u64 0, .slice none 0 0, .slice none 0 0, .slice none 0 0, .slice none 0 0, .int .u8 0, .int .i64 0, .int .i64 0, .int .i64 0] : Array Value) 34) = w0 at *
 have y0 : w0.cell? ⟨W.heap.size, 0, none⟩ = some (.int .u8 m.kind) := HO0.out.gm.cell 0
 go_upto_if 9 with (go_at_call 23; go_loud ((with_reducible refine (HHN.out _).mono ?_); rintro e wh ⟨rfl, hbq⟩; have HX := Lib.hid (HO0.out.step hbq); clear hbq))
 clear HHN HO0
 go_cut [] (fun wd => ∃ u, OW W B W.heap.size (W.heap.size + 1) (W.heap.size + 1 + 1) m ⟨.slice p1 m.input.length c1, .slice p2 m.task.args.length c2, .slice p3 m.ents.length c3, .slice p4 m.epochs.length c4, .slice p5 m.names.length c5, .slice p6 m.codes.length c6⟩ (oif m .N t0) u wd)
 case first =>
  cases hk : hasK m.kind .N with
  | false =>
   have he : oif m .N t0 = t0 := by unfold oif; rw [hk]; rfl
   have HE := Lib.hid he
   clear hk he
   go_wp2_with fail
   go_meet
   exact ⟨_, by rw [HE.out]; exact HX.out⟩
  | true =>
   have he : oif m .N t0 = cp .N m t0 := by unfold oif; rw [hk]; rfl
   have HE := Lib.hid he
   clear hk he
   have z11 : wh.cell? ⟨W.heap.size, 11, none⟩ = some (.slice p3 m.ents.length c3) := HX.out.gm.cell 11
   have y11 : wh.cell? ⟨(W.heap.size + 1), 11, none⟩ = some (.slice q3 t0.ents.length d3) := HX.out.gt.cell 11
   have yf : ∀ o, wh.frozen? ⟨(W.heap.size + 1), o, none⟩ = false := HX.out.gt.frozen
   have HP := Lib.hid (ow_N HX.out)
   go_wp2_with fail
   go_meet
   exact ⟨_, by rw [HE.out]; exact HP.out⟩
 case rest =>
  clear HX
  obtain ⟨u, hx⟩ := hcut
  obtain ⟨q1, d1, q2, d2, q3, d3, q4, d4, q5, d5, q6, d6, rfl⟩ := hx.ru.vs
  obtain ⟨t1, ht⟩ : ∃ t1, t1 = oif m .N t0 := ⟨_, rfl⟩
  rw [← ht] at hx
  have HTT1 := Lib.hid ht
  clear ht
  obtain ⟨w10, hwk⟩ : ∃ w10, w10 = wc := ⟨_, rfl⟩
  subst hwk
  have HO1 := Lib.hid hx
  clear hx
  go_upto_if 14 with (go_at_call 23; go_loud ((with_reducible refine (HHH.out _).mono ?_); rintro e wh ⟨rfl, hbq⟩; have HX := Lib.hid (HO1.out.step hbq); clear hbq))
  clear HHH HO1
  go_cut [] (fun wd => ∃ u, OW W B W.heap.size (W.heap.size + 1) (W.heap.size + 1 + 1) m ⟨.slice p1 m.input.length c1, .slice p2 m.task.args.length c2, .slice p3 m.ents.length c3, .slice p4 m.epochs.length c4, .slice p5 m.names.length c5, .slice p6 m.codes.length c6⟩ (oif m .H t1) u wd)
  case first =>
   cases hk : hasK m.kind .H with
   | false =>
    have he : oif m .H t1 = t1 := by unfold oif; rw [hk]; rfl
    have HE := Lib.hid he
    clear hk he
    go_wp2_with fail
    go_meet
    exact ⟨_, by rw [HE.out]; exact HX.out⟩
   | true =>
    have he : oif m .H t1 = cp .H m t1 := by unfold oif; rw [hk]; rfl
    have HE := Lib.hid he
    clear hk he
    have z12 : wh.cell? ⟨W.heap.size, 12, none⟩ = some (.slice p4 m.epochs.length c4) := HX.out.gm.cell 12
    have y12 : wh.cell? ⟨(W.heap.size + 1), 12, none⟩ = some (.slice q4 t1.epochs.length d4) := HX.out.gt.cell 12
    have yf : ∀ o, wh.frozen? ⟨(W.heap.size + 1), o, none⟩ = false := HX.out.gt.frozen
    have HP := Lib.hid (ow_H HX.out)
    go_wp2_with fail
    go_meet
    exact ⟨_, by rw [HE.out]; exact HP.out⟩
  case rest =>
   clear HX
   obtain ⟨u, hx⟩ := hcut
   obtain ⟨q1, d1, q2, d2, q3, d3, q4, d4, q5, d5, q6, d6, rfl⟩ := hx.ru.vs
   obtain ⟨t2, ht⟩ : ∃ t2, t2 = oif m .H t1 := ⟨_, rfl⟩
   rw [← ht] at hx
   have HTT2 := Lib.hid ht
   clear ht
   obtain ⟨w11, hwk⟩ : ∃ w11, w11 = wc := ⟨_, rfl⟩
   subst hwk
   have HO2 := Lib.hid hx
   clear hx
   go_upto_if 19 with (go_at_call 23; go_loud ((with_reducible refine (HHA.out _).mono ?_); rintro e wh ⟨rfl, hbq⟩; have HX := Lib.hid (HO2.out.step hbq); clear hbq))
   clear HHA HO2
   go_cut [] (fun wd => ∃ u, OW W B W.heap.size (W.heap.size + 1) (W.heap.size + 1 + 1) m ⟨.slice p1 m.input.length c1, .slice p2 m.task.args.length c2, .slice p3 m.ents.length c3, .slice p4 m.epochs.length c4, .slice p5 m.names.length c5, .slice p6 m.codes.length c6⟩ (oif m .A t2) u wd)
   case first =>
    cases hk : hasK m.kind .A with
    | false =>
     have he : oif m .A t2 = t2 := by unfold oif; rw [hk]; rfl
     have HE := Lib.hid he
     clear hk he
     go_wp2_with fail
     go_meet
     exact ⟨_, by rw [HE.out]; exact HX.out⟩
    | true =>
     have he : oif m .A t2 = cp .A m t2 := by unfold oif; rw [hk]; rfl
     have HE := Lib.hid he
     clear hk he
     have z13 : wh.cell? ⟨W.heap.size, 13, none⟩ = some (.slice p5 m.names.length c5) := HX.out.gm.cell 13
     have y13 : wh.cell? ⟨(W.heap.size + 1), 13, none⟩ = some (.slice q5 t2.names.length d5) := HX.out.gt.cell 13
     have yf : ∀ o, wh.frozen? ⟨(W.heap.size + 1), o, none⟩ = false := HX.out.gt.frozen
     have HP := Lib.hid (ow_A HX.out)
     go_wp2_with fail
     go_meet
     exact ⟨_, by rw [HE.out]; exact HP.out⟩
   case rest =>
    clear HX
    obtain ⟨u, hx⟩ := hcut
    obtain ⟨q1, d1, q2, d2, q3, d3, q4, d4, q5, d5, q6, d6, rfl⟩ := hx.ru.vs
    obtain ⟨t3, ht⟩ : ∃ t3, t3 = oif m .A t2 := ⟨_, rfl⟩
    rw [← ht] at hx
    have HTT3 := Lib.hid ht
    clear ht
    obtain ⟨w12, hwk⟩ : ∃ w12, w12 = wc := ⟨_, rfl⟩
    subst hwk
    have HO3 := Lib.hid hx
    clear hx
    go_upto_if 24 with (go_at_call 23; go_loud ((with_reducible refine (HHC.out _).mono ?_); rintro e wh ⟨rfl, hbq⟩; have HX := Lib.hid (HO3.out.step hbq); clear hbq))
    clear HHC HO3
    go_cut [] (fun wd => ∃ u, OW W B W.heap.size (W.heap.size + 1) (W.heap.size + 1 + 1) m ⟨.slice p1 m.input.length c1, .slice p2 m.task.args.length c2, .slice p3 m.ents.length c3, .slice p4 m.epochs.length c4, .slice p5 m.names.length c5, .slice p6 m.codes.length c6⟩ (oif m .C t3) u wd)
    case first =>
     cases hk : hasK m.kind .C with
     | false =>
      have he : oif m .C t3 = t3 := by unfold oif; rw [hk]; rfl
      have HE := Lib.hid he
      clear hk he
      go_wp2_with fail
      go_meet
      exact ⟨_, by rw [HE.out]; exact HX.out⟩
     | true =>
      have he : oif m .C t3 = cp .C m t3 := by unfold oif; rw [hk]; rfl
      have HE := Lib.hid he
      clear hk he
      have z14 : wh.cell? ⟨W.heap.size, 14, none⟩ = some (.slice p6 m.codes.length c6) := HX.out.gm.cell 14
      have y14 : wh.cell? ⟨(W.heap.size + 1), 14, none⟩ = some (.slice q6 t3.codes.length d6) := HX.out.gt.cell 14
      have yf : ∀ o, wh.frozen? ⟨(W.heap.size + 1), o, none⟩ = false := HX.out.gt.frozen
      have HP := Lib.hid (ow_C HX.out)
      go_wp2_with fail
      go_meet
      exact ⟨_, by rw [HE.out]; exact HP.out⟩
    case rest =>
     clear HX
     obtain ⟨u, hx⟩ := hcut
     obtain ⟨q1, d1, q2, d2, q3, d3, q4, d4, q5, d5, q6, d6, rfl⟩ := hx.ru.vs
     obtain ⟨t4, ht⟩ : ∃ t4, t4 = oif m .C t3 := ⟨_, rfl⟩
     rw [← ht] at hx
     have HTT4 := Lib.hid ht
     clear ht
     obtain ⟨w13, hwk⟩ : ∃ w13, w13 = wc := ⟨_, rfl⟩
     subst hwk
     have HO4 := Lib.hid hx
     clear hx
     go_upto_if 29 with (go_at_call 23; go_loud ((with_reducible refine (HHS.out _).mono ?_); rintro e wh ⟨rfl, hbq⟩; have HX := Lib.hid (HO4.out.step hbq); clear hbq))
     clear HHS HO4
     go_cut [] (fun wd => ∃ u, OW W B W.heap.size (W.heap.size + 1) (W.heap.size + 1 + 1) m ⟨.slice p1 m.input.length c1, .slice p2 m.task.args.length c2, .slice p3 m.ents.length c3, .slice p4 m.epochs.length c4, .slice p5 m.names.length c5, .slice p6 m.codes.length c6⟩ (oif m .S t4) u wd)
     case first =>
      cases hk : hasK m.kind .S with
      | false =>
       have he : oif m .S t4 = t4 := by unfold oif; rw [hk]; rfl
       have HE := Lib.hid he
       clear hk he
       go_wp2_with fail
       go_meet
       exact ⟨_, by rw [HE.out]; exact HX.out⟩
      | true =>
       have he : oif m .S t4 = cp .S m t4 := by unfold oif; rw [hk]; rfl
       have HE := Lib.hid he
       clear hk he
       have z15 : wh.cell? ⟨W.heap.size, 15, none⟩ = some (.int .u8 m.state) := HX.out.gm.cell 15
       have y15 : wh.cell? ⟨(W.heap.size + 1), 15, none⟩ = some (.int .u8 t4.state) := HX.out.gt.cell 15
       have yf : ∀ o, wh.frozen? ⟨(W.heap.size + 1), o, none⟩ = false := HX.out.gt.frozen
       have HP := Lib.hid (ow_S HX.out)
       go_wp2_with fail
       go_meet
       exact ⟨_, by rw [HE.out]; exact HP.out⟩
     case rest =>
      clear HX
      obtain ⟨u, hx⟩ := hcut
      obtain ⟨q1, d1, q2, d2, q3, d3, q4, d4, q5, d5, q6, d6, rfl⟩ := hx.ru.vs
      obtain ⟨t5, ht⟩ : ∃ t5, t5 = oif m .S t4 := ⟨_, rfl⟩
      rw [← ht] at hx
      have HTT5 := Lib.hid ht
      clear ht
      obtain ⟨w14, hwk⟩ : ∃ w14, w14 = wc := ⟨_, rfl⟩
      subst hwk
      have HO5 := Lib.hid hx
      clear hx
      go_upto_if 34 with (go_at_call 23; go_loud ((with_reducible refine (HHR.out _).mono ?_); rintro e wh ⟨rfl, hbq⟩; have HX := Lib.hid (HO5.out.step hbq); clear hbq))
      clear HHR HO5
      go_cut [] (fun wd => ∃ u, OW W B W.heap.size (W.heap.size + 1) (W.heap.size + 1 + 1) m ⟨.slice p1 m.input.length c1, .slice p2 m.task.args.length c2, .slice p3 m.ents.length c3, .slice p4 m.epochs.length c4, .slice p5 m.names.length c5, .slice p6 m.codes.length c6⟩ (oif m .R t5) u wd)
      case first =>
       cases hk : hasK m.kind .R with
       | false =>
        have he : oif m .R t5 = t5 := by unfold oif; rw [hk]; rfl
        have HE := Lib.hid he
        clear hk he
        go_wp2_with fail
        go_meet
        exact ⟨_, by rw [HE.out]; exact HX.out⟩
       | true =>
        have he : oif m .R t5 = cp .R m t5 := by unfold oif; rw [hk]; rfl
        have HE := Lib.hid he
        clear hk he
        have z16 : wh.cell? ⟨W.heap.size, 16, none⟩ = some (.int .i64 m.res.val) := HX.out.gm.cell 16
        have y16 : wh.cell? ⟨(W.heap.size + 1), 16, none⟩ = some (.int .i64 t5.res.val) := HX.out.gt.cell 16
        have z17 : wh.cell? ⟨W.heap.size, 17, none⟩ = some (.int .i64 m.res.err) := HX.out.gm.cell 17
        have y17 : wh.cell? ⟨(W.heap.size + 1), 17, none⟩ = some (.int .i64 t5.res.err) := HX.out.gt.cell 17
        have yf : ∀ o, wh.frozen? ⟨(W.heap.size + 1), o, none⟩ = false := HX.out.gt.frozen
        have HP := Lib.hid (ow_R HX.out)
        go_wp2_with fail
        go_meet
        exact ⟨_, by rw [HE.out]; exact HP.out⟩
      case rest =>
       clear HX
       obtain ⟨u, hx⟩ := hcut
       obtain ⟨q1, d1, q2, d2, q3, d3, q4, d4, q5, d5, q6, d6, rfl⟩ := hx.ru.vs
       obtain ⟨t6, ht⟩ : ∃ t6, t6 = oif m .R t5 := ⟨_, rfl⟩
       rw [← ht] at hx
       have HTT6 := Lib.hid ht
       clear ht
       obtain ⟨w15, hwk⟩ : ∃ w15, w15 = wc := ⟨_, rfl⟩
       subst hwk
       have HO6 := Lib.hid hx
       clear hx
       go_upto_if 39 with (go_at_call 23; go_loud ((with_reducible refine (HHX.out _).mono ?_); rintro e wh ⟨rfl, hbq⟩; have HX := Lib.hid (HO6.out.step hbq); clear hbq))
       clear HHX HO6
       go_cut [] (fun wd => ∃ u, OW W B W.heap.size (W.heap.size + 1) (W.heap.size + 1 + 1) m ⟨.slice p1 m.input.length c1, .slice p2 m.task.args.length c2, .slice p3 m.ents.length c3, .slice p4 m.epochs.length c4, .slice p5 m.names.length c5, .slice p6 m.codes.length c6⟩ (oif m .X t6) u wd)
       case first =>
        cases hk : hasK m.kind .X with
        | false =>
         have he : oif m .X t6 = t6 := by unfold oif; rw [hk]; rfl
         have HE := Lib.hid he
         clear hk he
         go_wp2_with fail
         go_meet
         exact ⟨_, by rw [HE.out]; exact HX.out⟩
        | true =>
         have he : oif m .X t6 = cp .X m t6 := by unfold oif; rw [hk]; rfl
         have HE := Lib.hid he
         clear hk he
         have z18 : wh.cell? ⟨W.heap.size, 18, none⟩ = some (.int .i64 m.err) := HX.out.gm.cell 18
         have y18 : wh.cell? ⟨(W.heap.size + 1), 18, none⟩ = some (.int .i64 t6.err) := HX.out.gt.cell 18
         have yf : ∀ o, wh.frozen? ⟨(W.heap.size + 1), o, none⟩ = false := HX.out.gt.frozen
         have HP := Lib.hid (ow_X HX.out)
         go_wp2_with fail
         go_meet
         exact ⟨_, by rw [HE.out]; exact HP.out⟩
       case rest =>
        clear HX
        obtain ⟨u, hx⟩ := hcut
        obtain ⟨q1, d1, q2, d2, q3, d3, q4, d4, q5, d5, q6, d6, rfl⟩ := hx.ru.vs
        obtain ⟨t7, ht⟩ : ∃ t7, t7 = oif m .X t6 := ⟨_, rfl⟩
        rw [← ht] at hx
        have HTT7 := Lib.hid ht
        clear ht
        obtain ⟨w16, hwk⟩ : ∃ w16, w16 = wc := ⟨_, rfl⟩
        subst hwk
        have HO7 := Lib.hid hx
        clear hx
        have HTE : Hid (t7 = oif m .X (oif m .R (oif m .S (oif m .C (oif m .A (oif m .H (oif m .N t0))))))) := Lib.hid (by rw [HTT7.out, HTT6.out, HTT5.out, HTT4.out, HTT3.out, HTT2.out, HTT1.out])
        obtain ⟨A, hA, hsz⟩ := HO7.out.gr
        have HAA := Lib.hid hA
        have HSS := Lib.hid hsz
        clear hA hsz
        go_wp2_with (first | (refine wpl_load_blk HO7.out.gt rfl _ _ rfl rfl Tryz.underlying34 rfl (by kernel_rfl) ?_) | (refine wpl_store_blk HAA.out rfl _ _ _ rfl rfl rfl (by kernel_rfl) HSS.out mc_one ?_; intro w9 hb9 ho9; have HBF := Lib.hid hb9; have HOF := Lib.hid ho9; clear hb9 ho9))
        exact ret_cell (T := 34) rfl rfl HBF.out Tryz.underlying34 rfl (by kernel_rfl) rfl ⟨_, by rw [← HTE.out], by rw [← HTE.out]; exact ol_fin HO7.out.ru HOF.out HO7.out.ne HBB.out, ol_bel HO7.out.bel HOF.out⟩
theorem mr_nilB (w : World) (B : Nat) (k : Int) : MR w B { m0 with kind := k } nilVS :=
 ⟨⟨none, 0, rfl, fun h => absurd h (Nat.lt_irrefl _)⟩, ⟨none, 0, rfl, fun h => absurd h (Nat.lt_irrefl _)⟩, ⟨none, 0, rfl, fun h => absurd h (Nat.lt_irrefl _)⟩, ⟨none, 0, rfl, fun h => absurd h (Nat.lt_irrefl _)⟩, ⟨none, 0, rfl, fun h => absurd h (Nat.lt_irrefl _)⟩, ⟨none, 0, rfl, fun h => absurd h (Nat.lt_irrefl _)⟩⟩
theorem only_oif (m : M) : oif m .X (oif m .R (oif m .S (oif m .C (oif m .A (oif m .H (oif m .N (oif m .E (oif m .K (oif m .F (oif m .I (oif m .P (oif m .T (oif m .J { m0 with kind := m.kind }))))))))))))) = onlyM m := by
 have e : ∀ (l : List Pt) (t : M), l.foldl (fun t p => oif m p t) t = cps (l.filter (hasK m.kind)) m t := by
  intro l
  induction l with
  | nil => intro t; rfl
  | cons p l ih =>
   intro t
   rw [List.foldl_cons, ih, List.filter_cons]
   unfold oif
   cases h : hasK m.kind p with
   | true => rfl
   | false => rfl
 have e2 := e all14 { m0 with kind := m.kind }
 rw [kp_filter] at e2
 exact e2
theorem ow_start {W w0 w1 : World} {B r : Nat} {m : M} {v : VS} {ob : Obj} {A : Array Value} (hv : MR W B m v) (hB : B ≤ W.heap.size) (hw : Below W.heap.size W w0) (hg : Blk w0 W.heap.size 34 (mcells m v)) (hr : Blk w0 r 34 A) (hA : A.size = 19) (ho : Only (· = w0.heap.size) (w0.alloc ob) w1) (hk : Blk w1 w0.heap.size 34 (mcells { m0 with kind := m.kind } nilVS)) :
  OW W B W.heap.size w0.heap.size r m v { m0 with kind := m.kind } nilVS w1 := by
 have hb : Below w0.heap.size w0 w1 := ((Below.refl _ w0).alloc (Nat.le_refl _) ob).trans (Only.below ho (by simp) fun j e => by have e' : j = w0.heap.size := e; omega)
 have h1 := hg.lt
 have h2 := hr.lt
 have h3 := hw.size
 exact ⟨hg.below hb, hk, ⟨A, hr.below hb, hA⟩, hv.keep fun b o y g1 g2 => Below.cellq hb (by omega) (Below.cellq hw (by omega) g2), mr_nilB w1 B m.kind, hw.trans (hb.mono h3), by omega, by have := hb.size; omega⟩
set_option maxRecDepth 100000 in
set_option maxHeartbeats 8000000 in
theorem only26_any {m : M} {W : World} {B : Nat} {v : VS} (hv : MR W B m v) (hB : B ≤ W.heap.size) (hkind : 0 ≤ m.kind ∧ m.kind ≤ 255) :
  Calls Tryz.prog 18 #[.agg (mcells m v)] W (OlP W B (onlyM m)) := by
 have HHJ := Lib.hid (fun w => (show Calls Tryz.prog 23 #[.int .u8 m.kind, .int .u8 74] w (HaPost (hasK m.kind .J) w) from has26_any hkind .J w))
 have HHT := Lib.hid (fun w => (show Calls Tryz.prog 23 #[.int .u8 m.kind, .int .u8 84] w (HaPost (hasK m.kind .T) w) from has26_any hkind .T w))
 have HHP := Lib.hid (fun w => (show Calls Tryz.prog 23 #[.int .u8 m.kind, .int .u8 80] w (HaPost (hasK m.kind .P) w) from has26_any hkind .P w))
 have HHI := Lib.hid (fun w => (show Calls Tryz.prog 23 #[.int .u8 m.kind, .int .u8 73] w (HaPost (hasK m.kind .I) w) from has26_any hkind .I w))
 have HHF := Lib.hid (fun w => (show Calls Tryz.prog 23 #[.int .u8 m.kind, .int .u8 70] w (HaPost (hasK m.kind .F) w) from has26_any hkind .F w))
 have HHK := Lib.hid (fun w => (show Calls Tryz.prog 23 #[.int .u8 m.kind, .int .u8 75] w (HaPost (hasK m.kind .K) w) from has26_any hkind .K w))
 have HHE := Lib.hid (fun w => (show Calls Tryz.prog 23 #[.int .u8 m.kind, .int .u8 69] w (HaPost (hasK m.kind .E) w) from has26_any hkind .E w))
 have hW : Below W.heap.size W ((W.alloc (.cells (mcells m v) 34)).alloc (.cells (#[.int .u8 0, .int .u64 0, .string ⟨#[]⟩, .string ⟨#[]⟩, .slice none 0 0, .int .i64 0, .string ⟨#[]⟩, .int .i64 0, .slice none 0 0, .int .i64 0, .int .u64 0, .slice none 0 0, .slice none 0 0, .slice none 0 0, .slice none 0 0, .int .u8 0, .int .i64 0, .int .i64 0, .int .i64 0] : Array Value) 34)) := ((Below.refl _ W).alloc (Nat.le_refl _) _).alloc (by simp) _
 have HW := Lib.hid hW
 have HG := Lib.hid ((Blk.new W 34 (mcells m v)).alloc (.cells (#[.int .u8 0, .int .u64 0, .string ⟨#[]⟩, .string ⟨#[]⟩, .slice none 0 0, .int .i64 0, .string ⟨#[]⟩, .int .i64 0, .slice none 0 0, .int .i64 0, .int .u64 0, .slice none 0 0, .slice none 0 0, .slice none 0 0, .slice none 0 0, .int .u8 0, .int .i64 0, .int .i64 0, .int .i64 0] : Array Value) 34))
 have HR := Lib.hid (blk_new1 W (.cells (mcells m v) 34) 34 (#[.int .u8 0, .int .u64 0, .string ⟨#[]⟩, .string ⟨#[]⟩, .slice none 0 0, .int .i64 0, .string ⟨#[]⟩, .int .i64 0, .slice none 0 0, .int .i64 0, .int .u64 0, .slice none 0 0, .slice none 0 0, .slice none 0 0, .slice none 0 0, .int .u8 0, .int .i64 0, .int .i64 0, .int .i64 0] : Array Value))
 have HV := Lib.hid hv
 have HBB := Lib.hid hB
 have HKD := Lib.hid hkind
 obtain ⟨p1, c1, p2, c2, p3, c3, p4, c4, p5, c5, p6, c6, rfl⟩ := hv.vs
 clear hv hB hkind hW
 go_enter Tryz.func18, Tryz.ntmps18
 go_upto_region 1 with fail
 generalize (W.alloc (.cells (mcells m ⟨.slice p1 m.input.length c1, .slice p2 m.task.args.length c2, .slice p3 m.ents.length c3, .slice p4 m.epochs.length c4, .slice p5 m.names.length c5, .slice p6 m.codes.length c6⟩) 34)).alloc (.cells (#[.int .u8 0, .int .u64 0, .string ⟨#[]⟩, .string ⟨#[]⟩, .slice none 0 0, .int .i64 0, .string ⟨#[]⟩, .int .i64 0, .slice none 0 0, .int .i64 0, .int .u64 0, .slice none 0 0, .slice none 0 0, .slice none 0 0, .slice none 0 0, .int .u8 0, .int .i64 0, .int .i64 0, .int .i64 0] : Array Value) 34) = wz at *
 have y0 : wz.cell? ⟨W.heap.size, 0, none⟩ = some (.int .u8 m.kind) := HG.out.cell 0
 go_upto_region 3 with (refine wpl_store_blk (c' := mcells { m0 with kind := m.kind } nilVS) (Blk.new _ _ _) rfl _ _ _ rfl rfl rfl (by kernel_rfl) rfl mc_one ?_; go_loud (intro w0 hb0 ho0; have HO0 := Lib.hid (ow_start HV.out HBB.out HW.out HG.out HR.out rfl ho0 hb0); clear hb0 ho0))
 clear y0 HW HG HR
 obtain ⟨t0, ht0⟩ : ∃ t0 : M, t0 = { m0 with kind := m.kind } := ⟨_, rfl⟩
 rw [← ht0] at HO0
 have HTT0 := Lib.hid ht0
 clear ht0
 obtain ⟨u0, hu0⟩ : ∃ u0, u0 = nilVS := ⟨_, rfl⟩
 rw [← hu0] at HO0
 clear hu0
 obtain ⟨q1, d1, q2, d2, q3, d3, q4, d4, q5, d5, q6, d6, rfl⟩ := HO0.out.ru.vs
 generalize hgo : wz.heap.size = go at *
 clear hgo
 go_upto_if 10 with (go_at_call 23; go_loud ((with_reducible refine (HHJ.out _).mono ?_); rintro e wh ⟨rfl, hbq⟩; have HX := Lib.hid (HO0.out.step hbq); clear hbq))
 clear HHJ HO0
 go_cut [] (fun wd => ∃ u, OW W B W.heap.size go (W.heap.size + 1) m ⟨.slice p1 m.input.length c1, .slice p2 m.task.args.length c2, .slice p3 m.ents.length c3, .slice p4 m.epochs.length c4, .slice p5 m.names.length c5, .slice p6 m.codes.length c6⟩ (oif m .J t0) u wd)
 case first =>
  cases hk : hasK m.kind .J with
  | false =>
   have he : oif m .J t0 = t0 := by unfold oif; rw [hk]; rfl
   have HE := Lib.hid he
   clear hk he
   go_wp2_with fail
   go_meet
   exact ⟨_, by rw [HE.out]; exact HX.out⟩
  | true =>
   have he : oif m .J t0 = cp .J m t0 := by unfold oif; rw [hk]; rfl
   have HE := Lib.hid he
   clear hk he
   have z1 : wh.cell? ⟨W.heap.size, 1, none⟩ = some (.int .u64 m.job) := HX.out.gm.cell 1
   have y1 : wh.cell? ⟨go, 1, none⟩ = some (.int .u64 t0.job) := HX.out.gt.cell 1
   have yf : ∀ o, wh.frozen? ⟨go, o, none⟩ = false := HX.out.gt.frozen
   have HP := Lib.hid (ow_J HX.out)
   go_wp2_with fail
   go_meet
   exact ⟨_, by rw [HE.out]; exact HP.out⟩
 case rest =>
  clear HX
  obtain ⟨u, hx⟩ := hcut
  obtain ⟨q1, d1, q2, d2, q3, d3, q4, d4, q5, d5, q6, d6, rfl⟩ := hx.ru.vs
  obtain ⟨t1, ht⟩ : ∃ t1, t1 = oif m .J t0 := ⟨_, rfl⟩
  rw [← ht] at hx
  have HTT1 := Lib.hid ht
  clear ht
  obtain ⟨w10, hwk⟩ : ∃ w10, w10 = wc := ⟨_, rfl⟩
  subst hwk
  have HO1 := Lib.hid hx
  clear hx
  go_upto_if 15 with (go_at_call 23; go_loud ((with_reducible refine (HHT.out _).mono ?_); rintro e wh ⟨rfl, hbq⟩; have HX := Lib.hid (HO1.out.step hbq); clear hbq))
  clear HHT HO1
  go_cut [] (fun wd => ∃ u, OW W B W.heap.size go (W.heap.size + 1) m ⟨.slice p1 m.input.length c1, .slice p2 m.task.args.length c2, .slice p3 m.ents.length c3, .slice p4 m.epochs.length c4, .slice p5 m.names.length c5, .slice p6 m.codes.length c6⟩ (oif m .T t1) u wd)
  case first =>
   cases hk : hasK m.kind .T with
   | false =>
    have he : oif m .T t1 = t1 := by unfold oif; rw [hk]; rfl
    have HE := Lib.hid he
    clear hk he
    go_wp2_with fail
    go_meet
    exact ⟨_, by rw [HE.out]; exact HX.out⟩
   | true =>
    have he : oif m .T t1 = cp .T m t1 := by unfold oif; rw [hk]; rfl
    have HE := Lib.hid he
    clear hk he
    have z2 : wh.cell? ⟨W.heap.size, 2, none⟩ = some (.string m.tok) := HX.out.gm.cell 2
    have y2 : wh.cell? ⟨go, 2, none⟩ = some (.string t1.tok) := HX.out.gt.cell 2
    have yf : ∀ o, wh.frozen? ⟨go, o, none⟩ = false := HX.out.gt.frozen
    have HP := Lib.hid (ow_T HX.out)
    go_wp2_with fail
    go_meet
    exact ⟨_, by rw [HE.out]; exact HP.out⟩
  case rest =>
   clear HX
   obtain ⟨u, hx⟩ := hcut
   obtain ⟨q1, d1, q2, d2, q3, d3, q4, d4, q5, d5, q6, d6, rfl⟩ := hx.ru.vs
   obtain ⟨t2, ht⟩ : ∃ t2, t2 = oif m .T t1 := ⟨_, rfl⟩
   rw [← ht] at hx
   have HTT2 := Lib.hid ht
   clear ht
   obtain ⟨w11, hwk⟩ : ∃ w11, w11 = wc := ⟨_, rfl⟩
   subst hwk
   have HO2 := Lib.hid hx
   clear hx
   go_upto_if 20 with (go_at_call 23; go_loud ((with_reducible refine (HHP.out _).mono ?_); rintro e wh ⟨rfl, hbq⟩; have HX := Lib.hid (HO2.out.step hbq); clear hbq))
   clear HHP HO2
   go_cut [] (fun wd => ∃ u, OW W B W.heap.size go (W.heap.size + 1) m ⟨.slice p1 m.input.length c1, .slice p2 m.task.args.length c2, .slice p3 m.ents.length c3, .slice p4 m.epochs.length c4, .slice p5 m.names.length c5, .slice p6 m.codes.length c6⟩ (oif m .P t2) u wd)
   case first =>
    cases hk : hasK m.kind .P with
    | false =>
     have he : oif m .P t2 = t2 := by unfold oif; rw [hk]; rfl
     have HE := Lib.hid he
     clear hk he
     go_wp2_with fail
     go_meet
     exact ⟨_, by rw [HE.out]; exact HX.out⟩
    | true =>
     have he : oif m .P t2 = cp .P m t2 := by unfold oif; rw [hk]; rfl
     have HE := Lib.hid he
     clear hk he
     have z3 : wh.cell? ⟨W.heap.size, 3, none⟩ = some (.string m.prog) := HX.out.gm.cell 3
     have y3 : wh.cell? ⟨go, 3, none⟩ = some (.string t2.prog) := HX.out.gt.cell 3
     have yf : ∀ o, wh.frozen? ⟨go, o, none⟩ = false := HX.out.gt.frozen
     have HP := Lib.hid (ow_P HX.out)
     go_wp2_with fail
     go_meet
     exact ⟨_, by rw [HE.out]; exact HP.out⟩
   case rest =>
    clear HX
    obtain ⟨u, hx⟩ := hcut
    obtain ⟨q1, d1, q2, d2, q3, d3, q4, d4, q5, d5, q6, d6, rfl⟩ := hx.ru.vs
    obtain ⟨t3, ht⟩ : ∃ t3, t3 = oif m .P t2 := ⟨_, rfl⟩
    rw [← ht] at hx
    have HTT3 := Lib.hid ht
    clear ht
    obtain ⟨w12, hwk⟩ : ∃ w12, w12 = wc := ⟨_, rfl⟩
    subst hwk
    have HO3 := Lib.hid hx
    clear hx
    go_upto_if 25 with (go_at_call 23; go_loud ((with_reducible refine (HHI.out _).mono ?_); rintro e wh ⟨rfl, hbq⟩; have HX := Lib.hid (HO3.out.step hbq); clear hbq))
    clear HHI HO3
    go_cut [] (fun wd => ∃ u, OW W B W.heap.size go (W.heap.size + 1) m ⟨.slice p1 m.input.length c1, .slice p2 m.task.args.length c2, .slice p3 m.ents.length c3, .slice p4 m.epochs.length c4, .slice p5 m.names.length c5, .slice p6 m.codes.length c6⟩ (oif m .I t3) u wd)
    case first =>
     cases hk : hasK m.kind .I with
     | false =>
      have he : oif m .I t3 = t3 := by unfold oif; rw [hk]; rfl
      have HE := Lib.hid he
      clear hk he
      go_wp2_with fail
      go_meet
      exact ⟨_, by rw [HE.out]; exact HX.out⟩
     | true =>
      have he : oif m .I t3 = cp .I m t3 := by unfold oif; rw [hk]; rfl
      have HE := Lib.hid he
      clear hk he
      have z4 : wh.cell? ⟨W.heap.size, 4, none⟩ = some (.slice p1 m.input.length c1) := HX.out.gm.cell 4
      have y4 : wh.cell? ⟨go, 4, none⟩ = some (.slice q1 t3.input.length d1) := HX.out.gt.cell 4
      have yf : ∀ o, wh.frozen? ⟨go, o, none⟩ = false := HX.out.gt.frozen
      have HP := Lib.hid (ow_I HX.out)
      go_wp2_with fail
      go_meet
      exact ⟨_, by rw [HE.out]; exact HP.out⟩
    case rest =>
     clear HX
     obtain ⟨u, hx⟩ := hcut
     obtain ⟨q1, d1, q2, d2, q3, d3, q4, d4, q5, d5, q6, d6, rfl⟩ := hx.ru.vs
     obtain ⟨t4, ht⟩ : ∃ t4, t4 = oif m .I t3 := ⟨_, rfl⟩
     rw [← ht] at hx
     have HTT4 := Lib.hid ht
     clear ht
     obtain ⟨w13, hwk⟩ : ∃ w13, w13 = wc := ⟨_, rfl⟩
     subst hwk
     have HO4 := Lib.hid hx
     clear hx
     go_upto_if 30 with (go_at_call 23; go_loud ((with_reducible refine (HHF.out _).mono ?_); rintro e wh ⟨rfl, hbq⟩; have HX := Lib.hid (HO4.out.step hbq); clear hbq))
     clear HHF HO4
     go_cut [] (fun wd => ∃ u, OW W B W.heap.size go (W.heap.size + 1) m ⟨.slice p1 m.input.length c1, .slice p2 m.task.args.length c2, .slice p3 m.ents.length c3, .slice p4 m.epochs.length c4, .slice p5 m.names.length c5, .slice p6 m.codes.length c6⟩ (oif m .F t4) u wd)
     case first =>
      cases hk : hasK m.kind .F with
      | false =>
       have he : oif m .F t4 = t4 := by unfold oif; rw [hk]; rfl
       have HE := Lib.hid he
       clear hk he
       go_wp2_with fail
       go_meet
       exact ⟨_, by rw [HE.out]; exact HX.out⟩
      | true =>
       have he : oif m .F t4 = cp .F m t4 := by unfold oif; rw [hk]; rfl
       have HE := Lib.hid he
       clear hk he
       have z5 : wh.cell? ⟨W.heap.size, 5, none⟩ = some (.int .i64 m.fuel) := HX.out.gm.cell 5
       have y5 : wh.cell? ⟨go, 5, none⟩ = some (.int .i64 t4.fuel) := HX.out.gt.cell 5
       have yf : ∀ o, wh.frozen? ⟨go, o, none⟩ = false := HX.out.gt.frozen
       have HP := Lib.hid (ow_F HX.out)
       go_wp2_with fail
       go_meet
       exact ⟨_, by rw [HE.out]; exact HP.out⟩
     case rest =>
      clear HX
      obtain ⟨u, hx⟩ := hcut
      obtain ⟨q1, d1, q2, d2, q3, d3, q4, d4, q5, d5, q6, d6, rfl⟩ := hx.ru.vs
      obtain ⟨t5, ht⟩ : ∃ t5, t5 = oif m .F t4 := ⟨_, rfl⟩
      rw [← ht] at hx
      have HTT5 := Lib.hid ht
      clear ht
      obtain ⟨w14, hwk⟩ : ∃ w14, w14 = wc := ⟨_, rfl⟩
      subst hwk
      have HO5 := Lib.hid hx
      clear hx
      go_upto_if 35 with (go_at_call 23; go_loud ((with_reducible refine (HHK.out _).mono ?_); rintro e wh ⟨rfl, hbq⟩; have HX := Lib.hid (HO5.out.step hbq); clear hbq))
      clear HHK HO5
      go_cut [] (fun wd => ∃ u, OW W B W.heap.size go (W.heap.size + 1) m ⟨.slice p1 m.input.length c1, .slice p2 m.task.args.length c2, .slice p3 m.ents.length c3, .slice p4 m.epochs.length c4, .slice p5 m.names.length c5, .slice p6 m.codes.length c6⟩ (oif m .K t5) u wd)
      case first =>
       cases hk : hasK m.kind .K with
       | false =>
        have he : oif m .K t5 = t5 := by unfold oif; rw [hk]; rfl
        have HE := Lib.hid he
        clear hk he
        go_wp2_with fail
        go_meet
        exact ⟨_, by rw [HE.out]; exact HX.out⟩
       | true =>
        have he : oif m .K t5 = cp .K m t5 := by unfold oif; rw [hk]; rfl
        have HE := Lib.hid he
        clear hk he
        have z6 : wh.cell? ⟨W.heap.size, 6, none⟩ = some (.string m.task.path) := HX.out.gm.cell 6
        have y6 : wh.cell? ⟨go, 6, none⟩ = some (.string t5.task.path) := HX.out.gt.cell 6
        have z7 : wh.cell? ⟨W.heap.size, 7, none⟩ = some (.int .i64 m.task.fn) := HX.out.gm.cell 7
        have y7 : wh.cell? ⟨go, 7, none⟩ = some (.int .i64 t5.task.fn) := HX.out.gt.cell 7
        have z8 : wh.cell? ⟨W.heap.size, 8, none⟩ = some (.slice p2 m.task.args.length c2) := HX.out.gm.cell 8
        have y8 : wh.cell? ⟨go, 8, none⟩ = some (.slice q2 t5.task.args.length d2) := HX.out.gt.cell 8
        have z9 : wh.cell? ⟨W.heap.size, 9, none⟩ = some (.int .i64 m.task.fuel) := HX.out.gm.cell 9
        have y9 : wh.cell? ⟨go, 9, none⟩ = some (.int .i64 t5.task.fuel) := HX.out.gt.cell 9
        have yf : ∀ o, wh.frozen? ⟨go, o, none⟩ = false := HX.out.gt.frozen
        have HP := Lib.hid (ow_K HX.out)
        go_wp2_with fail
        go_meet
        exact ⟨_, by rw [HE.out]; exact HP.out⟩
      case rest =>
       clear HX
       obtain ⟨u, hx⟩ := hcut
       obtain ⟨q1, d1, q2, d2, q3, d3, q4, d4, q5, d5, q6, d6, rfl⟩ := hx.ru.vs
       obtain ⟨t6, ht⟩ : ∃ t6, t6 = oif m .K t5 := ⟨_, rfl⟩
       rw [← ht] at hx
       have HTT6 := Lib.hid ht
       clear ht
       obtain ⟨w15, hwk⟩ : ∃ w15, w15 = wc := ⟨_, rfl⟩
       subst hwk
       have HO6 := Lib.hid hx
       clear hx
       go_upto_if 40 with (go_at_call 23; go_loud ((with_reducible refine (HHE.out _).mono ?_); rintro e wh ⟨rfl, hbq⟩; have HX := Lib.hid (HO6.out.step hbq); clear hbq))
       clear HHE HO6
       go_cut [] (fun wd => ∃ u, OW W B W.heap.size go (W.heap.size + 1) m ⟨.slice p1 m.input.length c1, .slice p2 m.task.args.length c2, .slice p3 m.ents.length c3, .slice p4 m.epochs.length c4, .slice p5 m.names.length c5, .slice p6 m.codes.length c6⟩ (oif m .E t6) u wd)
       case first =>
        cases hk : hasK m.kind .E with
        | false =>
         have he : oif m .E t6 = t6 := by unfold oif; rw [hk]; rfl
         have HE := Lib.hid he
         clear hk he
         go_wp2_with fail
         go_meet
         exact ⟨_, by rw [HE.out]; exact HX.out⟩
        | true =>
         have he : oif m .E t6 = cp .E m t6 := by unfold oif; rw [hk]; rfl
         have HE := Lib.hid he
         clear hk he
         have z10 : wh.cell? ⟨W.heap.size, 10, none⟩ = some (.int .u64 m.epoch) := HX.out.gm.cell 10
         have y10 : wh.cell? ⟨go, 10, none⟩ = some (.int .u64 t6.epoch) := HX.out.gt.cell 10
         have yf : ∀ o, wh.frozen? ⟨go, o, none⟩ = false := HX.out.gt.frozen
         have HP := Lib.hid (ow_E HX.out)
         go_wp2_with fail
         go_meet
         exact ⟨_, by rw [HE.out]; exact HP.out⟩
       case rest =>
        clear HX
        obtain ⟨u, hx⟩ := hcut
        obtain ⟨q1, d1, q2, d2, q3, d3, q4, d4, q5, d5, q6, d6, rfl⟩ := hx.ru.vs
        obtain ⟨t7, ht⟩ : ∃ t7, t7 = oif m .E t6 := ⟨_, rfl⟩
        rw [← ht] at hx
        have HTT7 := Lib.hid ht
        clear ht
        obtain ⟨w16, hwk⟩ : ∃ w16, w16 = wc := ⟨_, rfl⟩
        subst hwk
        have HO7 := Lib.hid hx
        clear hx
        have HTE : Hid (oif m .X (oif m .R (oif m .S (oif m .C (oif m .A (oif m .H (oif m .N t7)))))) = onlyM m) := Lib.hid (by rw [HTT7.out, HTT6.out, HTT5.out, HTT4.out, HTT3.out, HTT2.out, HTT1.out, HTT0.out]; exact only_oif m)
        have HOL := Lib.hid (onlyl26_any HO7.out.rm HO7.out.ru HO7.out.le HKD.out)
        rw [HTE.out] at HOL
        go_wp2_with (first | (refine wpl_load_blk HO7.out.gm rfl _ _ rfl rfl Tryz.underlying34 rfl (by kernel_rfl) ?_) | (refine wpl_load_blk HO7.out.gt rfl _ _ rfl rfl Tryz.underlying34 rfl (by kernel_rfl) ?_) | (go_at_call 52; go_loud ((with_reducible refine HOL.out.mono ?_); rintro e w8 ⟨u8, rfl, hr8, hb8⟩; obtain ⟨s1, f1, s2, f2, s3, f3, s4, f4, s5, f5, s6, f6, rfl⟩ := hr8.vs; have R8 := Lib.hid hr8; have HO8 := Lib.hid (HO7.out.step hb8); obtain ⟨A, hA, hsz⟩ := HO8.out.gr; have HAA := Lib.hid hA; have HSS := Lib.hid hsz; clear hr8 hb8 hA hsz)) | (refine wpl_store_blk HAA.out rfl _ _ _ rfl rfl rfl (by kernel_rfl) HSS.out mc_one ?_; intro w9 hb9 ho9; have HBF := Lib.hid hb9; have HOF := Lib.hid ho9; clear hb9 ho9))
        exact ret_cell (T := 34) rfl rfl HBF.out Tryz.underlying34 rfl (by kernel_rfl) rfl ⟨_, rfl, R8.out.keep fun b o y hb hy => Only.cellq HOF.out hy fun e => by have e' : b = W.heap.size + 1 := e; have := HBB.out; omega, HO8.out.bel.trans (Only.below HOF.out HO8.out.bel.size fun k e => by have e' : k = W.heap.size + 1 := e; omega)⟩
end Go.Proofs.YtghbjknpffiaiaaGreat
