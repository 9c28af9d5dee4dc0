import Derived.Test.YtghbjknpffiaiaaGreatMtR
import Derived.Test.YtghbjknpffiaiaaGreatMtS
import Derived.Test.YtghbjknpffiaiaaGreatMtT
import Derived.Test.YtghbjknpffiaiaaGreatMtH
import Derived.BigRegion
namespace Go.Proofs.YtghbjknpffiaiaaGreat
namespace Reg
open Go.RowKit
section
variable {P : Program} {ops : Array Oper} {I : World → Prop} {a0 : Act} {R : Act → World → Prop} {o : Oper} {rest : List Oper} {K : List (Option Tmp × Spec)} {Gs : List (World → World → Prop)} {Js : List (World → Prop)} {w0 : World}
theorem unwanted_b {a : Act} {j : Nat} {g : Tmp} {b : Bool} (hg : o.guard = some (j, b)) (hd : ((ops[j]?).bind (·.dst)) = some g) (hv : a.tmps.getD g undef = .bool (!b)) : Region.wanted o (yielded ops a.tmps) = false := by
 unfold Region.wanted
 rw [hg]
 simp only [yielded, hd, Option.bind_some]
 rw [Array.getD_eq_getD_getElem?] at hv
 cases h : a.tmps[g]? with
 | none => rw [h] at hv; cases hv
 | some v => rw [h] at hv; simp only [Option.getD_some] at hv; subst hv; cases b <;> rfl
theorem rely_skip (j : Nat) (b : Bool) (g : Tmp) (hg : o.guard = some (j, b)) (hd : ((ops[j]?).bind (·.dst)) = some g) (hgf : ∀ v w, Fact K a0 g v w → v = .bool (!b))
  (hr : Rely P ops I w0 a0 R rest ((o.dst, Is undef) :: K) Gs Js) : Rely P ops I w0 a0 R (o :: rest) K Gs Js :=
 rely_is undef (fun _ w _ hF => .inr ⟨unwanted_b hg hd (hgf _ w (hF g (looksG hg hd))), rfl⟩) hr
end
end Reg
open Go.RowKit Wire Ms
set_option linter.unusedVariables false
set_option linter.unusedSimpArgs false
theorem run_load_blk {P : Program} {o : Oper} {a : Act} {w : World} {g : Nat} {T : TypeId} {c : Array Value} (hb : Blk w g T c) {ty : TypeId} {x : Operand} (ho : o.op = .load ty x) (hx : a.eval x = .pointer (some ⟨g, 0, none⟩)) {d : TypeDesc}
  (hu : P.underlying ty = some d) (hd : (match d with | .struct _ | .array _ _ => true | _ => false) = true) (hi : (P.info? ty).map (·.size) = some c.size) : (execOp a.eval o).run P w = .ok (.value (.agg c)) w := by
 unfold execOp
 simp only [ho, hx, Instr.loadAt, Instr.sureAddr, Sem.run_bind, Sem.run_pure, Result.andThen_ok, run_loadVar_row w g T ty c (0, 0) d hb hu hd hi]
structure RestOk (m : M) : Prop where
 epoch : m.epoch ≤ 281474976710656
 tok : m.tok.size ≤ 32
 prog : m.prog.size ≤ 16384
 input : m.input.length ≤ 16
 fuel : 0 ≤ m.fuel ∧ m.fuel ≤ 65536
 task : tkB m.task = true
 state : m.state ≤ 3
 res : resOk m.res = true
 err : nb m.err 9999 = false
structure MayOk (m : M) : Prop where
 kind : kB m.kind = true
 only : m = onlyM m
 bnd : BndOk m
 rest : RestOk m
 l4 : m.kind = 4 → m.epochs.length = m.ents.length
 l12 : m.kind = 12 → m.epochs.length = m.names.length
 size : (rawS m).size ≤ 8192
theorem may_iff (m : M) : mayM m = true ↔ MayOk m := by
 have hH : lb .H m = false ↔ (m.kind = 4 → m.epochs.length = m.ents.length) := by
  show (m.kind == 4 && m.epochs.length != m.ents.length) = false ↔ _
  by_cases hk : m.kind = 4
  ·by_cases he : m.epochs.length = m.ents.length
   ·simp [hk, he]
   ·simp [hk, he]
  ·simp [hk]
 have hA : lb .A m = false ↔ (m.kind = 12 → m.epochs.length = m.names.length) := by
  show (m.kind == 12 && m.epochs.length != m.names.length) = false ↔ _
  by_cases hk : m.kind = 12
  ·by_cases he : m.epochs.length = m.names.length
   ·simp [hk, he]
   ·simp [hk, he]
  ·simp [hk]
 unfold mayM
 rw [Bool.and_eq_true, Bool.and_eq_true, Bool.and_eq_true, beq_iff_eq, List.all_eq_true, decide_eq_true_eq]
 constructor
 ·rintro ⟨h1, h2, h3, h4⟩
  have hb : ∀ p, bp p m = true ∧ lb p m = false := fun p => by have := h3 p (all_mem p); rw [Bool.and_eq_true, Bool.not_eq_true'] at this; exact this
  have hT : decide (m.tok.size ≤ 32) = true := (hb .T).1
  have hP : decide (m.prog.size ≤ 16384) = true := (hb .P).1
  have hI : decide (m.input.length ≤ 16) = true := (hb .I).1
  have hF : (!nb m.fuel 65536) = true := (hb .F).1
  have hE : decide (m.epoch ≤ 281474976710656) = true := (hb .E).1
  have hS : decide (m.state ≤ 3) = true := (hb .S).1
  have hX : (!nb m.err 9999) = true := (hb .X).1
  rw [Bool.not_eq_true'] at hF hX
  exact ⟨h1, h2, (bnd_iff m).1 (by unfold bndB; rw [(hb .N).1, (hb .H).1, (hb .A).1, (hb .C).1]; rfl), ⟨of_decide_eq_true hE, of_decide_eq_true hT, of_decide_eq_true hP, of_decide_eq_true hI, nb_false.1 hF, (hb .K).1, of_decide_eq_true hS, (hb .R).1, hX⟩,
   hH.1 (hb .H).2, hA.1 (hb .A).2, by rw [rawS_size]; exact h4⟩
 ·intro k
  refine ⟨k.kind, k.only, fun p _ => ?_, by rw [← rawS_size]; exact k.size⟩
  have hbn := (bnd_iff m).2 k.bnd
  unfold bndB at hbn
  simp only [Bool.and_eq_true] at hbn
  obtain ⟨hN, hH', hA', hC⟩ := hbn
  have hl : lb p m = false := by
   cases p <;> first | rfl | exact hH.2 k.l4 | exact hA.2 k.l12
  rw [hl]
  clear hl
  have r := k.rest
  cases p
  case J => rfl
  case T => show (decide (m.tok.size ≤ 32) && !false) = true; rw [decide_eq_true r.tok]; rfl
  case P => show (decide (m.prog.size ≤ 16384) && !false) = true; rw [decide_eq_true r.prog]; rfl
  case I => show (decide (m.input.length ≤ 16) && !false) = true; rw [decide_eq_true r.input]; rfl
  case F => show (!nb m.fuel 65536 && !false) = true; rw [nb_false.2 r.fuel]; rfl
  case K => show (tkB m.task && !false) = true; rw [r.task]; rfl
  case E => show (decide (m.epoch ≤ 281474976710656) && !false) = true; rw [decide_eq_true r.epoch]; rfl
  case N => rw [hN]; rfl
  case H => rw [hH']; rfl
  case A => rw [hA']; rfl
  case C => rw [hC]; rfl
  case S => show (decide (m.state ≤ 3) && !false) = true; rw [decide_eq_true r.state]; rfl
  case R => show (resOk m.res && !false) = true; rw [r.res]; rfl
  case X => show (!nb m.err 9999 && !false) = true; rw [r.err]; rfl
theorem may_no {m : M} (h : ¬ MayOk m) : mayM m = false := by
 cases hb : mayM m with
 | false => rfl
 | true => exact absurd ((may_iff m).1 hb) h
theorem may_nn {m : M} (hb : BndOk m) (hr : RestOk m) : NN m := by
 have ht := hr.task
 unfold tkB at ht
 simp only [Bool.and_eq_true, Bool.not_eq_true'] at ht
 have hs := hr.res
 unfold resOk at hs
 simp only [Bool.and_eq_true, Bool.not_eq_true'] at hs
 exact ⟨hr.fuel.1, (nb_false.1 ht.2.1).1, (nb_false.1 ht.2.2.2).1, fun e he => by
  have := hb.e e he
  unfold okEB resOk at this
  simp only [Bool.and_eq_true, Bool.not_eq_true'] at this
  exact ⟨(nb_false.1 this.2.1).1, (nb_false.1 this.2.2.1).1⟩, fun x hx => (nb_false.1 (hb.c x hx)).1, (nb_false.1 hs.1).1, (nb_false.1 hr.err).1⟩
def EncP9 (W : World) (m : M) (e : Ending) (w' : World) : Prop := e = .returned (.tuple #[.string (if mayM m = true then rawS m else ⟨#[]⟩), .int .i64 (if mayM m = true then 0 else 2)]) ∧ Below W.heap.size W w'
def MyP (m : M) (W : World) (e : Ending) (w' : World) : Prop := e = .returned (.bool (mayM m)) ∧ Below W.heap.size W w'
theorem my_no {m : M} {W w : World} (h : mayM m = false) (hb : Below W.heap.size W w) : MyP m W (.returned (.bool false)) w := ⟨by rw [h], hb⟩
set_option maxRecDepth 100000 in
set_option maxHeartbeats 16000000 in
theorem rmay26_any {m : M} {W : World} {v : VS} (hv : MR W W.heap.size m v) (t : TyM m) (l : Lite m) : Calls Tryz.prog 11 #[.agg (mcells m v)] W (MyP m W) := by
 have HD0 := Lib.hid (DXw.start hv)
 obtain ⟨p1, c1, p2, c2, p3, c3, p4, c4, p5, c5, p6, c6, rfl⟩ := hv.vs
 have HT := Lib.hid t
 have HL := Lib.hid l
 clear hv
 go_enter Tryz.func11, Tryz.ntmps11
 go_upto_region 1 with fail
 generalize W.alloc (.cells (mcells m ⟨.slice p1 m.input.length c1, .slice p2 m.task.args.length c2, .slice p3 m.ents.length c3, .slice p4 m.epochs.length c4, .slice p5 m.names.length c5, .slice p6 m.codes.length c6⟩) 34) = w0 at *
 have y0 : w0.cell? ⟨W.heap.size, 0, none⟩ = some (.int .u8 m.kind) := HD0.out.blk.cell 0
 by_cases k1 : m.kind < 1
 ·have HNO := Lib.hid (may_no (m := m) fun k => by have h := k.kind; unfold kB at h; rw [Bool.and_eq_true, decide_eq_true_eq, decide_eq_true_eq] at h; omega)
  clear t l
  go_region
  all_goals (go_wp2_with fail; go_ret; exact my_no HNO.out (by first | exact HD0.out.bel | exact (HD0.out.step (Below.refl _ w0).drew).bel))
 by_cases k2 : (17 : Int) < m.kind
 ·have HNO := Lib.hid (may_no (m := m) fun k => by have h := k.kind; unfold kB at h; rw [Bool.and_eq_true, decide_eq_true_eq, decide_eq_true_eq] at h; omega)
  clear t l
  go_region
  all_goals (go_wp2_with fail; go_ret; exact my_no HNO.out (by first | exact HD0.out.bel | exact (HD0.out.step (Below.refl _ w0).drew).bel))
 have HKB : Hid (kB m.kind = true) := Lib.hid (by unfold kB; rw [decide_eq_true (show 1 ≤ m.kind by omega), decide_eq_true (show m.kind ≤ 17 by omega)]; rfl)
 have HK1 := Lib.hid k1
 have HK2 := Lib.hid k2
 have HON := Lib.hid (fun w (x : DXw W m ⟨.slice p1 m.input.length c1, .slice p2 m.task.args.length c2, .slice p3 m.ents.length c3, .slice p4 m.epochs.length c4, .slice p5 m.names.length c5, .slice p6 m.codes.length c6⟩ w) => only26_any (x.row.mono x.le) (Nat.le_refl _) t.kind)
 have HBD := Lib.hid (fun w (x : DXw W m ⟨.slice p1 m.input.length c1, .slice p2 m.task.args.length c2, .slice p3 m.ents.length c3, .slice p4 m.epochs.length c4, .slice p5 m.names.length c5, .slice p6 m.codes.length c6⟩ w) => Calls.mono (bounds26_any (x.row.mono x.le) l fun e he => (t.ents e he).2.2.2) fun e w' h => (show EqP (bndB m) w e w' from by obtain ⟨b, h1, h2, h3⟩ := h; exact ⟨by rw [h1, h2], h3⟩))
 have HSA := Lib.hid (fun w u (x : DXw W m ⟨.slice p1 m.input.length c1, .slice p2 m.task.args.length c2, .slice p3 m.ents.length c3, .slice p4 m.epochs.length c4, .slice p5 m.names.length c5, .slice p6 m.codes.length c6⟩ w) (hr : MR w w.heap.size (onlyM m) u) => rsame_any (x.row.mono x.le) hr (Nat.le_refl _) l)
 clear k1 k2 t l y0
 by_cases ho : m = onlyM m
 case neg =>
  have HNO := Lib.hid (may_no (m := m) fun k => ho k.only)
  simp only [decide_eq_false ho] at HSA
  clear ho
  refine Reg.wp_rely 20 (fun w => DXw W m ⟨.slice p1 m.input.length c1, .slice p2 m.task.args.length c2, .slice p3 m.ents.length c3, .slice p4 m.epochs.length c4, .slice p5 m.names.length c5, .slice p6 m.codes.length c6⟩ w ∧ Below w0.heap.size w0 w) (by kernel_rfl) (Reg.relyOk_of (by kernel_rfl)) ⟨HD0.out.step (Below.refl _ w0).drew, (Below.refl _ w0).drew⟩ (fun w w' h hI => ⟨hI.1.step h, hI.2.step h⟩) ?_
  refine Reg.rely_plain (.pointer (some ⟨W.heap.size, 0, none⟩)) rfl (fun a w hI hF => by
    have f1 : a.tmps.getD 1 undef = .pointer (some ⟨W.heap.size, 0, none⟩) := hF 1 (Reg.looksB (by kernel_rfl))
    clear hF hI
    simp only [Array.getD_eq_getD_getElem?] at f1
    simp only [execOp]; go_simp) ?_
  refine Reg.rely_plain (.int .u8 m.kind) rfl (fun a w hI hF => by
    have f1 : a.tmps.getD 3 undef = .pointer (some ⟨W.heap.size, 0, none⟩) := hF 3 (Reg.looksB (by kernel_rfl))
    have hc : w.cell? ⟨W.heap.size, 0, none⟩ = some (.int .u8 m.kind) := hI.1.blk.cell 0
    clear hF hI
    simp only [Array.getD_eq_getD_getElem?] at f1
    simp only [execOp]; go_simp) ?_
  refine Reg.rely_plain (.bool false) rfl (fun a w hI hF => by
    have f1 : a.tmps.getD 4 undef = .int .u8 m.kind := hF 4 (Reg.looksB (by kernel_rfl))
    have hq := HK1.out
    clear hF hI
    simp only [Array.getD_eq_getD_getElem?] at f1
    simp only [execOp]; go_simp) ?_
  refine Reg.rely_plain (.bool false) rfl (fun a w hI hF => by
    have f1 : a.tmps.getD 5 undef = .bool false := hF 5 (Reg.looksB (by kernel_rfl))
    clear hF hI
    simp only [Array.getD_eq_getD_getElem?] at f1
    simp only [execOp]; go_simp) ?_
  refine Reg.rely_isb (.pointer (some ⟨W.heap.size, 0, none⟩)) 3 false 6 rfl rfl (fun v w h => h) (fun a w hI hF => by
    have f1 : a.tmps.getD 1 undef = .pointer (some ⟨W.heap.size, 0, none⟩) := hF 1 (Reg.looksB (by kernel_rfl))
    clear hF hI
    simp only [Array.getD_eq_getD_getElem?] at f1
    simp only [execOp]; go_simp) ?_
  refine Reg.rely_isb (.int .u8 m.kind) 3 false 6 rfl rfl (fun v w h => h) (fun a w hI hF => by
    have f1 : a.tmps.getD 7 undef = .pointer (some ⟨W.heap.size, 0, none⟩) := hF 7 (Reg.looksB (by kernel_rfl))
    have hc : w.cell? ⟨W.heap.size, 0, none⟩ = some (.int .u8 m.kind) := hI.1.blk.cell 0
    clear hF hI
    simp only [Array.getD_eq_getD_getElem?] at f1
    simp only [execOp]; go_simp) ?_
  refine Reg.rely_isb (.bool false) 3 false 6 rfl rfl (fun v w h => h) (fun a w hI hF => by
    have f1 : a.tmps.getD 8 undef = .int .u8 m.kind := hF 8 (Reg.looksB (by kernel_rfl))
    have hq := HK2.out
    clear hF hI
    simp only [Array.getD_eq_getD_getElem?] at f1
    simp only [execOp]; go_simp) ?_
  refine Reg.rely_plain (.bool false) rfl (fun a w hI hF => by
    have f1 : a.tmps.getD 6 undef = .bool false := hF 6 (Reg.looksB (by kernel_rfl))
    have f2 : a.tmps.getD 9 undef = .bool false := hF 9 (Reg.looksB (by kernel_rfl))
    clear hF hI
    simp only [Array.getD_eq_getD_getElem?] at f1 f2
    simp only [execOp]; go_simp) ?_
  refine Reg.rely_plain (.bool false) rfl (fun a w hI hF => by
    have f1 : a.tmps.getD 10 undef = .bool false := hF 10 (Reg.looksB (by kernel_rfl))
    clear hF hI
    simp only [Array.getD_eq_getD_getElem?] at f1
    simp only [execOp]; go_simp) ?_
  refine Reg.rely_isb (.agg (mcells m ⟨.slice p1 m.input.length c1, .slice p2 m.task.args.length c2, .slice p3 m.ents.length c3, .slice p4 m.epochs.length c4, .slice p5 m.names.length c5, .slice p6 m.codes.length c6⟩)) 8 false 11 rfl rfl (fun v w h => h) (fun a w hI hF => run_load_blk hI.1.blk rfl (show a.tmps.getD 1 undef = _ from hF 1 (Reg.looksB (by kernel_rfl))) Tryz.underlying34 rfl (by kernel_rfl)) ?_
  refine Reg.rely_isb (.agg (mcells m ⟨.slice p1 m.input.length c1, .slice p2 m.task.args.length c2, .slice p3 m.ents.length c3, .slice p4 m.epochs.length c4, .slice p5 m.names.length c5, .slice p6 m.codes.length c6⟩)) 8 false 11 rfl rfl (fun v w h => h) (fun a w hI hF => run_load_blk hI.1.blk rfl (show a.tmps.getD 1 undef = _ from hF 1 (Reg.looksB (by kernel_rfl))) Tryz.underlying34 rfl (by kernel_rfl)) ?_
  refine Reg.rely_callb (fun v w => ∃ u, v = .agg (mcells (onlyM m) u) ∧ MR w w.heap.size (onlyM m) u) (fun v w w' h hS => by obtain ⟨u, h1, h2⟩ := hS; exact ⟨u, h1, (h2.keep fun b o y g1 g2 => Below.cellq h g1 g2).mono h.size⟩) (fun G hG => by cases hG) 8 false 11 rfl rfl (fun v w h => h) (fun a w hI hF => by
    have f1 : a.tmps.getD 13 undef = .agg (mcells m ⟨.slice p1 m.input.length c1, .slice p2 m.task.args.length c2, .slice p3 m.ents.length c3, .slice p4 m.epochs.length c4, .slice p5 m.names.length c5, .slice p6 m.codes.length c6⟩) := hF 13 (Reg.looksB (by kernel_rfl))
    refine ⟨18, #[.agg (mcells m ⟨.slice p1 m.input.length c1, .slice p2 m.task.args.length c2, .slice p3 m.ents.length c3, .slice p4 m.epochs.length c4, .slice p5 m.names.length c5, .slice p6 m.codes.length c6⟩)], ?_, (HON.out w hI.1).mono fun e w' h => by obtain ⟨u, h1, h2, h3⟩ := h; exact ⟨_, h1, ⟨u, rfl, h2.mono h3.size⟩, h3⟩⟩
    clear hF hI
    simp only [Array.getD_eq_getD_getElem?] at f1
    simp only [execOp]; go_simp) ?_
  refine Reg.rely_callb (Reg.Is (.bool false)) (Reg.stab_is _ _) (fun G hG => by cases hG) 8 false 11 rfl rfl (fun v w h => h) (fun a w hI hF => by
    have f1 : a.tmps.getD 12 undef = .agg (mcells m ⟨.slice p1 m.input.length c1, .slice p2 m.task.args.length c2, .slice p3 m.ents.length c3, .slice p4 m.epochs.length c4, .slice p5 m.names.length c5, .slice p6 m.codes.length c6⟩) := hF 12 (Reg.looksB (by kernel_rfl))
    obtain ⟨v2, f2, u, hu, hr⟩ : ∃ v, a.tmps.getD 14 undef = v ∧ ∃ u, v = .agg (mcells (onlyM m) u) ∧ MR w w.heap.size (onlyM m) u := ⟨_, rfl, hF 14 (Reg.looksB (by kernel_rfl))⟩
    rw [hu] at f2
    refine ⟨13, #[.agg (mcells m ⟨.slice p1 m.input.length c1, .slice p2 m.task.args.length c2, .slice p3 m.ents.length c3, .slice p4 m.epochs.length c4, .slice p5 m.names.length c5, .slice p6 m.codes.length c6⟩), .agg (mcells (onlyM m) u)], ?_, (HSA.out w u hI.1 hr).mono fun e w' h => ⟨_, h.1, rfl, h.2⟩⟩
    clear hF hI hu hr
    simp only [Array.getD_eq_getD_getElem?] at f1 f2
    simp only [execOp]; go_simp) ?_
  refine Reg.rely_isb (.bool true) 8 false 11 rfl rfl (fun v w h => h) (fun a w hI hF => by
    have f1 : a.tmps.getD 15 undef = .bool false := hF 15 (Reg.looksB (by kernel_rfl))
    clear hF hI
    simp only [Array.getD_eq_getD_getElem?] at f1
    simp only [execOp]; go_simp) ?_
  refine Reg.rely_plain (.bool true) rfl (fun a w hI hF => by
    have f1 : a.tmps.getD 11 undef = .bool false := hF 11 (Reg.looksB (by kernel_rfl))
    have f2 : a.tmps.getD 16 undef = .bool true := hF 16 (Reg.looksB (by kernel_rfl))
    clear hF hI
    simp only [Array.getD_eq_getD_getElem?] at f1 f2
    simp only [execOp]; go_simp) ?_
  refine Reg.rely_plain (.bool true) rfl (fun a w hI hF => by
    have f1 : a.tmps.getD 17 undef = .bool true := hF 17 (Reg.looksB (by kernel_rfl))
    clear hF hI
    simp only [Array.getD_eq_getD_getElem?] at f1
    simp only [execOp]; go_simp) ?_
  refine Reg.rely_skip 15 false 18 rfl rfl (fun v w h => h) ?_
  refine Reg.rely_skip 15 false 18 rfl rfl (fun v w h => h) ?_
  refine Reg.rely_skip 15 false 18 rfl rfl (fun v w h => h) ?_
  refine Reg.rely_plain (.bool true) rfl (fun a w hI hF => by
    have f1 : a.tmps.getD 18 undef = .bool true := hF 18 (Reg.looksB (by kernel_rfl))
    have f2 : a.tmps.getD 21 undef = undef := hF 21 (Reg.looksB (by kernel_rfl))
    clear hF hI
    simp only [Array.getD_eq_getD_getElem?] at f1 f2
    simp only [execOp]; go_simp) ?_
  refine Reg.rely_nil ?_
  refine Reg.final_is ?_
  refine Reg.final_is ?_
  refine Reg.final_is ?_
  refine Reg.final_is ?_
  refine Reg.final_is ?_
  refine Reg.final_is ?_
  refine Reg.final_is ?_
  refine Reg.final_is ?_
  refine Reg.final_rel (fun vo => ?_)
  refine Reg.final_is ?_
  refine Reg.final_is ?_
  refine Reg.final_is ?_
  refine Reg.final_is ?_
  refine Reg.final_is ?_
  refine Reg.final_is ?_
  refine Reg.final_is ?_
  refine Reg.final_is ?_
  refine Reg.final_is ?_
  refine Reg.final_is ?_
  refine Reg.final_is ?_
  refine Reg.final_nil (fun w9 hF => ?_)
  have HX := Lib.hid (by first | exact hF.1.1 | exact hF.1)
  clear hF
  simp only [List.drop_succ_cons, List.drop_zero]
  go_simp
  go_wp2_with fail
  try (refine Reg.fin (by kernel_rfl) ?_; go_wp2_with fail)
  go_ret
  exact my_no HNO.out HX.out.bel
 case pos =>
  have HO := Lib.hid ho
  simp only [decide_eq_true ho] at HSA
  clear ho
  by_cases hb : BndOk m
  case neg =>
   have HNO := Lib.hid (may_no (m := m) fun k => hb k.bnd)
   simp only [bnd_no hb] at HBD
   clear hb
   refine Reg.wp_rely 20 (fun w => DXw W m ⟨.slice p1 m.input.length c1, .slice p2 m.task.args.length c2, .slice p3 m.ents.length c3, .slice p4 m.epochs.length c4, .slice p5 m.names.length c5, .slice p6 m.codes.length c6⟩ w ∧ Below w0.heap.size w0 w) (by kernel_rfl) (Reg.relyOk_of (by kernel_rfl)) ⟨HD0.out.step (Below.refl _ w0).drew, (Below.refl _ w0).drew⟩ (fun w w' h hI => ⟨hI.1.step h, hI.2.step h⟩) ?_
   refine Reg.rely_plain (.pointer (some ⟨W.heap.size, 0, none⟩)) rfl (fun a w hI hF => by
     have f1 : a.tmps.getD 1 undef = .pointer (some ⟨W.heap.size, 0, none⟩) := hF 1 (Reg.looksB (by kernel_rfl))
     clear hF hI
     simp only [Array.getD_eq_getD_getElem?] at f1
     simp only [execOp]; go_simp) ?_
   refine Reg.rely_plain (.int .u8 m.kind) rfl (fun a w hI hF => by
     have f1 : a.tmps.getD 3 undef = .pointer (some ⟨W.heap.size, 0, none⟩) := hF 3 (Reg.looksB (by kernel_rfl))
     have hc : w.cell? ⟨W.heap.size, 0, none⟩ = some (.int .u8 m.kind) := hI.1.blk.cell 0
     clear hF hI
     simp only [Array.getD_eq_getD_getElem?] at f1
     simp only [execOp]; go_simp) ?_
   refine Reg.rely_plain (.bool false) rfl (fun a w hI hF => by
     have f1 : a.tmps.getD 4 undef = .int .u8 m.kind := hF 4 (Reg.looksB (by kernel_rfl))
     have hq := HK1.out
     clear hF hI
     simp only [Array.getD_eq_getD_getElem?] at f1
     simp only [execOp]; go_simp) ?_
   refine Reg.rely_plain (.bool false) rfl (fun a w hI hF => by
     have f1 : a.tmps.getD 5 undef = .bool false := hF 5 (Reg.looksB (by kernel_rfl))
     clear hF hI
     simp only [Array.getD_eq_getD_getElem?] at f1
     simp only [execOp]; go_simp) ?_
   refine Reg.rely_isb (.pointer (some ⟨W.heap.size, 0, none⟩)) 3 false 6 rfl rfl (fun v w h => h) (fun a w hI hF => by
     have f1 : a.tmps.getD 1 undef = .pointer (some ⟨W.heap.size, 0, none⟩) := hF 1 (Reg.looksB (by kernel_rfl))
     clear hF hI
     simp only [Array.getD_eq_getD_getElem?] at f1
     simp only [execOp]; go_simp) ?_
   refine Reg.rely_isb (.int .u8 m.kind) 3 false 6 rfl rfl (fun v w h => h) (fun a w hI hF => by
     have f1 : a.tmps.getD 7 undef = .pointer (some ⟨W.heap.size, 0, none⟩) := hF 7 (Reg.looksB (by kernel_rfl))
     have hc : w.cell? ⟨W.heap.size, 0, none⟩ = some (.int .u8 m.kind) := hI.1.blk.cell 0
     clear hF hI
     simp only [Array.getD_eq_getD_getElem?] at f1
     simp only [execOp]; go_simp) ?_
   refine Reg.rely_isb (.bool false) 3 false 6 rfl rfl (fun v w h => h) (fun a w hI hF => by
     have f1 : a.tmps.getD 8 undef = .int .u8 m.kind := hF 8 (Reg.looksB (by kernel_rfl))
     have hq := HK2.out
     clear hF hI
     simp only [Array.getD_eq_getD_getElem?] at f1
     simp only [execOp]; go_simp) ?_
   refine Reg.rely_plain (.bool false) rfl (fun a w hI hF => by
     have f1 : a.tmps.getD 6 undef = .bool false := hF 6 (Reg.looksB (by kernel_rfl))
     have f2 : a.tmps.getD 9 undef = .bool false := hF 9 (Reg.looksB (by kernel_rfl))
     clear hF hI
     simp only [Array.getD_eq_getD_getElem?] at f1 f2
     simp only [execOp]; go_simp) ?_
   refine Reg.rely_plain (.bool false) rfl (fun a w hI hF => by
     have f1 : a.tmps.getD 10 undef = .bool false := hF 10 (Reg.looksB (by kernel_rfl))
     clear hF hI
     simp only [Array.getD_eq_getD_getElem?] at f1
     simp only [execOp]; go_simp) ?_
   refine Reg.rely_isb (.agg (mcells m ⟨.slice p1 m.input.length c1, .slice p2 m.task.args.length c2, .slice p3 m.ents.length c3, .slice p4 m.epochs.length c4, .slice p5 m.names.length c5, .slice p6 m.codes.length c6⟩)) 8 false 11 rfl rfl (fun v w h => h) (fun a w hI hF => run_load_blk hI.1.blk rfl (show a.tmps.getD 1 undef = _ from hF 1 (Reg.looksB (by kernel_rfl))) Tryz.underlying34 rfl (by kernel_rfl)) ?_
   refine Reg.rely_isb (.agg (mcells m ⟨.slice p1 m.input.length c1, .slice p2 m.task.args.length c2, .slice p3 m.ents.length c3, .slice p4 m.epochs.length c4, .slice p5 m.names.length c5, .slice p6 m.codes.length c6⟩)) 8 false 11 rfl rfl (fun v w h => h) (fun a w hI hF => run_load_blk hI.1.blk rfl (show a.tmps.getD 1 undef = _ from hF 1 (Reg.looksB (by kernel_rfl))) Tryz.underlying34 rfl (by kernel_rfl)) ?_
   refine Reg.rely_callb (fun v w => ∃ u, v = .agg (mcells (onlyM m) u) ∧ MR w w.heap.size (onlyM m) u) (fun v w w' h hS => by obtain ⟨u, h1, h2⟩ := hS; exact ⟨u, h1, (h2.keep fun b o y g1 g2 => Below.cellq h g1 g2).mono h.size⟩) (fun G hG => by cases hG) 8 false 11 rfl rfl (fun v w h => h) (fun a w hI hF => by
     have f1 : a.tmps.getD 13 undef = .agg (mcells m ⟨.slice p1 m.input.length c1, .slice p2 m.task.args.length c2, .slice p3 m.ents.length c3, .slice p4 m.epochs.length c4, .slice p5 m.names.length c5, .slice p6 m.codes.length c6⟩) := hF 13 (Reg.looksB (by kernel_rfl))
     refine ⟨18, #[.agg (mcells m ⟨.slice p1 m.input.length c1, .slice p2 m.task.args.length c2, .slice p3 m.ents.length c3, .slice p4 m.epochs.length c4, .slice p5 m.names.length c5, .slice p6 m.codes.length c6⟩)], ?_, (HON.out w hI.1).mono fun e w' h => by obtain ⟨u, h1, h2, h3⟩ := h; exact ⟨_, h1, ⟨u, rfl, h2.mono h3.size⟩, h3⟩⟩
     clear hF hI
     simp only [Array.getD_eq_getD_getElem?] at f1
     simp only [execOp]; go_simp) ?_
   refine Reg.rely_callb (Reg.Is (.bool true)) (Reg.stab_is _ _) (fun G hG => by cases hG) 8 false 11 rfl rfl (fun v w h => h) (fun a w hI hF => by
     have f1 : a.tmps.getD 12 undef = .agg (mcells m ⟨.slice p1 m.input.length c1, .slice p2 m.task.args.length c2, .slice p3 m.ents.length c3, .slice p4 m.epochs.length c4, .slice p5 m.names.length c5, .slice p6 m.codes.length c6⟩) := hF 12 (Reg.looksB (by kernel_rfl))
     obtain ⟨v2, f2, u, hu, hr⟩ : ∃ v, a.tmps.getD 14 undef = v ∧ ∃ u, v = .agg (mcells (onlyM m) u) ∧ MR w w.heap.size (onlyM m) u := ⟨_, rfl, hF 14 (Reg.looksB (by kernel_rfl))⟩
     rw [hu] at f2
     refine ⟨13, #[.agg (mcells m ⟨.slice p1 m.input.length c1, .slice p2 m.task.args.length c2, .slice p3 m.ents.length c3, .slice p4 m.epochs.length c4, .slice p5 m.names.length c5, .slice p6 m.codes.length c6⟩), .agg (mcells (onlyM m) u)], ?_, (HSA.out w u hI.1 hr).mono fun e w' h => ⟨_, h.1, rfl, h.2⟩⟩
     clear hF hI hu hr
     simp only [Array.getD_eq_getD_getElem?] at f1 f2
     simp only [execOp]; go_simp) ?_
   refine Reg.rely_isb (.bool false) 8 false 11 rfl rfl (fun v w h => h) (fun a w hI hF => by
     have f1 : a.tmps.getD 15 undef = .bool true := hF 15 (Reg.looksB (by kernel_rfl))
     clear hF hI
     simp only [Array.getD_eq_getD_getElem?] at f1
     simp only [execOp]; go_simp) ?_
   refine Reg.rely_plain (.bool false) rfl (fun a w hI hF => by
     have f1 : a.tmps.getD 11 undef = .bool false := hF 11 (Reg.looksB (by kernel_rfl))
     have f2 : a.tmps.getD 16 undef = .bool false := hF 16 (Reg.looksB (by kernel_rfl))
     clear hF hI
     simp only [Array.getD_eq_getD_getElem?] at f1 f2
     simp only [execOp]; go_simp) ?_
   refine Reg.rely_plain (.bool false) rfl (fun a w hI hF => by
     have f1 : a.tmps.getD 17 undef = .bool false := hF 17 (Reg.looksB (by kernel_rfl))
     clear hF hI
     simp only [Array.getD_eq_getD_getElem?] at f1
     simp only [execOp]; go_simp) ?_
   refine Reg.rely_isb (.agg (mcells m ⟨.slice p1 m.input.length c1, .slice p2 m.task.args.length c2, .slice p3 m.ents.length c3, .slice p4 m.epochs.length c4, .slice p5 m.names.length c5, .slice p6 m.codes.length c6⟩)) 15 false 18 rfl rfl (fun v w h => h) (fun a w hI hF => run_load_blk hI.1.blk rfl (show a.tmps.getD 1 undef = _ from hF 1 (Reg.looksB (by kernel_rfl))) Tryz.underlying34 rfl (by kernel_rfl)) ?_
   refine Reg.rely_callb (Reg.Is (.bool false)) (Reg.stab_is _ _) (fun G hG => by cases hG) 15 false 18 rfl rfl (fun v w h => h) (fun a w hI hF => by
     have f1 : a.tmps.getD 19 undef = .agg (mcells m ⟨.slice p1 m.input.length c1, .slice p2 m.task.args.length c2, .slice p3 m.ents.length c3, .slice p4 m.epochs.length c4, .slice p5 m.names.length c5, .slice p6 m.codes.length c6⟩) := hF 19 (Reg.looksB (by kernel_rfl))
     refine ⟨19, #[.agg (mcells m ⟨.slice p1 m.input.length c1, .slice p2 m.task.args.length c2, .slice p3 m.ents.length c3, .slice p4 m.epochs.length c4, .slice p5 m.names.length c5, .slice p6 m.codes.length c6⟩)], ?_, (HBD.out w hI.1).mono fun e w' h => ⟨_, h.1, rfl, h.2⟩⟩
     clear hF hI
     simp only [Array.getD_eq_getD_getElem?] at f1
     simp only [execOp]; go_simp) ?_
   refine Reg.rely_isb (.bool true) 15 false 18 rfl rfl (fun v w h => h) (fun a w hI hF => by
     have f1 : a.tmps.getD 20 undef = .bool false := hF 20 (Reg.looksB (by kernel_rfl))
     clear hF hI
     simp only [Array.getD_eq_getD_getElem?] at f1
     simp only [execOp]; go_simp) ?_
   refine Reg.rely_plain (.bool true) rfl (fun a w hI hF => by
     have f1 : a.tmps.getD 18 undef = .bool false := hF 18 (Reg.looksB (by kernel_rfl))
     have f2 : a.tmps.getD 21 undef = .bool true := hF 21 (Reg.looksB (by kernel_rfl))
     clear hF hI
     simp only [Array.getD_eq_getD_getElem?] at f1 f2
     simp only [execOp]; go_simp) ?_
   refine Reg.rely_nil ?_
   refine Reg.final_is ?_
   refine Reg.final_is ?_
   refine Reg.final_is ?_
   refine Reg.final_is ?_
   refine Reg.final_is ?_
   refine Reg.final_is ?_
   refine Reg.final_is ?_
   refine Reg.final_is ?_
   refine Reg.final_rel (fun vo => ?_)
   refine Reg.final_is ?_
   refine Reg.final_is ?_
   refine Reg.final_is ?_
   refine Reg.final_is ?_
   refine Reg.final_is ?_
   refine Reg.final_is ?_
   refine Reg.final_is ?_
   refine Reg.final_is ?_
   refine Reg.final_is ?_
   refine Reg.final_is ?_
   refine Reg.final_is ?_
   refine Reg.final_nil (fun w9 hF => ?_)
   have HX := Lib.hid (by first | exact hF.1.1 | exact hF.1)
   clear hF
   simp only [List.drop_succ_cons, List.drop_zero]
   go_simp
   go_wp2_with fail
   try (refine Reg.fin (by kernel_rfl) ?_; go_wp2_with fail)
   go_ret
   exact my_no HNO.out HX.out.bel
  case pos =>
   have HBO := Lib.hid hb
   simp only [bnd_ok hb] at HBD
   clear hb
   refine Reg.wp_rely 20 (fun w => DXw W m ⟨.slice p1 m.input.length c1, .slice p2 m.task.args.length c2, .slice p3 m.ents.length c3, .slice p4 m.epochs.length c4, .slice p5 m.names.length c5, .slice p6 m.codes.length c6⟩ w ∧ Below w0.heap.size w0 w) (by kernel_rfl) (Reg.relyOk_of (by kernel_rfl)) ⟨HD0.out.step (Below.refl _ w0).drew, (Below.refl _ w0).drew⟩ (fun w w' h hI => ⟨hI.1.step h, hI.2.step h⟩) ?_
   refine Reg.rely_plain (.pointer (some ⟨W.heap.size, 0, none⟩)) rfl (fun a w hI hF => by
     have f1 : a.tmps.getD 1 undef = .pointer (some ⟨W.heap.size, 0, none⟩) := hF 1 (Reg.looksB (by kernel_rfl))
     clear hF hI
     simp only [Array.getD_eq_getD_getElem?] at f1
     simp only [execOp]; go_simp) ?_
   refine Reg.rely_plain (.int .u8 m.kind) rfl (fun a w hI hF => by
     have f1 : a.tmps.getD 3 undef = .pointer (some ⟨W.heap.size, 0, none⟩) := hF 3 (Reg.looksB (by kernel_rfl))
     have hc : w.cell? ⟨W.heap.size, 0, none⟩ = some (.int .u8 m.kind) := hI.1.blk.cell 0
     clear hF hI
     simp only [Array.getD_eq_getD_getElem?] at f1
     simp only [execOp]; go_simp) ?_
   refine Reg.rely_plain (.bool false) rfl (fun a w hI hF => by
     have f1 : a.tmps.getD 4 undef = .int .u8 m.kind := hF 4 (Reg.looksB (by kernel_rfl))
     have hq := HK1.out
     clear hF hI
     simp only [Array.getD_eq_getD_getElem?] at f1
     simp only [execOp]; go_simp) ?_
   refine Reg.rely_plain (.bool false) rfl (fun a w hI hF => by
     have f1 : a.tmps.getD 5 undef = .bool false := hF 5 (Reg.looksB (by kernel_rfl))
     clear hF hI
     simp only [Array.getD_eq_getD_getElem?] at f1
     simp only [execOp]; go_simp) ?_
   refine Reg.rely_isb (.pointer (some ⟨W.heap.size, 0, none⟩)) 3 false 6 rfl rfl (fun v w h => h) (fun a w hI hF => by
     have f1 : a.tmps.getD 1 undef = .pointer (some ⟨W.heap.size, 0, none⟩) := hF 1 (Reg.looksB (by kernel_rfl))
     clear hF hI
     simp only [Array.getD_eq_getD_getElem?] at f1
     simp only [execOp]; go_simp) ?_
   refine Reg.rely_isb (.int .u8 m.kind) 3 false 6 rfl rfl (fun v w h => h) (fun a w hI hF => by
     have f1 : a.tmps.getD 7 undef = .pointer (some ⟨W.heap.size, 0, none⟩) := hF 7 (Reg.looksB (by kernel_rfl))
     have hc : w.cell? ⟨W.heap.size, 0, none⟩ = some (.int .u8 m.kind) := hI.1.blk.cell 0
     clear hF hI
     simp only [Array.getD_eq_getD_getElem?] at f1
     simp only [execOp]; go_simp) ?_
   refine Reg.rely_isb (.bool false) 3 false 6 rfl rfl (fun v w h => h) (fun a w hI hF => by
     have f1 : a.tmps.getD 8 undef = .int .u8 m.kind := hF 8 (Reg.looksB (by kernel_rfl))
     have hq := HK2.out
     clear hF hI
     simp only [Array.getD_eq_getD_getElem?] at f1
     simp only [execOp]; go_simp) ?_
   refine Reg.rely_plain (.bool false) rfl (fun a w hI hF => by
     have f1 : a.tmps.getD 6 undef = .bool false := hF 6 (Reg.looksB (by kernel_rfl))
     have f2 : a.tmps.getD 9 undef = .bool false := hF 9 (Reg.looksB (by kernel_rfl))
     clear hF hI
     simp only [Array.getD_eq_getD_getElem?] at f1 f2
     simp only [execOp]; go_simp) ?_
   refine Reg.rely_plain (.bool false) rfl (fun a w hI hF => by
     have f1 : a.tmps.getD 10 undef = .bool false := hF 10 (Reg.looksB (by kernel_rfl))
     clear hF hI
     simp only [Array.getD_eq_getD_getElem?] at f1
     simp only [execOp]; go_simp) ?_
   refine Reg.rely_isb (.agg (mcells m ⟨.slice p1 m.input.length c1, .slice p2 m.task.args.length c2, .slice p3 m.ents.length c3, .slice p4 m.epochs.length c4, .slice p5 m.names.length c5, .slice p6 m.codes.length c6⟩)) 8 false 11 rfl rfl (fun v w h => h) (fun a w hI hF => run_load_blk hI.1.blk rfl (show a.tmps.getD 1 undef = _ from hF 1 (Reg.looksB (by kernel_rfl))) Tryz.underlying34 rfl (by kernel_rfl)) ?_
   refine Reg.rely_isb (.agg (mcells m ⟨.slice p1 m.input.length c1, .slice p2 m.task.args.length c2, .slice p3 m.ents.length c3, .slice p4 m.epochs.length c4, .slice p5 m.names.length c5, .slice p6 m.codes.length c6⟩)) 8 false 11 rfl rfl (fun v w h => h) (fun a w hI hF => run_load_blk hI.1.blk rfl (show a.tmps.getD 1 undef = _ from hF 1 (Reg.looksB (by kernel_rfl))) Tryz.underlying34 rfl (by kernel_rfl)) ?_
   refine Reg.rely_callb (fun v w => ∃ u, v = .agg (mcells (onlyM m) u) ∧ MR w w.heap.size (onlyM m) u) (fun v w w' h hS => by obtain ⟨u, h1, h2⟩ := hS; exact ⟨u, h1, (h2.keep fun b o y g1 g2 => Below.cellq h g1 g2).mono h.size⟩) (fun G hG => by cases hG) 8 false 11 rfl rfl (fun v w h => h) (fun a w hI hF => by
     have f1 : a.tmps.getD 13 undef = .agg (mcells m ⟨.slice p1 m.input.length c1, .slice p2 m.task.args.length c2, .slice p3 m.ents.length c3, .slice p4 m.epochs.length c4, .slice p5 m.names.length c5, .slice p6 m.codes.length c6⟩) := hF 13 (Reg.looksB (by kernel_rfl))
     refine ⟨18, #[.agg (mcells m ⟨.slice p1 m.input.length c1, .slice p2 m.task.args.length c2, .slice p3 m.ents.length c3, .slice p4 m.epochs.length c4, .slice p5 m.names.length c5, .slice p6 m.codes.length c6⟩)], ?_, (HON.out w hI.1).mono fun e w' h => by obtain ⟨u, h1, h2, h3⟩ := h; exact ⟨_, h1, ⟨u, rfl, h2.mono h3.size⟩, h3⟩⟩
     clear hF hI
     simp only [Array.getD_eq_getD_getElem?] at f1
     simp only [execOp]; go_simp) ?_
   refine Reg.rely_callb (Reg.Is (.bool true)) (Reg.stab_is _ _) (fun G hG => by cases hG) 8 false 11 rfl rfl (fun v w h => h) (fun a w hI hF => by
     have f1 : a.tmps.getD 12 undef = .agg (mcells m ⟨.slice p1 m.input.length c1, .slice p2 m.task.args.length c2, .slice p3 m.ents.length c3, .slice p4 m.epochs.length c4, .slice p5 m.names.length c5, .slice p6 m.codes.length c6⟩) := hF 12 (Reg.looksB (by kernel_rfl))
     obtain ⟨v2, f2, u, hu, hr⟩ : ∃ v, a.tmps.getD 14 undef = v ∧ ∃ u, v = .agg (mcells (onlyM m) u) ∧ MR w w.heap.size (onlyM m) u := ⟨_, rfl, hF 14 (Reg.looksB (by kernel_rfl))⟩
     rw [hu] at f2
     refine ⟨13, #[.agg (mcells m ⟨.slice p1 m.input.length c1, .slice p2 m.task.args.length c2, .slice p3 m.ents.length c3, .slice p4 m.epochs.length c4, .slice p5 m.names.length c5, .slice p6 m.codes.length c6⟩), .agg (mcells (onlyM m) u)], ?_, (HSA.out w u hI.1 hr).mono fun e w' h => ⟨_, h.1, rfl, h.2⟩⟩
     clear hF hI hu hr
     simp only [Array.getD_eq_getD_getElem?] at f1 f2
     simp only [execOp]; go_simp) ?_
   refine Reg.rely_isb (.bool false) 8 false 11 rfl rfl (fun v w h => h) (fun a w hI hF => by
     have f1 : a.tmps.getD 15 undef = .bool true := hF 15 (Reg.looksB (by kernel_rfl))
     clear hF hI
     simp only [Array.getD_eq_getD_getElem?] at f1
     simp only [execOp]; go_simp) ?_
   refine Reg.rely_plain (.bool false) rfl (fun a w hI hF => by
     have f1 : a.tmps.getD 11 undef = .bool false := hF 11 (Reg.looksB (by kernel_rfl))
     have f2 : a.tmps.getD 16 undef = .bool false := hF 16 (Reg.looksB (by kernel_rfl))
     clear hF hI
     simp only [Array.getD_eq_getD_getElem?] at f1 f2
     simp only [execOp]; go_simp) ?_
   refine Reg.rely_plain (.bool false) rfl (fun a w hI hF => by
     have f1 : a.tmps.getD 17 undef = .bool false := hF 17 (Reg.looksB (by kernel_rfl))
     clear hF hI
     simp only [Array.getD_eq_getD_getElem?] at f1
     simp only [execOp]; go_simp) ?_
   refine Reg.rely_isb (.agg (mcells m ⟨.slice p1 m.input.length c1, .slice p2 m.task.args.length c2, .slice p3 m.ents.length c3, .slice p4 m.epochs.length c4, .slice p5 m.names.length c5, .slice p6 m.codes.length c6⟩)) 15 false 18 rfl rfl (fun v w h => h) (fun a w hI hF => run_load_blk hI.1.blk rfl (show a.tmps.getD 1 undef = _ from hF 1 (Reg.looksB (by kernel_rfl))) Tryz.underlying34 rfl (by kernel_rfl)) ?_
   refine Reg.rely_callb (Reg.Is (.bool true)) (Reg.stab_is _ _) (fun G hG => by cases hG) 15 false 18 rfl rfl (fun v w h => h) (fun a w hI hF => by
     have f1 : a.tmps.getD 19 undef = .agg (mcells m ⟨.slice p1 m.input.length c1, .slice p2 m.task.args.length c2, .slice p3 m.ents.length c3, .slice p4 m.epochs.length c4, .slice p5 m.names.length c5, .slice p6 m.codes.length c6⟩) := hF 19 (Reg.looksB (by kernel_rfl))
     refine ⟨19, #[.agg (mcells m ⟨.slice p1 m.input.length c1, .slice p2 m.task.args.length c2, .slice p3 m.ents.length c3, .slice p4 m.epochs.length c4, .slice p5 m.names.length c5, .slice p6 m.codes.length c6⟩)], ?_, (HBD.out w hI.1).mono fun e w' h => ⟨_, h.1, rfl, h.2⟩⟩
     clear hF hI
     simp only [Array.getD_eq_getD_getElem?] at f1
     simp only [execOp]; go_simp) ?_
   refine Reg.rely_isb (.bool false) 15 false 18 rfl rfl (fun v w h => h) (fun a w hI hF => by
     have f1 : a.tmps.getD 20 undef = .bool true := hF 20 (Reg.looksB (by kernel_rfl))
     clear hF hI
     simp only [Array.getD_eq_getD_getElem?] at f1
     simp only [execOp]; go_simp) ?_
   refine Reg.rely_plain (.bool false) rfl (fun a w hI hF => by
     have f1 : a.tmps.getD 18 undef = .bool false := hF 18 (Reg.looksB (by kernel_rfl))
     have f2 : a.tmps.getD 21 undef = .bool false := hF 21 (Reg.looksB (by kernel_rfl))
     clear hF hI
     simp only [Array.getD_eq_getD_getElem?] at f1 f2
     simp only [execOp]; go_simp) ?_
   refine Reg.rely_nil ?_
   refine Reg.final_is ?_
   refine Reg.final_is ?_
   refine Reg.final_is ?_
   refine Reg.final_is ?_
   refine Reg.final_is ?_
   refine Reg.final_is ?_
   refine Reg.final_is ?_
   refine Reg.final_is ?_
   refine Reg.final_rel (fun vo => ?_)
   refine Reg.final_is ?_
   refine Reg.final_is ?_
   refine Reg.final_is ?_
   refine Reg.final_is ?_
   refine Reg.final_is ?_
   refine Reg.final_is ?_
   refine Reg.final_is ?_
   refine Reg.final_is ?_
   refine Reg.final_is ?_
   refine Reg.final_is ?_
   refine Reg.final_is ?_
   refine Reg.final_nil (fun w9 hF => ?_)
   have HX := Lib.hid (by first | exact hF.1.1 | exact hF.1)
   clear hF
   simp only [List.drop_succ_cons, List.drop_zero]
   go_simp
   go_wp2_with fail
   refine Reg.fin (by kernel_rfl) ?_
   go_upto_region 3 with fail
   clear HON HBD HSA HK1 HK2 HD0
   obtain ⟨y0, y1, y2, y3, y4, y5, y6, y7, y8, y9, y10, y11, y12, y13, y14, y15, y16, y17, y18⟩ := m19 HX.out.blk
   have HTK := Lib.hid (fun w => task26_any (t := m.task) (W := w) (v := .slice p2 m.task.args.length c2) ⟨_, _, rfl⟩ HL.out.path)
   have HRS := Lib.hid (fun w => result26_any m.res w)
   have HCE := Lib.hid (fun w => code26_any m.err w)
   by_cases f1 : (281474976710656 : Int) < m.epoch
   ·have HNO := Lib.hid (may_no (m := m) fun k => by have := k.rest.epoch; omega)
    go_wp2_with fail
    go_ret
    exact my_no HNO.out HX.out.bel
   by_cases f2 : (32 : Int) < (m.tok.size : Int)
   ·have HNO := Lib.hid (may_no (m := m) fun k => by have := k.rest.tok; omega)
    go_wp2_with fail
    go_ret
    exact my_no HNO.out HX.out.bel
   by_cases f3 : (16384 : Int) < (m.prog.size : Int)
   ·have HNO := Lib.hid (may_no (m := m) fun k => by have := k.rest.prog; omega)
    go_wp2_with fail
    go_ret
    exact my_no HNO.out HX.out.bel
   by_cases f4 : (16 : Int) < (m.input.length : Int)
   ·have HNO := Lib.hid (may_no (m := m) fun k => by have := k.rest.input; omega)
    go_wp2_with fail
    go_ret
    exact my_no HNO.out HX.out.bel
   by_cases f5 : m.fuel < 0
   ·have HNO := Lib.hid (may_no (m := m) fun k => by have := k.rest.fuel; omega)
    go_wp2_with fail
    go_ret
    exact my_no HNO.out HX.out.bel
   by_cases f6 : (65536 : Int) < m.fuel
   ·have HNO := Lib.hid (may_no (m := m) fun k => by have := k.rest.fuel; omega)
    go_wp2_with fail
    go_ret
    exact my_no HNO.out HX.out.bel
   by_cases f7 : tkB m.task = false
   ·have HNO := Lib.hid (may_no (m := m) fun k => by have := k.rest.task; rw [f7] at this; cases this)
    simp only [f7] at HTK
    go_wp2_with (go_at_call 20; go_loud ((with_reducible refine (HTK.out _).mono ?_); rintro e w10 ⟨rfl, hbq⟩; have HX10 := Lib.hid (HX.out.step hbq); have v15 : w10.cell? ⟨W.heap.size, 15, none⟩ = some (.int .u8 m.state) := HX10.out.blk.cell 15; have v16 : w10.cell? ⟨W.heap.size, 16, none⟩ = some (.int .i64 m.res.val) := HX10.out.blk.cell 16; have v17 : w10.cell? ⟨W.heap.size, 17, none⟩ = some (.int .i64 m.res.err) := HX10.out.blk.cell 17; have v18 : w10.cell? ⟨W.heap.size, 18, none⟩ = some (.int .i64 m.err) := HX10.out.blk.cell 18; have v0 : w10.cell? ⟨W.heap.size, 0, none⟩ = some (.int .u8 m.kind) := HX10.out.blk.cell 0; have v11 : w10.cell? ⟨W.heap.size, 11, none⟩ = some (.slice p3 m.ents.length c3) := HX10.out.blk.cell 11; have v12 : w10.cell? ⟨W.heap.size, 12, none⟩ = some (.slice p4 m.epochs.length c4) := HX10.out.blk.cell 12; have v13 : w10.cell? ⟨W.heap.size, 13, none⟩ = some (.slice p5 m.names.length c5) := HX10.out.blk.cell 13; clear hbq))
    go_ret
    exact my_no HNO.out HX10.out.bel
   have g7 : tkB m.task = true := by simpa using f7
   have hg7 := Lib.hid g7
   simp only [g7] at HTK
   clear f7 g7
   by_cases f8 : (3 : Int) < m.state
   ·have HNO := Lib.hid (may_no (m := m) fun k => by have := k.rest.state; omega)
    go_wp2_with (go_at_call 20; go_loud ((with_reducible refine (HTK.out _).mono ?_); rintro e w10 ⟨rfl, hbq⟩; have HX10 := Lib.hid (HX.out.step hbq); have v15 : w10.cell? ⟨W.heap.size, 15, none⟩ = some (.int .u8 m.state) := HX10.out.blk.cell 15; have v16 : w10.cell? ⟨W.heap.size, 16, none⟩ = some (.int .i64 m.res.val) := HX10.out.blk.cell 16; have v17 : w10.cell? ⟨W.heap.size, 17, none⟩ = some (.int .i64 m.res.err) := HX10.out.blk.cell 17; have v18 : w10.cell? ⟨W.heap.size, 18, none⟩ = some (.int .i64 m.err) := HX10.out.blk.cell 18; have v0 : w10.cell? ⟨W.heap.size, 0, none⟩ = some (.int .u8 m.kind) := HX10.out.blk.cell 0; have v11 : w10.cell? ⟨W.heap.size, 11, none⟩ = some (.slice p3 m.ents.length c3) := HX10.out.blk.cell 11; have v12 : w10.cell? ⟨W.heap.size, 12, none⟩ = some (.slice p4 m.epochs.length c4) := HX10.out.blk.cell 12; have v13 : w10.cell? ⟨W.heap.size, 13, none⟩ = some (.slice p5 m.names.length c5) := HX10.out.blk.cell 13; clear hbq))
    go_ret
    exact my_no HNO.out HX10.out.bel
   by_cases f9 : resOk m.res = false
   ·have HNO := Lib.hid (may_no (m := m) fun k => by have := k.rest.res; rw [f9] at this; cases this)
    simp only [f9] at HRS
    go_wp2_with (first | (go_at_call 20; go_loud ((with_reducible refine (HTK.out _).mono ?_); rintro e w10 ⟨rfl, hbq⟩; have HX10 := Lib.hid (HX.out.step hbq); have v15 : w10.cell? ⟨W.heap.size, 15, none⟩ = some (.int .u8 m.state) := HX10.out.blk.cell 15; have v16 : w10.cell? ⟨W.heap.size, 16, none⟩ = some (.int .i64 m.res.val) := HX10.out.blk.cell 16; have v17 : w10.cell? ⟨W.heap.size, 17, none⟩ = some (.int .i64 m.res.err) := HX10.out.blk.cell 17; have v18 : w10.cell? ⟨W.heap.size, 18, none⟩ = some (.int .i64 m.err) := HX10.out.blk.cell 18; have v0 : w10.cell? ⟨W.heap.size, 0, none⟩ = some (.int .u8 m.kind) := HX10.out.blk.cell 0; have v11 : w10.cell? ⟨W.heap.size, 11, none⟩ = some (.slice p3 m.ents.length c3) := HX10.out.blk.cell 11; have v12 : w10.cell? ⟨W.heap.size, 12, none⟩ = some (.slice p4 m.epochs.length c4) := HX10.out.blk.cell 12; have v13 : w10.cell? ⟨W.heap.size, 13, none⟩ = some (.slice p5 m.names.length c5) := HX10.out.blk.cell 13; clear hbq)) | (go_at_call 21; go_loud ((with_reducible refine (HRS.out _).mono ?_); rintro e w11 ⟨rfl, hbq⟩; have HX11 := Lib.hid (HX10.out.step hbq); have v18 : w11.cell? ⟨W.heap.size, 18, none⟩ = some (.int .i64 m.err) := HX11.out.blk.cell 18; clear hbq)))
    go_ret
    exact my_no HNO.out HX11.out.bel
   have g9 : resOk m.res = true := by simpa using f9
   have hg9 := Lib.hid g9
   simp only [g9] at HRS
   clear f9 g9
   by_cases f10 : nb m.err 9999 = true
   ·have HNO := Lib.hid (may_no (m := m) fun k => by have := k.rest.err; rw [f10] at this; cases this)
    simp only [f10] at HCE
    go_wp2_with (first | (go_at_call 20; go_loud ((with_reducible refine (HTK.out _).mono ?_); rintro e w10 ⟨rfl, hbq⟩; have HX10 := Lib.hid (HX.out.step hbq); have v15 : w10.cell? ⟨W.heap.size, 15, none⟩ = some (.int .u8 m.state) := HX10.out.blk.cell 15; have v16 : w10.cell? ⟨W.heap.size, 16, none⟩ = some (.int .i64 m.res.val) := HX10.out.blk.cell 16; have v17 : w10.cell? ⟨W.heap.size, 17, none⟩ = some (.int .i64 m.res.err) := HX10.out.blk.cell 17; have v18 : w10.cell? ⟨W.heap.size, 18, none⟩ = some (.int .i64 m.err) := HX10.out.blk.cell 18; have v0 : w10.cell? ⟨W.heap.size, 0, none⟩ = some (.int .u8 m.kind) := HX10.out.blk.cell 0; have v11 : w10.cell? ⟨W.heap.size, 11, none⟩ = some (.slice p3 m.ents.length c3) := HX10.out.blk.cell 11; have v12 : w10.cell? ⟨W.heap.size, 12, none⟩ = some (.slice p4 m.epochs.length c4) := HX10.out.blk.cell 12; have v13 : w10.cell? ⟨W.heap.size, 13, none⟩ = some (.slice p5 m.names.length c5) := HX10.out.blk.cell 13; clear hbq)) | (go_at_call 21; go_loud ((with_reducible refine (HRS.out _).mono ?_); rintro e w11 ⟨rfl, hbq⟩; have HX11 := Lib.hid (HX10.out.step hbq); have v18 : w11.cell? ⟨W.heap.size, 18, none⟩ = some (.int .i64 m.err) := HX11.out.blk.cell 18; clear hbq)) | (go_at_call 22; go_loud ((with_reducible refine (HCE.out _).mono ?_); rintro e w12 ⟨rfl, hbq⟩; have HX12 := Lib.hid (HX11.out.step hbq); clear hbq)))
    go_ret
    exact my_no HNO.out HX12.out.bel
   have g10 : nb m.err 9999 = false := by simpa using f10
   have hg10 := Lib.hid g10
   simp only [g10] at HCE
   clear f10 g10
   have HRO : Hid (RestOk m) := Lib.hid ⟨by omega, by omega, by omega, by omega, by omega, hg7.out, by omega, hg9.out, hg10.out⟩
   go_upto_region 5 with (first | (go_at_call 20; go_loud ((with_reducible refine (HTK.out _).mono ?_); rintro e w10 ⟨rfl, hbq⟩; have HX10 := Lib.hid (HX.out.step hbq); have v15 : w10.cell? ⟨W.heap.size, 15, none⟩ = some (.int .u8 m.state) := HX10.out.blk.cell 15; have v16 : w10.cell? ⟨W.heap.size, 16, none⟩ = some (.int .i64 m.res.val) := HX10.out.blk.cell 16; have v17 : w10.cell? ⟨W.heap.size, 17, none⟩ = some (.int .i64 m.res.err) := HX10.out.blk.cell 17; have v18 : w10.cell? ⟨W.heap.size, 18, none⟩ = some (.int .i64 m.err) := HX10.out.blk.cell 18; have v0 : w10.cell? ⟨W.heap.size, 0, none⟩ = some (.int .u8 m.kind) := HX10.out.blk.cell 0; have v11 : w10.cell? ⟨W.heap.size, 11, none⟩ = some (.slice p3 m.ents.length c3) := HX10.out.blk.cell 11; have v12 : w10.cell? ⟨W.heap.size, 12, none⟩ = some (.slice p4 m.epochs.length c4) := HX10.out.blk.cell 12; have v13 : w10.cell? ⟨W.heap.size, 13, none⟩ = some (.slice p5 m.names.length c5) := HX10.out.blk.cell 13; clear hbq)) | (go_at_call 21; go_loud ((with_reducible refine (HRS.out _).mono ?_); rintro e w11 ⟨rfl, hbq⟩; have HX11 := Lib.hid (HX10.out.step hbq); have v18 : w11.cell? ⟨W.heap.size, 18, none⟩ = some (.int .i64 m.err) := HX11.out.blk.cell 18; clear hbq)) | (go_at_call 22; go_loud ((with_reducible refine (HCE.out _).mono ?_); rintro e w12 ⟨rfl, hbq⟩; have HX12 := Lib.hid (HX11.out.step hbq); clear hbq)))
   clear HTK HRS HCE hg7 hg9 hg10 f1 f2 f3 f4 f5 f6 f8 HX HX10 HX11 y0 y1 y2 y3 y4 y5 y6 y7 y8 y9 y10 y11 y12 y13 y14 y15 y16 y17 y18 v15 v16 v17 v0 v11 v12 v13
   have x0 : w12.cell? ⟨W.heap.size, 0, none⟩ = some (.int .u8 m.kind) := HX12.out.blk.cell 0
   have HNN := Lib.hid (may_nn HBO.out HRO.out)
   have HRW := Lib.hid (fun w (x : DXw W m ⟨.slice p1 m.input.length c1, .slice p2 m.task.args.length c2, .slice p3 m.ents.length c3, .slice p4 m.epochs.length c4, .slice p5 m.names.length c5, .slice p6 m.codes.length c6⟩ w) => raw26_any (x.row.mono x.le) HT.out HL.out HNN.out)
   by_cases k4 : m.kind = 4
   ·have HHH := Lib.hid (fun w => (show Calls Tryz.prog 23 #[.int .u8 m.kind, .int .u8 72] w (HaPost true w) from by have h := has26_any HT.out.kind .H w; rw [show hasK m.kind .H = true from by rw [k4]; rfl] at h; exact h))
    have HHN := Lib.hid (fun w => (show Calls Tryz.prog 23 #[.int .u8 m.kind, .int .u8 78] w (HaPost true w) from by have h := has26_any HT.out.kind .N w; rw [show hasK m.kind .N = true from by rw [k4]; rfl] at h; exact h))
    have HHA := Lib.hid (fun w => (show Calls Tryz.prog 23 #[.int .u8 m.kind, .int .u8 65] w (HaPost false w) from by have h := has26_any HT.out.kind .A w; rw [show hasK m.kind .A = false from by rw [k4]; rfl] at h; exact h))
    by_cases he : m.epochs.length = m.ents.length
    ·have he' : ((m.epochs.length : Int) != (m.ents.length : Int)) = false := by simp [he]
     have HE4 := Lib.hid he
     have HK4 := Lib.hid k4
     clear he k4
     go_upto_region 7 with (first | (go_at_call 23; ((with_reducible refine (HHH.out w12).mono ?_); rintro e w13 ⟨rfl, hbq⟩; have HX13 := Lib.hid (HX12.out.step hbq); have v0 : w13.cell? ⟨W.heap.size, 0, none⟩ = some (.int .u8 m.kind) := HX13.out.blk.cell 0; have v11 : w13.cell? ⟨W.heap.size, 11, none⟩ = some (.slice p3 m.ents.length c3) := HX13.out.blk.cell 11; have v12 : w13.cell? ⟨W.heap.size, 12, none⟩ = some (.slice p4 m.epochs.length c4) := HX13.out.blk.cell 12; have v13 : w13.cell? ⟨W.heap.size, 13, none⟩ = some (.slice p5 m.names.length c5) := HX13.out.blk.cell 13; clear hbq)) | (go_at_call 23; ((with_reducible refine (HHN.out w13).mono ?_); rintro e w14 ⟨rfl, hbq⟩; have HX14 := Lib.hid (HX13.out.step hbq); have v0 : w14.cell? ⟨W.heap.size, 0, none⟩ = some (.int .u8 m.kind) := HX14.out.blk.cell 0; have v11 : w14.cell? ⟨W.heap.size, 11, none⟩ = some (.slice p3 m.ents.length c3) := HX14.out.blk.cell 11; have v12 : w14.cell? ⟨W.heap.size, 12, none⟩ = some (.slice p4 m.epochs.length c4) := HX14.out.blk.cell 12; have v13 : w14.cell? ⟨W.heap.size, 13, none⟩ = some (.slice p5 m.names.length c5) := HX14.out.blk.cell 13; clear hbq)) | (go_at_call 23; ((with_reducible refine (HHH.out w14).mono ?_); rintro e w15 ⟨rfl, hbq⟩; have HX15 := Lib.hid (HX14.out.step hbq); have v0 : w15.cell? ⟨W.heap.size, 0, none⟩ = some (.int .u8 m.kind) := HX15.out.blk.cell 0; have v11 : w15.cell? ⟨W.heap.size, 11, none⟩ = some (.slice p3 m.ents.length c3) := HX15.out.blk.cell 11; have v12 : w15.cell? ⟨W.heap.size, 12, none⟩ = some (.slice p4 m.epochs.length c4) := HX15.out.blk.cell 12; have v13 : w15.cell? ⟨W.heap.size, 13, none⟩ = some (.slice p5 m.names.length c5) := HX15.out.blk.cell 13; clear hbq)) | (go_at_call 23; ((with_reducible refine (HHA.out w15).mono ?_); rintro e w16 ⟨rfl, hbq⟩; have HX16 := Lib.hid (HX15.out.step hbq); have v0 : w16.cell? ⟨W.heap.size, 0, none⟩ = some (.int .u8 m.kind) := HX16.out.blk.cell 0; have v11 : w16.cell? ⟨W.heap.size, 11, none⟩ = some (.slice p3 m.ents.length c3) := HX16.out.blk.cell 11; have v12 : w16.cell? ⟨W.heap.size, 12, none⟩ = some (.slice p4 m.epochs.length c4) := HX16.out.blk.cell 12; have v13 : w16.cell? ⟨W.heap.size, 13, none⟩ = some (.slice p5 m.names.length c5) := HX16.out.blk.cell 13; clear hbq)))
     by_cases hz : (rawS m).size ≤ 8192
     ·have HY := Lib.hid ((may_iff m).2 ⟨HKB.out, HO.out, HBO.out, HRO.out, fun _ => HE4.out, fun h => absurd (h.symm.trans HK4.out) (by decide), hz⟩)
      have hz' : ((rawS m).size : Int) ≤ 8192 := by omega
      clear hz
      generalize rawS m = s at *
      go_wp2_with (first | (refine wpl_load_blk HX16.out.blk rfl _ _ rfl rfl Tryz.underlying34 rfl (by kernel_rfl) ?_) | (go_at_call 16; go_loud ((with_reducible refine (HRW.out _ HX16.out).mono ?_); rintro e wz ⟨rfl, hbq⟩; have HZ := Lib.hid (HX16.out.step hbq); clear hbq)))
      go_ret
      exact ⟨by rw [HY.out]; rfl, HZ.out.bel⟩
     ·have HNO := Lib.hid (may_no (m := m) fun k => hz k.size)
      have hz' : ¬ ((rawS m).size : Int) ≤ 8192 := by omega
      clear hz
      generalize rawS m = s at *
      go_wp2_with (first | (refine wpl_load_blk HX16.out.blk rfl _ _ rfl rfl Tryz.underlying34 rfl (by kernel_rfl) ?_) | (go_at_call 16; go_loud ((with_reducible refine (HRW.out _ HX16.out).mono ?_); rintro e wz ⟨rfl, hbq⟩; have HZ := Lib.hid (HX16.out.step hbq); clear hbq)))
      go_ret
      first | exact my_no HNO.out HZ.out.bel | exact ⟨by rw [HNO.out]; exact congrArg (fun z => Ending.returned (Value.bool z)) (decide_eq_false (by omega)), HZ.out.bel⟩
    ·have he' : ((m.epochs.length : Int) != (m.ents.length : Int)) = true := by simp; omega
     have HNO := Lib.hid (may_no (m := m) fun k => he (k.l4 k4))
     clear he k4
     go_wp2_with (first | (go_at_call 23; ((with_reducible refine (HHH.out w12).mono ?_); rintro e w13 ⟨rfl, hbq⟩; have HX13 := Lib.hid (HX12.out.step hbq); have v0 : w13.cell? ⟨W.heap.size, 0, none⟩ = some (.int .u8 m.kind) := HX13.out.blk.cell 0; have v11 : w13.cell? ⟨W.heap.size, 11, none⟩ = some (.slice p3 m.ents.length c3) := HX13.out.blk.cell 11; have v12 : w13.cell? ⟨W.heap.size, 12, none⟩ = some (.slice p4 m.epochs.length c4) := HX13.out.blk.cell 12; have v13 : w13.cell? ⟨W.heap.size, 13, none⟩ = some (.slice p5 m.names.length c5) := HX13.out.blk.cell 13; clear hbq)) | (go_at_call 23; ((with_reducible refine (HHN.out w13).mono ?_); rintro e w14 ⟨rfl, hbq⟩; have HX14 := Lib.hid (HX13.out.step hbq); have v0 : w14.cell? ⟨W.heap.size, 0, none⟩ = some (.int .u8 m.kind) := HX14.out.blk.cell 0; have v11 : w14.cell? ⟨W.heap.size, 11, none⟩ = some (.slice p3 m.ents.length c3) := HX14.out.blk.cell 11; have v12 : w14.cell? ⟨W.heap.size, 12, none⟩ = some (.slice p4 m.epochs.length c4) := HX14.out.blk.cell 12; have v13 : w14.cell? ⟨W.heap.size, 13, none⟩ = some (.slice p5 m.names.length c5) := HX14.out.blk.cell 13; clear hbq)))
     go_ret
     exact my_no HNO.out HX14.out.bel
   ·by_cases k12 : m.kind = 12
    ·have HHH := Lib.hid (fun w => (show Calls Tryz.prog 23 #[.int .u8 m.kind, .int .u8 72] w (HaPost true w) from by have h := has26_any HT.out.kind .H w; rw [show hasK m.kind .H = true from by rw [k12]; rfl] at h; exact h))
     have HHN := Lib.hid (fun w => (show Calls Tryz.prog 23 #[.int .u8 m.kind, .int .u8 78] w (HaPost false w) from by have h := has26_any HT.out.kind .N w; rw [show hasK m.kind .N = false from by rw [k12]; rfl] at h; exact h))
     have HHA := Lib.hid (fun w => (show Calls Tryz.prog 23 #[.int .u8 m.kind, .int .u8 65] w (HaPost true w) from by have h := has26_any HT.out.kind .A w; rw [show hasK m.kind .A = true from by rw [k12]; rfl] at h; exact h))
     by_cases he : m.epochs.length = m.names.length
     ·have he' : ((m.epochs.length : Int) != (m.names.length : Int)) = false := by simp [he]
      have HE4 := Lib.hid he
      have HK4 := Lib.hid k12
      clear he k4 k12
      go_upto_region 7 with (first | (go_at_call 23; ((with_reducible refine (HHH.out w12).mono ?_); rintro e w13 ⟨rfl, hbq⟩; have HX13 := Lib.hid (HX12.out.step hbq); have v0 : w13.cell? ⟨W.heap.size, 0, none⟩ = some (.int .u8 m.kind) := HX13.out.blk.cell 0; have v11 : w13.cell? ⟨W.heap.size, 11, none⟩ = some (.slice p3 m.ents.length c3) := HX13.out.blk.cell 11; have v12 : w13.cell? ⟨W.heap.size, 12, none⟩ = some (.slice p4 m.epochs.length c4) := HX13.out.blk.cell 12; have v13 : w13.cell? ⟨W.heap.size, 13, none⟩ = some (.slice p5 m.names.length c5) := HX13.out.blk.cell 13; clear hbq)) | (go_at_call 23; ((with_reducible refine (HHN.out w13).mono ?_); rintro e w14 ⟨rfl, hbq⟩; have HX14 := Lib.hid (HX13.out.step hbq); have v0 : w14.cell? ⟨W.heap.size, 0, none⟩ = some (.int .u8 m.kind) := HX14.out.blk.cell 0; have v11 : w14.cell? ⟨W.heap.size, 11, none⟩ = some (.slice p3 m.ents.length c3) := HX14.out.blk.cell 11; have v12 : w14.cell? ⟨W.heap.size, 12, none⟩ = some (.slice p4 m.epochs.length c4) := HX14.out.blk.cell 12; have v13 : w14.cell? ⟨W.heap.size, 13, none⟩ = some (.slice p5 m.names.length c5) := HX14.out.blk.cell 13; clear hbq)) | (go_at_call 23; ((with_reducible refine (HHH.out w14).mono ?_); rintro e w15 ⟨rfl, hbq⟩; have HX15 := Lib.hid (HX14.out.step hbq); have v0 : w15.cell? ⟨W.heap.size, 0, none⟩ = some (.int .u8 m.kind) := HX15.out.blk.cell 0; have v11 : w15.cell? ⟨W.heap.size, 11, none⟩ = some (.slice p3 m.ents.length c3) := HX15.out.blk.cell 11; have v12 : w15.cell? ⟨W.heap.size, 12, none⟩ = some (.slice p4 m.epochs.length c4) := HX15.out.blk.cell 12; have v13 : w15.cell? ⟨W.heap.size, 13, none⟩ = some (.slice p5 m.names.length c5) := HX15.out.blk.cell 13; clear hbq)) | (go_at_call 23; ((with_reducible refine (HHA.out w15).mono ?_); rintro e w16 ⟨rfl, hbq⟩; have HX16 := Lib.hid (HX15.out.step hbq); have v0 : w16.cell? ⟨W.heap.size, 0, none⟩ = some (.int .u8 m.kind) := HX16.out.blk.cell 0; have v11 : w16.cell? ⟨W.heap.size, 11, none⟩ = some (.slice p3 m.ents.length c3) := HX16.out.blk.cell 11; have v12 : w16.cell? ⟨W.heap.size, 12, none⟩ = some (.slice p4 m.epochs.length c4) := HX16.out.blk.cell 12; have v13 : w16.cell? ⟨W.heap.size, 13, none⟩ = some (.slice p5 m.names.length c5) := HX16.out.blk.cell 13; clear hbq)))
      by_cases hz : (rawS m).size ≤ 8192
      ·have HY := Lib.hid ((may_iff m).2 ⟨HKB.out, HO.out, HBO.out, HRO.out, fun h => absurd (h.symm.trans HK4.out) (by decide), fun _ => HE4.out, hz⟩)
       have hz' : ((rawS m).size : Int) ≤ 8192 := by omega
       clear hz
       generalize rawS m = s at *
       go_wp2_with (first | (refine wpl_load_blk HX16.out.blk rfl _ _ rfl rfl Tryz.underlying34 rfl (by kernel_rfl) ?_) | (go_at_call 16; go_loud ((with_reducible refine (HRW.out _ HX16.out).mono ?_); rintro e wz ⟨rfl, hbq⟩; have HZ := Lib.hid (HX16.out.step hbq); clear hbq)))
       go_ret
       exact ⟨by rw [HY.out]; rfl, HZ.out.bel⟩
      ·have HNO := Lib.hid (may_no (m := m) fun k => hz k.size)
       have hz' : ¬ ((rawS m).size : Int) ≤ 8192 := by omega
       clear hz
       generalize rawS m = s at *
       go_wp2_with (first | (refine wpl_load_blk HX16.out.blk rfl _ _ rfl rfl Tryz.underlying34 rfl (by kernel_rfl) ?_) | (go_at_call 16; go_loud ((with_reducible refine (HRW.out _ HX16.out).mono ?_); rintro e wz ⟨rfl, hbq⟩; have HZ := Lib.hid (HX16.out.step hbq); clear hbq)))
       go_ret
       first | exact my_no HNO.out HZ.out.bel | exact ⟨by rw [HNO.out]; exact congrArg (fun z => Ending.returned (Value.bool z)) (decide_eq_false (by omega)), HZ.out.bel⟩
     ·have he' : ((m.epochs.length : Int) != (m.names.length : Int)) = true := by simp; omega
      have HNO := Lib.hid (may_no (m := m) fun k => he (k.l12 k12))
      clear he k4 k12
      go_wp2_with (first | (go_at_call 23; ((with_reducible refine (HHH.out w12).mono ?_); rintro e w13 ⟨rfl, hbq⟩; have HX13 := Lib.hid (HX12.out.step hbq); have v0 : w13.cell? ⟨W.heap.size, 0, none⟩ = some (.int .u8 m.kind) := HX13.out.blk.cell 0; have v11 : w13.cell? ⟨W.heap.size, 11, none⟩ = some (.slice p3 m.ents.length c3) := HX13.out.blk.cell 11; have v12 : w13.cell? ⟨W.heap.size, 12, none⟩ = some (.slice p4 m.epochs.length c4) := HX13.out.blk.cell 12; have v13 : w13.cell? ⟨W.heap.size, 13, none⟩ = some (.slice p5 m.names.length c5) := HX13.out.blk.cell 13; clear hbq)) | (go_at_call 23; ((with_reducible refine (HHN.out w13).mono ?_); rintro e w14 ⟨rfl, hbq⟩; have HX14 := Lib.hid (HX13.out.step hbq); have v0 : w14.cell? ⟨W.heap.size, 0, none⟩ = some (.int .u8 m.kind) := HX14.out.blk.cell 0; have v11 : w14.cell? ⟨W.heap.size, 11, none⟩ = some (.slice p3 m.ents.length c3) := HX14.out.blk.cell 11; have v12 : w14.cell? ⟨W.heap.size, 12, none⟩ = some (.slice p4 m.epochs.length c4) := HX14.out.blk.cell 12; have v13 : w14.cell? ⟨W.heap.size, 13, none⟩ = some (.slice p5 m.names.length c5) := HX14.out.blk.cell 13; clear hbq)) | (go_at_call 23; ((with_reducible refine (HHH.out w14).mono ?_); rintro e w15 ⟨rfl, hbq⟩; have HX15 := Lib.hid (HX14.out.step hbq); have v0 : w15.cell? ⟨W.heap.size, 0, none⟩ = some (.int .u8 m.kind) := HX15.out.blk.cell 0; have v11 : w15.cell? ⟨W.heap.size, 11, none⟩ = some (.slice p3 m.ents.length c3) := HX15.out.blk.cell 11; have v12 : w15.cell? ⟨W.heap.size, 12, none⟩ = some (.slice p4 m.epochs.length c4) := HX15.out.blk.cell 12; have v13 : w15.cell? ⟨W.heap.size, 13, none⟩ = some (.slice p5 m.names.length c5) := HX15.out.blk.cell 13; clear hbq)) | (go_at_call 23; ((with_reducible refine (HHA.out w15).mono ?_); rintro e w16 ⟨rfl, hbq⟩; have HX16 := Lib.hid (HX15.out.step hbq); have v0 : w16.cell? ⟨W.heap.size, 0, none⟩ = some (.int .u8 m.kind) := HX16.out.blk.cell 0; have v11 : w16.cell? ⟨W.heap.size, 11, none⟩ = some (.slice p3 m.ents.length c3) := HX16.out.blk.cell 11; have v12 : w16.cell? ⟨W.heap.size, 12, none⟩ = some (.slice p4 m.epochs.length c4) := HX16.out.blk.cell 12; have v13 : w16.cell? ⟨W.heap.size, 13, none⟩ = some (.slice p5 m.names.length c5) := HX16.out.blk.cell 13; clear hbq)))
      go_ret
      exact my_no HNO.out HX16.out.bel
    ·have HHH := Lib.hid (fun w => (show Calls Tryz.prog 23 #[.int .u8 m.kind, .int .u8 72] w (HaPost false w) from by have h := has26_any HT.out.kind .H w; rw [show hasK m.kind .H = false from decide_eq_false (fun h => (kp_H.1 h).elim k4 k12)] at h; exact h))
     have HK4 := Lib.hid k4
     have HK12 := Lib.hid k12
     clear k4 k12
     go_upto_region 7 with (first | (go_at_call 23; ((with_reducible refine (HHH.out w12).mono ?_); rintro e w13 ⟨rfl, hbq⟩; have HX13 := Lib.hid (HX12.out.step hbq); have v0 : w13.cell? ⟨W.heap.size, 0, none⟩ = some (.int .u8 m.kind) := HX13.out.blk.cell 0; have v11 : w13.cell? ⟨W.heap.size, 11, none⟩ = some (.slice p3 m.ents.length c3) := HX13.out.blk.cell 11; have v12 : w13.cell? ⟨W.heap.size, 12, none⟩ = some (.slice p4 m.epochs.length c4) := HX13.out.blk.cell 12; have v13 : w13.cell? ⟨W.heap.size, 13, none⟩ = some (.slice p5 m.names.length c5) := HX13.out.blk.cell 13; clear hbq)) | (go_at_call 23; ((with_reducible refine (HHH.out w13).mono ?_); rintro e w14 ⟨rfl, hbq⟩; have HX14 := Lib.hid (HX13.out.step hbq); have v0 : w14.cell? ⟨W.heap.size, 0, none⟩ = some (.int .u8 m.kind) := HX14.out.blk.cell 0; have v11 : w14.cell? ⟨W.heap.size, 11, none⟩ = some (.slice p3 m.ents.length c3) := HX14.out.blk.cell 11; have v12 : w14.cell? ⟨W.heap.size, 12, none⟩ = some (.slice p4 m.epochs.length c4) := HX14.out.blk.cell 12; have v13 : w14.cell? ⟨W.heap.size, 13, none⟩ = some (.slice p5 m.names.length c5) := HX14.out.blk.cell 13; clear hbq)))
     by_cases hz : (rawS m).size ≤ 8192
     ·have HY := Lib.hid ((may_iff m).2 ⟨HKB.out, HO.out, HBO.out, HRO.out, fun h => absurd h HK4.out, fun h => absurd h HK12.out, hz⟩)
      have hz' : ((rawS m).size : Int) ≤ 8192 := by omega
      clear hz
      generalize rawS m = s at *
      go_wp2_with (first | (refine wpl_load_blk HX14.out.blk rfl _ _ rfl rfl Tryz.underlying34 rfl (by kernel_rfl) ?_) | (go_at_call 16; go_loud ((with_reducible refine (HRW.out _ HX14.out).mono ?_); rintro e wz ⟨rfl, hbq⟩; have HZ := Lib.hid (HX14.out.step hbq); clear hbq)))
      go_ret
      exact ⟨by rw [HY.out]; rfl, HZ.out.bel⟩
     ·have HNO := Lib.hid (may_no (m := m) fun k => hz k.size)
      have hz' : ¬ ((rawS m).size : Int) ≤ 8192 := by omega
      clear hz
      generalize rawS m = s at *
      go_wp2_with (first | (refine wpl_load_blk HX14.out.blk rfl _ _ rfl rfl Tryz.underlying34 rfl (by kernel_rfl) ?_) | (go_at_call 16; go_loud ((with_reducible refine (HRW.out _ HX14.out).mono ?_); rintro e wz ⟨rfl, hbq⟩; have HZ := Lib.hid (HX14.out.step hbq); clear hbq)))
      go_ret
      first | exact my_no HNO.out HZ.out.bel | exact ⟨by rw [HNO.out]; exact congrArg (fun z => Ending.returned (Value.bool z)) (decide_eq_false (by omega)), HZ.out.bel⟩
set_option maxRecDepth 100000 in
set_option maxHeartbeats 2000000 in
theorem renc26_any {m : M} {W : World} {v : VS} (hv : MR W W.heap.size m v) (t : TyM m) (l : Lite m) : Calls Tryz.prog 9 #[.agg (mcells m v)] W (EncP9 W m) := by
 have HD0 := Lib.hid (DXw.start hv)
 have HM := Lib.hid (fun w (x : DXw W m v w) => rmay26_any (x.row.mono x.le) t l)
 have HR := Lib.hid (fun (h : mayM m = true) w (x : DXw W m v w) => raw26_any (x.row.mono x.le) t l (may_nn ((may_iff m).1 h).bnd ((may_iff m).1 h).rest))
 unfold MyP at HM
 clear hv t l
 unfold EncP9
 cases hm : mayM m with
 | true =>
  rw [hm] at HM
  have HR2 := Lib.hid (HR.out hm)
  clear HR hm
  go_enter Tryz.func9, Tryz.ntmps9
  go_wp2_with (first | (refine wpl_load_blk HD0.out.blk rfl _ _ rfl rfl Tryz.underlying34 rfl (by kernel_rfl) ?_) | (refine wpl_load_blk HX1.out.blk rfl _ _ rfl rfl Tryz.underlying34 rfl (by kernel_rfl) ?_) | (go_at_call 11; go_loud ((with_reducible refine (HM.out _ HD0.out).mono ?_); rintro e w1 ⟨rfl, hbq⟩; have HX1 := Lib.hid (HD0.out.step hbq); clear hbq)) | (go_at_call 16; go_loud ((with_reducible refine (HR2.out _ HX1.out).mono ?_); rintro e w2 ⟨rfl, hbq⟩; have HX2 := Lib.hid (HX1.out.step hbq); clear hbq)))
  go_ret2
  exact ⟨rfl, HX2.out.bel⟩
 | false =>
  rw [hm] at HM
  clear HR hm
  go_enter Tryz.func9, Tryz.ntmps9
  go_wp2_with (first | (refine wpl_load_blk HD0.out.blk rfl _ _ rfl rfl Tryz.underlying34 rfl (by kernel_rfl) ?_) | (go_at_call 11; go_loud ((with_reducible refine (HM.out _ HD0.out).mono ?_); rintro e w1 ⟨rfl, hbq⟩; have HX1 := Lib.hid (HD0.out.step hbq); clear hbq)))
  go_ret2
  exact ⟨rfl, HX1.out.bel⟩
end Go.Proofs.YtghbjknpffiaiaaGreat
