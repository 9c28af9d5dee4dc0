import Derived.Test.YtghbjknpffiaiaaGreatMge
import Derived.Test.YtghbjknpffiaiaaGreatMgb
import Derived.Laws.ResultCell
import Derived.Laws.Rows
import Derived.Lib.AppendStr
import Derived.BigRegion
namespace Go.Proofs.YtghbjknpffiaiaaGreat
namespace Reg
open Go.RowKit
set_option linter.unusedVariables false
section
variable {P : Program} {ops : Array Oper} {I : World → Prop} {a0 : Act} {R : Act → World → Prop} {o : Oper} {rest : List Oper} {K : List (Option Tmp × Spec)} {Gs : List (World → World → Prop)} {Js : List (World → Prop)} {w0 : World}
theorem wanted_b {a : Act} {j : Nat} {g : Tmp} {b : Bool} (hg : o.guard = some (j, b)) (hd : ((ops[j]?).bind (·.dst)) = some g) (hv : a.tmps.getD g undef = .bool b) : Region.wanted o (yielded ops a.tmps) = true := by
 unfold Region.wanted
 rw [hg]
 simp only [yielded, hd, Option.bind_some]
 rw [Array.getD_eq_getD_getElem?] at hv
 cases h : a.tmps[g]? with
 | none => rw [h] at hv; cases hv
 | some v => rw [h] at hv; simp only [Option.getD_some] at hv; subst hv; cases b <;> rfl
theorem rely_isb (c : Value) (j : Nat) (b : Bool) (g : Tmp) (hg : o.guard = some (j, b)) (hd : ((ops[j]?).bind (·.dst)) = some g) (hgf : ∀ v w, Fact K a0 g v w → v = .bool b)
  (hrun : ∀ (a : Act) (w : World), I w → (∀ t ∈ o.looksAt ops, Fact K a0 t (a.tmps.getD t undef) w) → (execOp a.eval o).run P w = .ok (.value c) w)
  (hr : Rely P ops I w0 a0 R rest ((o.dst, Is c) :: K) Gs Js) : Rely P ops I w0 a0 R (o :: rest) K Gs Js :=
 rely_is c (fun a w hI hF => .inl ⟨wanted_b hg hd (hgf _ w (hF g (looksG hg hd))), hrun a w hI hF⟩) hr
theorem rely_callb (S : Spec) (hS : Stab S Grow) (hG : ∀ G ∈ Gs, Stab S G) (j : Nat) (b : Bool) (g : Tmp) (hg : o.guard = some (j, b)) (hd : ((ops[j]?).bind (·.dst)) = some g) (hgf : ∀ v w, Fact K a0 g v w → v = .bool b)
  (h : ∀ (a : Act) (w : World), I w → (∀ t ∈ o.looksAt ops, Fact K a0 t (a.tmps.getD t undef) w) → ∃ f args, (execOp a.eval o).run P w = .ok (.enter f args) w ∧ Calls P f args w fun e w' => ∃ v, e = .returned v ∧ S v w' ∧ Below w.heap.size w w')
  (hr : Rely P ops I w0 a0 R rest ((o.dst, S) :: K) Gs Js) : Rely P ops I w0 a0 R (o :: rest) K Gs Js := by
 refine .inl ⟨S, hS, hG, fun a w hI _ hF => ?_, hr⟩
 rw [if_pos (wanted_b hg hd (hgf _ w (hF g (looksG hg hd))))]
 obtain ⟨f, args, hrun, hc⟩ := h a w hI hF
 unfold Oper.wp
 rw [hrun]
 simp only [Oper.upon]
 refine hc.mono fun e w' ⟨v, he, h1, h2⟩ => ?_
 subst he
 exact ⟨v, rfl, h1, h2⟩
theorem rely_call0 (S : Spec) (hS : Stab S Grow) (hG : ∀ G ∈ Gs, Stab S G) (hg : o.guard = none)
  (h : ∀ (a : Act) (w : World), I w → (∀ t ∈ o.looksAt ops, Fact K a0 t (a.tmps.getD t undef) w) → ∃ f args, (execOp a.eval o).run P w = .ok (.enter f args) w ∧ Calls P f args w fun e w' => ∃ v, e = .returned v ∧ S v w' ∧ Below w.heap.size w w')
  (hr : Rely P ops I w0 a0 R rest ((o.dst, S) :: K) Gs Js) : Rely P ops I w0 a0 R (o :: rest) K Gs Js := by
 refine rely_rel S hS hG hg (fun a w hi hF => ?_) hr
 obtain ⟨f, args, hrun, hc⟩ := h a w hi hF
 unfold Oper.wp
 rw [hrun]
 simp only [Oper.upon]
 refine hc.mono fun e w' ⟨v, he, h1, h2⟩ => ?_
 subst he
 exact ⟨v, rfl, h1, h2⟩
end
end Reg
end Go.Proofs.YtghbjknpffiaiaaGreat

namespace Go.Proofs.YtghbjknpffiaiaaGreat
open Go.RowKit Wire Ms
set_option linter.unusedVariables false
set_option linter.unusedSimpArgs false
def tab26 : List ByteArray := [⟨#[]⟩, ⟨#[]⟩, ⟨#[]⟩, ⟨#[70]⟩, ⟨#[78, 72]⟩, ⟨#[]⟩, ⟨#[88]⟩, ⟨#[74, 80, 75, 69, 78, 65]⟩, ⟨#[67]⟩, ⟨#[70]⟩, ⟨#[74, 75, 69]⟩, ⟨#[78]⟩, ⟨#[72, 65]⟩, ⟨#[84, 80, 73, 70]⟩, ⟨#[74]⟩, ⟨#[74]⟩, ⟨#[74]⟩, ⟨#[74, 83, 82]⟩]
def let26 : Pt → Int
 | .J => 74
 | .T => 84
 | .P => 80
 | .I => 73
 | .F => 70
 | .K => 75
 | .E => 69
 | .N => 78
 | .H => 72
 | .A => 65
 | .C => 67
 | .S => 83
 | .R => 82
 | .X => 88
def anyB (s : ByteArray) (c : Int) : Bool := (Ms.bl s).any fun x => (x.toNat : Int) == c
theorem tab26_all : ((List.range 18).all fun n => all14.all fun p => anyB (tab26.getD n ⟨#[]⟩) (let26 p) == hasK (n : Int) p) = true := by kernel_rfl
theorem tab26_has {n : Nat} (h : n < 18) (p : Pt) : anyB (tab26.getD n ⟨#[]⟩) (let26 p) = hasK (n : Int) p := by
 have h1 := List.all_eq_true.1 tab26_all n (List.mem_range.2 h)
 exact eq_of_beq (List.all_eq_true.1 h1 p (all_mem p))
theorem tab26_size : (tab26.all fun s => decide (s.size ≤ 6)) = true := by kernel_rfl
theorem t26_get {n : Nat} (h : n < 18) : (#[.string ⟨#[]⟩, .string ⟨#[]⟩, .string ⟨#[]⟩, .string ⟨#[70]⟩, .string ⟨#[78, 72]⟩, .string ⟨#[]⟩, .string ⟨#[88]⟩, .string ⟨#[74, 80, 75, 69, 78, 65]⟩, .string ⟨#[67]⟩, .string ⟨#[70]⟩, .string ⟨#[74, 75, 69]⟩, .string ⟨#[78]⟩, .string ⟨#[72, 65]⟩, .string ⟨#[84, 80, 73, 70]⟩, .string ⟨#[74]⟩, .string ⟨#[74]⟩, .string ⟨#[74]⟩, .string ⟨#[74, 83, 82]⟩] : Array Value)[n]? = some (.string (tab26.getD n ⟨#[]⟩)) := by
 have e : (#[.string ⟨#[]⟩, .string ⟨#[]⟩, .string ⟨#[]⟩, .string ⟨#[70]⟩, .string ⟨#[78, 72]⟩, .string ⟨#[]⟩, .string ⟨#[88]⟩, .string ⟨#[74, 80, 75, 69, 78, 65]⟩, .string ⟨#[67]⟩, .string ⟨#[70]⟩, .string ⟨#[74, 75, 69]⟩, .string ⟨#[78]⟩, .string ⟨#[72, 65]⟩, .string ⟨#[84, 80, 73, 70]⟩, .string ⟨#[74]⟩, .string ⟨#[74]⟩, .string ⟨#[74]⟩, .string ⟨#[74, 83, 82]⟩] : Array Value) = (tab26.map Value.string).toArray := rfl
 rw [e]
 have h2 : n < tab26.length := h
 simp [h2]
def HaPost (b : Bool) (w : World) (e : Ending) (w' : World) : Prop := e = .returned (.bool b) ∧ Below w.heap.size w w'
set_option maxRecDepth 100000 in
set_option maxHeartbeats 2000000 in
theorem has26_n (n : Nat) (c : Int) (hn : n ≤ 255) (w : World) : Calls Tryz.prog 23 #[.int .u8 (n : Int), .int .u8 c] w (HaPost (decide (n < 18) && anyB (tab26.getD n ⟨#[]⟩) c) w) := by
 have HB := Lib.hid ((Below.refl _ w).alloc (Nat.le_refl _) (.cells (#[.string ⟨#[]⟩, .string ⟨#[]⟩, .string ⟨#[]⟩, .string ⟨#[70]⟩, .string ⟨#[78, 72]⟩, .string ⟨#[]⟩, .string ⟨#[88]⟩, .string ⟨#[74, 80, 75, 69, 78, 65]⟩, .string ⟨#[67]⟩, .string ⟨#[70]⟩, .string ⟨#[74, 75, 69]⟩, .string ⟨#[78]⟩, .string ⟨#[72, 65]⟩, .string ⟨#[84, 80, 73, 70]⟩, .string ⟨#[74]⟩, .string ⟨#[74]⟩, .string ⟨#[74]⟩, .string ⟨#[74, 83, 82]⟩] : Array Value) 9))
 by_cases h18 : n < 18
 ·have hg : ((n : Int) ≥ 18) = False := by simp; omega
  have hg' : ¬ (18 : Int) ≤ (n : Int) := by omega
  have hlt : (n : Int) < 18 := by omega
  have h0 : (0 : Int) ≤ (n : Int) := by omega
  have hw : wrap64 (n : Int) = (n : Int) := wr64 rfl (by omega)
  have x0 : (w.alloc (.cells (#[.string ⟨#[]⟩, .string ⟨#[]⟩, .string ⟨#[]⟩, .string ⟨#[70]⟩, .string ⟨#[78, 72]⟩, .string ⟨#[]⟩, .string ⟨#[88]⟩, .string ⟨#[74, 80, 75, 69, 78, 65]⟩, .string ⟨#[67]⟩, .string ⟨#[70]⟩, .string ⟨#[74, 75, 69]⟩, .string ⟨#[78]⟩, .string ⟨#[72, 65]⟩, .string ⟨#[84, 80, 73, 70]⟩, .string ⟨#[74]⟩, .string ⟨#[74]⟩, .string ⟨#[74]⟩, .string ⟨#[74, 83, 82]⟩] : Array Value) 9)).cell? ⟨w.heap.size, n, none⟩ = some (.string (tab26.getD n ⟨#[]⟩)) := by rw [(Blk.new w _ _).cell n, t26_get h18]
  have hs : (tab26.getD n ⟨#[]⟩).size ≤ 6 := by
   have h2 : n < tab26.length := h18
   have := List.all_eq_true.1 tab26_size _ (List.getElem_mem h2)
   rw [decide_eq_true_eq] at this
   simpa [List.getD, List.getElem?_eq_getElem h2] using this
  rw [decide_eq_true h18, Bool.true_and]
  have HS := Lib.hid hs
  clear hs h18 hn
  generalize tab26.getD n ⟨#[]⟩ = s at *
  go_enter Tryz.func23, Tryz.ntmps23
  go_upto_region 5 with fail
  clear x0 h0 hw hlt hg hg'
  generalize (w.alloc (.cells (#[.string ⟨#[]⟩, .string ⟨#[]⟩, .string ⟨#[]⟩, .string ⟨#[70]⟩, .string ⟨#[78, 72]⟩, .string ⟨#[]⟩, .string ⟨#[88]⟩, .string ⟨#[74, 80, 75, 69, 78, 65]⟩, .string ⟨#[67]⟩, .string ⟨#[70]⟩, .string ⟨#[74, 75, 69]⟩, .string ⟨#[78]⟩, .string ⟨#[72, 65]⟩, .string ⟨#[84, 80, 73, 70]⟩, .string ⟨#[74]⟩, .string ⟨#[74]⟩, .string ⟨#[74]⟩, .string ⟨#[74, 83, 82]⟩] : Array Value) 9)) = w1 at *
  go_wp2_with fail
  go_loopw [7] (fun u wr => ∃ i : Nat, u = .int .i64 i ∧ i ≤ s.size ∧ ((Ms.bl s).take i).any (fun x => (x.toNat : Int) == c) = false ∧ wr = w1) (fun u _ => ((s.size : Int) - intOf u).toNat)
  case atStart => exact ⟨0, rfl, Nat.zero_le _, rfl, rfl⟩
  case round =>
   obtain ⟨i, rfl, hi, hno, hwr⟩ := hrel
   have hwr := hwr.symm
   subst hwr
   have HI := Lib.hid hi
   have HNO := Lib.hid hno
   clear hi hno
   by_cases hil : i < s.size
   ·have hil' : (i : Int) < (s.size : Int) := by omega
    have hi0 : (0 : Int) ≤ (i : Int) := by omega
    have hbi : i < (Ms.bl s).length := by rw [Ms.bl_len]; exact hil
    have HE : Hid (wrap64 ((i : Int) + 1) = ((i + 1 : Nat) : Int)) := Lib.hid (wr64 rfl (by have := HS.out; omega))
    have HT : Hid (((Ms.bl s).take (i + 1)).any (fun x => (x.toNat : Int) == c) = (((s[i]'hil).toNat : Int) == c)) := Lib.hid (by show _ = (((Ms.bl s)[i].toNat : Int) == c); rw [List.take_succ_eq_append_getElem hbi, List.any_append, HNO.out]; simp)
    have HM : Hid ((((s[i]'hil).toNat : Int) == c) = true → anyB s c = true) := Lib.hid fun h => List.any_eq_true.2 ⟨(Ms.bl s)[i], List.getElem_mem hbi, h⟩
    have HIL := Lib.hid hil
    cases hq : (((s[i]'hil).toNat : Int) == c) with
    | true =>
     have HF := Lib.hid (HM.out hq)
     clear HM HT
     go_wp2_with fail
     go_ret
     exact ⟨congrArg (fun z => Ending.returned (Value.bool z)) HF.out.symm, HB.out⟩
    | false =>
     have HT2 := Lib.hid (HT.out.trans hq)
     clear HM HT
     go_wp2_with fail
     go_roundw
     case rel => rw [HE.out]; exact ⟨i + 1, rfl, HIL.out, HT2.out, by first | rfl | trivial⟩
     case measure => have := HIL.out; rw [HE.out]; simp [intOf]; omega
   ·obtain rfl : i = s.size := by have := HI.out; omega
    have hil' : ¬ ((s.size : Nat) : Int) < (s.size : Int) := by omega
    have HN : Hid (anyB s c = false) := Lib.hid (by have := HNO.out; rwa [← Ms.bl_len, List.take_length] at this)
    clear hil
    go_wp2_with fail
    go_ret
    exact ⟨congrArg (fun z => Ending.returned (Value.bool z)) HN.out.symm, HB.out⟩
 ·have hg' : ¬ wrap64 (n : Int) < 18 := by rw [wr64 rfl (by omega)]; omega
  rw [decide_eq_false h18, Bool.false_and]
  clear h18 hn
  go_enter Tryz.func23, Tryz.ntmps23
  go_wp2_with fail
  go_ret
  exact ⟨rfl, HB.out⟩
theorem has26_any {k : Int} (hk : 0 ≤ k ∧ k ≤ 255) (p : Pt) (w : World) : Calls Tryz.prog 23 #[.int .u8 k, .int .u8 (let26 p)] w (HaPost (hasK k p) w) := by
 have h := has26_n k.toNat (let26 p) (by omega) w
 have e : (k.toNat : Int) = k := by omega
 have e2 : (decide (k.toNat < 18) && anyB (tab26.getD k.toNat ⟨#[]⟩) (let26 p)) = hasK k p := by
  by_cases h18 : k.toNat < 18
  ·rw [decide_eq_true h18, Bool.true_and, tab26_has h18 p, e]
  ·rw [decide_eq_false h18, Bool.false_and]
   have hf : kB k = false := by unfold kB; rw [decide_eq_false (show ¬ k ≤ 17 by omega), Bool.and_false]
   unfold hasK
   rw [kp_far hf]; rfl
 rw [e, e2] at h
 exact h
theorem ms_intS_size {x : Int} (h : I64 x) : (intS x).size ≤ 10 := by have hz := Num.zig_range x h.1 h.2; exact lebS_size (x := Num.zig x) (by omega)
def SB (s : ByteArray) (w : World) (e : Ending) (w' : World) : Prop := e = .returned (.string s) ∧ Below w.heap.size w w'
set_option maxRecDepth 100000 in
theorem u26_any (x : Int) (hx : 0 ≤ x ∧ x ≤ 9223372036854775807) (w : World) : Calls Tryz.prog 44 #[.int .i64 x] w (SB (Num.lebS x) w) := by
 have HC := Lib.hid (fun w => ruint3_any x (by unfold U64; omega) w)
 have e1 : IntKind.u64.wrap x = x := by rw [IntKind.wrap_u64]; omega
 clear hx
 go_enter Tryz.func44, Tryz.ntmps44
 go_wp2_with (go_at_call 45; go_loud ((with_reducible refine Calls.mono (HC.out _) ?_); rintro e w1 ⟨rfl, hb1⟩))
 go_ret
 exact ⟨rfl, hb1⟩
def nmS (j : Int) (p : ByteArray) : ByteArray := Num.lebS j ++ textS p
def rsS (x y : Int) : ByteArray := intS x ++ Num.lebS y
set_option maxRecDepth 100000 in
set_option maxHeartbeats 2000000 in
theorem name26_any (j : Int) (p : ByteArray) (hj : U64 j) (hp : p.size ≤ 140737488355328) (W : World) : Calls Tryz.prog 62 #[.agg #[.int .u64 j, .string p]] W (SB (nmS j p) W) := by
 have HJ := Lib.hid hj
 have HS := Lib.hid hp
 have HT := Lib.hid (Blk.new W 52 #[.int .u64 j, .string p])
 have HB := Lib.hid ((Below.refl _ W).alloc (Nat.le_refl _) (.cells #[.int .u64 j, .string p] 52))
 have HZ : Hid ((Num.lebS j).size + (textS p).size ≤ 9223372036854775807) := Lib.hid (by have h1 := lebS_size (x := j) (by unfold U64 at hj; omega); have h2 := lebS_size (x := (p.size : Int)) (by omega); unfold textS; rw [ByteArray.size_append]; omega)
 clear hj hp
 go_enter Tryz.func62, Tryz.ntmps62
 go_upto_region 1 with fail
 refine Reg.wp_rely 7 (fun w => Blk w W.heap.size 52 #[.int .u64 j, .string p] ∧ Below (W.alloc (.cells #[.int .u64 j, .string p] 52)).heap.size (W.alloc (.cells #[.int .u64 j, .string p] 52)) w) (by kernel_rfl) (Reg.relyOk_of (by kernel_rfl)) ⟨HT.out.drew, (Below.refl _ _).drew⟩ (fun w w' h hI => ⟨hI.1.below h, hI.2.trans (h.mono hI.2.size)⟩) ?_
 refine Reg.rely_plain (.pointer (some ⟨W.heap.size, 0, none⟩)) rfl (fun a w hI hF => by
   have f1 : a.tmps.getD 1 undef = .pointer (some ⟨W.heap.size, 0, none⟩) := hF 1 (Reg.looksB (by kernel_rfl))
   clear hF hI
   simp only [Array.getD_eq_getD_getElem?] at f1
   simp only [execOp]; go_simp) ?_
 refine Reg.rely_plain (.int .u64 j) rfl (fun a w hI hF => by
   have f1 : a.tmps.getD 3 undef = .pointer (some ⟨W.heap.size, 0, none⟩) := hF 3 (Reg.looksB (by kernel_rfl))
   have hc := hI.1.cell 0
   clear hF hI
   simp only [Array.getD_eq_getD_getElem?] at f1
   simp only [execOp]; go_simp) ?_
 refine Reg.rely_call0 (Reg.Is (.string (Num.lebS j))) (Reg.stab_is _ _) (fun G hG => by cases hG) rfl (fun a w hI hF => by
   have f1 : a.tmps.getD 4 undef = .int .u64 j := hF 4 (Reg.looksB (by kernel_rfl))
   refine ⟨45, #[.int .u64 j], ?_, (ruint3_any j HJ.out w).mono fun e w' h => ⟨_, h.1, rfl, h.2⟩⟩
   clear hF hI
   simp only [Array.getD_eq_getD_getElem?] at f1
   simp only [execOp]; go_simp) ?_
 refine Reg.rely_plain (.pointer (some ⟨W.heap.size, 1, none⟩)) rfl (fun a w hI hF => by
   have f1 : a.tmps.getD 1 undef = .pointer (some ⟨W.heap.size, 0, none⟩) := hF 1 (Reg.looksB (by kernel_rfl))
   clear hF hI
   simp only [Array.getD_eq_getD_getElem?] at f1
   simp only [execOp]; go_simp) ?_
 refine Reg.rely_plain (.string p) rfl (fun a w hI hF => by
   have f1 : a.tmps.getD 6 undef = .pointer (some ⟨W.heap.size, 1, none⟩) := hF 6 (Reg.looksB (by kernel_rfl))
   have hc := hI.1.cell 1
   clear hF hI
   simp only [Array.getD_eq_getD_getElem?] at f1
   simp only [execOp]; go_simp) ?_
 refine Reg.rely_call0 (Reg.Is (.string (textS p))) (Reg.stab_is _ _) (fun G hG => by cases hG) rfl (fun a w hI hF => by
   have f1 : a.tmps.getD 7 undef = .string p := hF 7 (Reg.looksB (by kernel_rfl))
   refine ⟨46, #[.string p], ?_, (rtext3_any p HS.out w).mono fun e w' h => ⟨_, h.1, rfl, h.2⟩⟩
   clear hF hI
   simp only [Array.getD_eq_getD_getElem?] at f1
   simp only [execOp]; go_simp) ?_
 refine Reg.rely_plain (.string ((Num.lebS j) ++ (textS p))) rfl (fun a w hI hF => by
   have f1 : a.tmps.getD 5 undef = .string (Num.lebS j) := hF 5 (Reg.looksB (by kernel_rfl))
   have f2 : a.tmps.getD 8 undef = .string (textS p) := hF 8 (Reg.looksB (by kernel_rfl))
   have hz := HZ.out
   clear hF hI
   simp only [Array.getD_eq_getD_getElem?] at f1 f2
   simp only [execOp]; go_simp) ?_
 refine Reg.rely_nil ?_
 refine Reg.final_is ?_
 refine Reg.final_is ?_
 refine Reg.final_is ?_
 refine Reg.final_is ?_
 refine Reg.final_is ?_
 refine Reg.final_is ?_
 refine Reg.final_is ?_
 refine Reg.final_nil (fun w9 hF => ?_)
 have HW := Lib.hid (HB.out.trans (hF.2.mono (by simp)))
 clear hF
 simp only [List.drop_succ_cons, List.drop_zero]
 go_simp
 go_wp2_with fail
 refine Reg.fin (by kernel_rfl) ?_
 go_wp2_with fail
 go_ret
 exact ⟨rfl, HW.out⟩
set_option maxRecDepth 100000 in
set_option maxHeartbeats 2000000 in
theorem res26_any (x y : Int) (hx : I64 x) (hy : 0 ≤ y ∧ y ≤ 9223372036854775807) (W : World) : Calls Tryz.prog 49 #[.agg #[.int .i64 x, .int .i64 y]] W (SB (rsS x y) W) := by
 have HJ := Lib.hid hx
 have HS := Lib.hid hy
 have HT := Lib.hid (Blk.new W 32 #[.int .i64 x, .int .i64 y])
 have HB := Lib.hid ((Below.refl _ W).alloc (Nat.le_refl _) (.cells #[.int .i64 x, .int .i64 y] 32))
 have HZ : Hid ((intS x).size + (Num.lebS y).size ≤ 9223372036854775807) := Lib.hid (by have h1 := lebS_size (x := y) (by omega); have h2 := ms_intS_size hx; omega)
 clear hx hy
 go_enter Tryz.func49, Tryz.ntmps49
 go_upto_region 1 with fail
 refine Reg.wp_rely 7 (fun w => Blk w W.heap.size 32 #[.int .i64 x, .int .i64 y] ∧ Below (W.alloc (.cells #[.int .i64 x, .int .i64 y] 32)).heap.size (W.alloc (.cells #[.int .i64 x, .int .i64 y] 32)) w) (by kernel_rfl) (Reg.relyOk_of (by kernel_rfl)) ⟨HT.out.drew, (Below.refl _ _).drew⟩ (fun w w' h hI => ⟨hI.1.below h, hI.2.trans (h.mono hI.2.size)⟩) ?_
 refine Reg.rely_plain (.pointer (some ⟨W.heap.size, 0, none⟩)) rfl (fun a w hI hF => by
   have f1 : a.tmps.getD 1 undef = .pointer (some ⟨W.heap.size, 0, none⟩) := hF 1 (Reg.looksB (by kernel_rfl))
   clear hF hI
   simp only [Array.getD_eq_getD_getElem?] at f1
   simp only [execOp]; go_simp) ?_
 refine Reg.rely_plain (.int .i64 x) rfl (fun a w hI hF => by
   have f1 : a.tmps.getD 3 undef = .pointer (some ⟨W.heap.size, 0, none⟩) := hF 3 (Reg.looksB (by kernel_rfl))
   have hc := hI.1.cell 0
   clear hF hI
   simp only [Array.getD_eq_getD_getElem?] at f1
   simp only [execOp]; go_simp) ?_
 refine Reg.rely_call0 (Reg.Is (.string (intS x))) (Reg.stab_is _ _) (fun G hG => by cases hG) rfl (fun a w hI hF => by
   have f1 : a.tmps.getD 4 undef = .int .i64 x := hF 4 (Reg.looksB (by kernel_rfl))
   refine ⟨61, #[.int .i64 x], ?_, (rint3_any x HJ.out w).mono fun e w' h => ⟨_, h.1, rfl, h.2⟩⟩
   clear hF hI
   simp only [Array.getD_eq_getD_getElem?] at f1
   simp only [execOp]; go_simp) ?_
 refine Reg.rely_plain (.pointer (some ⟨W.heap.size, 1, none⟩)) rfl (fun a w hI hF => by
   have f1 : a.tmps.getD 1 undef = .pointer (some ⟨W.heap.size, 0, none⟩) := hF 1 (Reg.looksB (by kernel_rfl))
   clear hF hI
   simp only [Array.getD_eq_getD_getElem?] at f1
   simp only [execOp]; go_simp) ?_
 refine Reg.rely_plain (.int .i64 y) rfl (fun a w hI hF => by
   have f1 : a.tmps.getD 6 undef = .pointer (some ⟨W.heap.size, 1, none⟩) := hF 6 (Reg.looksB (by kernel_rfl))
   have hc := hI.1.cell 1
   clear hF hI
   simp only [Array.getD_eq_getD_getElem?] at f1
   simp only [execOp]; go_simp) ?_
 refine Reg.rely_call0 (Reg.Is (.string (Num.lebS y))) (Reg.stab_is _ _) (fun G hG => by cases hG) rfl (fun a w hI hF => by
   have f1 : a.tmps.getD 7 undef = .int .i64 y := hF 7 (Reg.looksB (by kernel_rfl))
   refine ⟨44, #[.int .i64 y], ?_, (u26_any y HS.out w).mono fun e w' h => ⟨_, h.1, rfl, h.2⟩⟩
   clear hF hI
   simp only [Array.getD_eq_getD_getElem?] at f1
   simp only [execOp]; go_simp) ?_
 refine Reg.rely_plain (.string ((intS x) ++ (Num.lebS y))) rfl (fun a w hI hF => by
   have f1 : a.tmps.getD 5 undef = .string (intS x) := hF 5 (Reg.looksB (by kernel_rfl))
   have f2 : a.tmps.getD 8 undef = .string (Num.lebS y) := hF 8 (Reg.looksB (by kernel_rfl))
   have hz := HZ.out
   clear hF hI
   simp only [Array.getD_eq_getD_getElem?] at f1 f2
   simp only [execOp]; go_simp) ?_
 refine Reg.rely_nil ?_
 refine Reg.final_is ?_
 refine Reg.final_is ?_
 refine Reg.final_is ?_
 refine Reg.final_is ?_
 refine Reg.final_is ?_
 refine Reg.final_is ?_
 refine Reg.final_is ?_
 refine Reg.final_nil (fun w9 hF => ?_)
 have HW := Lib.hid (HB.out.trans (hF.2.mono (by simp)))
 clear hF
 simp only [List.drop_succ_cons, List.drop_zero]
 go_simp
 go_wp2_with fail
 refine Reg.fin (by kernel_rfl) ?_
 go_wp2_with fail
 go_ret
 exact ⟨rfl, HW.out⟩
end Go.Proofs.YtghbjknpffiaiaaGreat

namespace Go.Proofs.YtghbjknpffiaiaaGreat
open Go.RowKit
theorem results_pair {P : Program} {fn : Func} {p u : Tmp} {ty T : TypeId} (h : fn.results = #[.cell p ty, .tmp u]) (tmps : Array Value) (w : World) {g : Nat} {cs : Array Value} {d : TypeDesc}
  (hp : tmps.getD p undef = .pointer (some ⟨g, 0, none⟩)) (hg : Blk w g T cs)
  (hu : P.underlying ty = some d) (hd : (match d with | .struct _ | .array _ _ => true | _ => false) = true) (hi : (P.info? ty).map (·.size) = some cs.size) :
  (results fn tmps).run P w = .ok (.tuple #[.agg cs, tmps.getD u undef]) w := by
 rw [results_cell_tmp h, hp]
 simp [asAddr, run_loadVar_row w g T ty cs (0, 0) d hg hu hd hi]
theorem ret_pair {P : Program} {fn : Func} {R : Ending → World → Prop} {a : Act} {p u : Tmp} {ty T : TypeId} {w : World} {g : Nat} {cs : Array Value} {d : TypeDesc} {v : Value} (h : fn.results = #[.cell p ty, .tmp u])
  (hp : a.tmps.getD p undef = .pointer (some ⟨g, 0, none⟩)) (hv : a.tmps.getD u undef = v) (hg : Blk w g T cs)
  (hu : P.underlying ty = some d) (hd : (match d with | .struct _ | .array _ _ => true | _ => false) = true) (hi : (P.info? ty).map (·.size) = some cs.size) (hdf : a.defers = [])
  (hR : R (.returned (.tuple #[.agg cs, v])) w) : bodyPost P fn R .ret a w := by
 subst hv
 exact bodyPost_ret (results_pair h _ w hp hg hu hd hi) hdf hR
theorem ret_cell {P : Program} {fn : Func} {R : Ending → World → Prop} {a : Act} {p : Tmp} {ty T : TypeId} {w : World} {g : Nat} {cs : Array Value} {d : TypeDesc} (h : fn.results = #[.cell p ty])
  (hp : a.tmps.getD p undef = .pointer (some ⟨g, 0, none⟩)) (hg : Blk w g T cs)
  (hu : P.underlying ty = some d) (hd : (match d with | .struct _ | .array _ _ => true | _ => false) = true) (hi : (P.info? ty).map (·.size) = some cs.size) (hdf : a.defers = [])
  (hR : R (.returned (.agg cs)) w) : bodyPost P fn R .ret a w :=
 bodyPost_ret (results_cell_row h _ w g T cs (0, 0) d hp hg hu hd hi) hdf hR
end Go.Proofs.YtghbjknpffiaiaaGreat

namespace Go.Proofs.YtghbjknpffiaiaaGreat
open Go.RowKit Wire Ms
set_option linter.unusedVariables false
set_option linter.unusedSimpArgs false
theorem blk_ne {w : World} {k : Nat} {T T' : TypeId} {A A' : Array Value} (h1 : Blk w k T A) (h2 : Blk w k T' A') : T = T' := by
 unfold Blk at h1 h2
 rw [h1] at h2
 injection h2 with h2
 injection h2
theorem info_u64 : Info Tryz.prog 22 (.int .u64 0) 1 8 := by unfold Info; kernel_rfl
theorem info_i64 : Info Tryz.prog 2 (.int .i64 0) 1 8 := by unfold Info; kernel_rfl
def KWr (w : World) (B k : Nat) (out : Ls) (bad : Bool) : Prop := ∃ vO, Blk w k 58 #[.pointer none, vO, .bool bad] ∧ w.ownsRow B 5 1 vO out.length (Lib.byteCells out) ∧ B ≤ k
def KRd (w : World) (k rb : Nat) (q : RS) (bad : Bool) : Prop := Blk w k 58 #[.pointer (some ⟨rb, 0, none⟩), .slice none 0 0, .bool bad] ∧ PR w rb q.s q.e
def OnW (B k : Nat) (w w' : World) : Prop := Only (fun j => j = k ∨ (B ≤ j ∧ ∃ A, Blk w j 5 A)) w w'
section
variable {w w' w1 : World} {B k rb : Nat} {out : Ls} {bad : Bool} {q : RS}
theorem OnW.refl (B k : Nat) (w : World) : OnW B k w w := Only.refl _ _
theorem OnW.of_below (hb : Below w.heap.size w w') : OnW B k w w' := Only.of_below hb
theorem OnW.trans (h1 : OnW B k w w1) (h2 : OnW B k w1 w') : OnW B k w w' :=
 ⟨h2.os.trans h1.os, h2.tape.trans h1.tape, h2.output.trans h1.output, Nat.le_trans h1.size h2.size, fun j hj hne => by
  have e1 := h1.block j hj hne
  rw [← e1]
  refine h2.block j (Nat.lt_of_lt_of_le hj h1.size) fun hs => hne ?_
  unfold Blk at hs ⊢
  rwa [e1] at hs⟩
theorem OnW.step (h1 : OnW B k w w1) (h2 : Below w1.heap.size w1 w') : OnW B k w w' := h1.trans (.of_below h2)
theorem OnW.below (o : OnW B k w w') (hB : B ≤ w.heap.size) (hk : B ≤ k) : Below B w w' := Only.below o hB fun j hs => by
 rcases hs with e | e
 ·omega
 ·exact e.1
theorem OnW.blk (o : OnW B k w w') {j : Nat} {T : TypeId} {A : Array Value} (h : Blk w j T A) (h1 : j ≠ k) (h2 : T ≠ 5) : Blk w' j T A := h.only o fun e => by
 rcases e with e | ⟨_, A', e⟩
 ·exact h1 e
 ·exact h2 (blk_ne h e)
theorem KWr.below (c : KWr w B k out bad) (hb : Below w.heap.size w w') : KWr w' B k out bad := by
 obtain ⟨vO, h1, h2, h3⟩ := c
 exact ⟨vO, h1.below hb, owns_below h2 hb, h3⟩
theorem KRd.below (c : KRd w k rb q bad) (hb : Below w.heap.size w w') : KRd w' k rb q bad := ⟨c.1.below hb, c.2.below hb⟩
theorem KWr.lt (c : KWr w B k out bad) : k < w.heap.size := by obtain ⟨vO, h1, h2, h3⟩ := c; exact h1.lt
theorem KWr.ge (c : KWr w B k out bad) : B ≤ k := by obtain ⟨vO, h1, h2, h3⟩ := c; exact h3
theorem KWr.flag (c : KWr w B k out bad) (b : Bool) : KWr (w.setCell ⟨k, 2, none⟩ (.bool b)) B k out b ∧ OnW B k w (w.setCell ⟨k, 2, none⟩ (.bool b)) := by
 obtain ⟨vO, h1, h2, h3⟩ := c
 have o : Only (· = k) w (w.setCell ⟨k, 2, none⟩ (.bool b)) := (Only.refl _ w).set1
 exact ⟨⟨vO, h1.set 2 (.bool b), owns_only h2 o (owns_ne h2 h1 (by decide)), h3⟩, o.mono fun j _ e => .inl e⟩
theorem KRd.flag (c : KRd w k rb q bad) (b : Bool) : KRd (w.setCell ⟨k, 2, none⟩ (.bool b)) k rb q b ∧ Only (· = k) w (w.setCell ⟨k, 2, none⟩ (.bool b)) := by
 have o : Only (· = k) w (w.setCell ⟨k, 2, none⟩ (.bool b)) := (Only.refl _ w).set1
 exact ⟨⟨c.1.set 2 (.bool b), c.2.only o (fun e => by have h1 := c.1; have e' : rb = k := e; rw [← e'] at h1; exact absurd (blk_ne h1 c.2.blk) (by decide))⟩, o⟩
end
theorem cells_app (a b : Ls) : Lib.byteCells (a ++ b) = Lib.byteCells a ++ Lib.byteCells b := by unfold Lib.byteCells; rw [List.map_append]
theorem str_bl (s : ByteArray) : Lib.strCells s = Lib.byteCells (Ms.bl s) := rfl
section
variable {P : Program} {ops : Array Oper} {o : Oper} {a : Act} {K : Act → World → Prop} {Q : Exit → Act → World → Prop} {E : Prop}
end
theorem cat_one (g : Nat → ByteArray) : (⟨(cat g 1).toArray⟩ : ByteArray) = g 0 := by
 apply Ms.bl_inj
 unfold Ms.bl
 rw [cat_succ, cat_zero]; simp
def StPost (s : ByteArray) (W : World) (e : Ending) (w' : World) : Prop := e = .returned (.string s) ∧ Below W.heap.size W w'
theorem text_len {s : ByteArray} (h : s.size ≤ 1073741824) : (textS s).size ≤ 1073741900 := by
 unfold textS; rw [ByteArray.size_append]; have := lebS_size (x := (s.size : Int)) (by omega); omega
end Go.Proofs.YtghbjknpffiaiaaGreat

namespace Go.Proofs.YtghbjknpffiaiaaGreat
open Go.RowKit Wire Ms
set_option linter.unusedVariables false
set_option linter.unusedSimpArgs false
def KWb (w : World) (B k : Nat) (out : Ls) (bad : Bool) (L : Nat) : Prop := ∃ out', KWr w B k out' bad ∧ (bad = false → out' = out) ∧ out'.length ≤ L
def WrP (w : World) (B k : Nat) (out : Ls) (bad : Bool) (L : Nat) (e : Ending) (w' : World) : Prop := e = .returned (.tuple #[]) ∧ KWb w' B k out bad L ∧ OnW B k w w'
def Away (w : World) (B k g : Nat) : Prop := ¬ (g = k ∨ (B ≤ g ∧ ∃ A, Blk w g 5 A))
theorem KWr.kwb {w : World} {B k : Nat} {out s : Ls} {bad bad' : Bool} {L n : Nat} {out' s' : Ls} (h : KWr w B k (out' ++ s') bad') (h1 : bad = false → out' = out) (h2 : out'.length ≤ L) (h3 : bad' = false → bad = false ∧ s' = s) (h4 : s'.length ≤ n) : KWb w B k (out ++ s) bad' (L + n) :=
 ⟨_, h, fun e => by obtain ⟨a, b⟩ := h3 e; rw [h1 a, b], by rw [List.length_append]; omega⟩
def PutG (N0 B : Nat) (v : Value) (w w' : World) : Prop := Only (fun j => v.ownBlock = some j) w w' ∧ ∀ j, v.ownBlock = some j → j < N0 ∧ B ≤ j ∧ ∃ A, Blk w j 5 A
structure PutI (X : World) (B k g o : Nat) (vO : Value) (bad : Bool) (xv : Value) (w : World) : Prop where
 kb : Blk w k 58 #[.pointer none, vO, .bool bad]
 cell : w.cell? ⟨g, o, none⟩ = some xv
 on : OnW B k X w
 aw : Away w B k g
section
variable {X w w' : World} {B k g o : Nat} {vO xv : Value} {bad : Bool}
theorem Away.below (h : Away w B k g) (hb : Below w.heap.size w w') (hg : g < w.heap.size) : Away w' B k g := fun e => h (by
 rcases e with e | ⟨e, A, hA⟩
 ·exact .inl e
 ·refine .inr ⟨e, A, ?_⟩
  unfold Blk at hA ⊢
  rw [← hb.block g hg]; exact hA)
theorem Away.onW (h : Away w B k g) (ho : OnW B k w w') (hg : g < w.heap.size) : Away w' B k g := fun e => h (by
 rcases e with e | ⟨e, A, hA⟩
 ·exact .inl e
 ·refine .inr ⟨e, A, ?_⟩
  unfold Blk at hA ⊢
  rw [← ho.block g hg h]; exact hA)
theorem OnW.cell (ho : OnW B k w w') (h : Away w B k g) (hc : w.cell? ⟨g, o, none⟩ = some xv) : w'.cell? ⟨g, o, none⟩ = some xv := Only.cellq ho hc h
theorem PutI.below (h : PutI X B k g o vO bad xv w) (hb : Below w.heap.size w w') : PutI X B k g o vO bad xv w' :=
 ⟨h.kb.below hb, (hb.cell (World.block_lt_of_cell? _ _ h.cell)).trans h.cell, h.on.step hb, h.aw.below hb (World.block_lt_of_cell? _ _ h.cell)⟩
theorem PutI.drew (h : PutI X B k g o vO bad xv w) : PutI X B k g o vO bad xv w.drew := h.below (Below.refl _ w).drew
theorem PutG.keep {N0 : Nat} {v : Value} (h : PutG N0 B v w w') {j : Nat} (hj : N0 ≤ j) {T : TypeId} {A : Array Value} (hk : Blk w j T A) : Blk w' j T A := hk.only h.1 fun e => by have := (h.2 j e).1; omega
theorem PutG.onW {N0 : Nat} {v : Value} (h : PutG N0 B v w w') : OnW B k w w' := h.1.mono fun j _ e => .inr ⟨(h.2 j e).2.1, (h.2 j e).2.2⟩
theorem PutI.turn {N0 : Nat} {v : Value} (h : PutI X B k g o vO bad xv w) (t : PutG N0 B v w w') : PutI X B k g o vO bad xv w' :=
 ⟨h.kb.only t.1 (fun e => by obtain ⟨_, _, A, hA⟩ := t.2 _ e; exact absurd (blk_ne h.kb hA) (by decide)), OnW.cell (PutG.onW t) h.aw h.cell, h.on.trans (PutG.onW t), h.aw.onW (PutG.onW t) (World.block_lt_of_cell? _ _ h.cell)⟩
theorem putRun {P : Program} {op : Oper} {a : Act} {w : World} {sl x : Operand} {t u e : TypeId} {N0 : Nat} {v : Value} {out : Ls} {s : ByteArray}
  (ho : op.op = .call { callee := .builtin .append, args := #[sl, x], argTypes := #[t, u] })
  (ht : P.underlying t = some (.slice e)) (hu : P.underlying u = some .string) (hi : Info P e (.int .u8 0) 1 1) (he : e = 5)
  (hs : a.eval sl = v) (hx : a.eval x = .string s) (hown : w.ownsRow B e 1 v out.length (Lib.byteCells out)) (hl : out.length + s.size ≤ 140737488355328) (hbase : B ≤ w.heap.size) (hlt : ∀ j, v.ownBlock = some j → j < N0) :
  op.wp P a w (fun a' w' => ∃ v', a' = a.put op.dst v' ∧ w'.ownsRow B e 1 v' (out ++ Ms.bl s).length (Lib.byteCells (out ++ Ms.bl s)) ∧ PutG N0 B v w w') (fun _ _ _ => False) := by
 obtain ⟨i, hi1, hi2, hi3, hi4⟩ := info_parts hi
 obtain ⟨v', w', hr, h2, h3, h4⟩ := Lib.run_append_own_string (P := P) w B t u op.type e i ht hu hi1 hi2 hi3 hi4 v out.length _ hown s (by unfold maxLen; omega) hl hbase
 unfold Oper.wp execOp
 simp only [ho, resolve, invoke, builtin, Sem.run_bind, Sem.run_pure, Result.andThen_ok, List.map_toArray, List.map_cons, List.map_nil, hs, hx, hr]
 refine ⟨v', rfl, ?_, ⟨h3.os, h3.tape, h3.output, h3.size, fun k hk hne => h3.block k hk (fun e => hne e.symm)⟩, fun j hj => ?_⟩
 ·rw [cells_app, ← str_bl, List.length_append, Ms.bl_len]
  exact h2
 ·obtain ⟨A, hA, hb, _⟩ := owns_type hown hj
  subst he
  exact ⟨hlt j hj, hb, A, hA⟩
end
theorem KWr.put2 {w9 : World} {B k : Nat} {out s : Ls} {bad : Bool} {vO v' : Value} (h1 : Blk w9 k 58 #[.pointer none, vO, .bool bad]) (h3 : B ≤ k)
  (hr : w9.ownsRow B 5 1 v' (out ++ s).length (Lib.byteCells (out ++ s))) : KWr (w9.setCell ⟨k, 1, none⟩ v') B k (out ++ s) bad ∧ OnW B k w9 (w9.setCell ⟨k, 1, none⟩ v') := by
 have o7 : Only (· = k) w9 (w9.setCell ⟨k, 1, none⟩ v') := (Only.refl _ w9).set1
 exact ⟨⟨v', h1.set 1 v', owns_only hr o7 (owns_ne hr h1 (by decide)), h3⟩, o7.mono fun j _ e => .inl e⟩
theorem uintsB {w : World} {gl : Nat} {x : Int} (hx : U64 x) (h : Blk w gl 22 #[.int .u64 x]) : Calls Tryz.prog 64 #[.slice (some ⟨gl, 0, none⟩) 1 1] w (StPost (Num.lebS x) w) :=
 (uints_any (x := fun _ => x) (n := 1) ⟨_, _, rfl, fun _ => ⟨gl, 0, rfl, h.lt, fun i hi => by
  have : i = 0 := by omega
  subst this
  rw [h.cell]; rfl⟩⟩ (by decide) (fun _ _ => hx)).mono fun e w' h => ⟨by rw [h.1, cat_one], h.2⟩
theorem intsB {w : World} {gl : Nat} {x : Int} (hx : I64 x) (h : Blk w gl 2 #[.int .i64 x]) : Calls Tryz.prog 114 #[.slice (some ⟨gl, 0, none⟩) 1 1] w (StPost (intS x) w) :=
 (ints_any (x := fun _ => x) (n := 1) ⟨_, _, rfl, fun _ => ⟨gl, 0, rfl, h.lt, fun i hi => by
  have : i = 0 := by omega
  subst this
  rw [h.cell]; rfl⟩⟩ (by decide) (fun _ _ => hx)).mono fun e w' h => ⟨by rw [h.1, cat_one], h.2⟩
theorem textsB {w : World} {gl : Nat} {s : ByteArray} (hs : s.size ≤ 1073741824) (h : Blk w gl 9 #[.string s]) : Calls Tryz.prog 111 #[.slice (some ⟨gl, 0, none⟩) 1 1] w (StPost (textS s) w) :=
 (texts_any (x := fun _ => s) (n := 1) ⟨_, _, rfl, fun _ => ⟨gl, 0, rfl, h.lt, fun i hi => by
  have : i = 0 := by omega
  subst this
  rw [h.cell]; rfl⟩⟩ (by decide) (fun _ _ => by omega) (by
  have h1 := congrArg ByteArray.size (cat_one (fun _ => textS s))
  have h2 : (⟨(cat (fun _ => textS s) 1).toArray⟩ : ByteArray).size = (cat (fun _ => textS s) 1).length := by simp [ByteArray.size]
  rw [h2] at h1
  have := text_len hs
  omega)).mono fun e w' h => ⟨by rw [h.1, cat_one], h.2⟩
section
variable {w : World} {B k g o : Nat} {out : Ls} {bad : Bool} {L : Nat}
set_option maxRecDepth 100000 in
set_option maxHeartbeats 2000000 in
theorem numw_u64 {x most : Int} (c : KWb w B k out bad L) (hB : B ≤ w.heap.size) (hL : L ≤ 1000000000) (hx : w.cell? ⟨g, o, none⟩ = some (.int .u64 x)) (hg : Away w B k g) (hr : U64 x) :
  Calls Tryz.prog 87 #[.pointer (some ⟨k, 0, none⟩), .pointer (some ⟨g, o, none⟩), .int .u64 most] w (WrP w B k (out ++ wU x) (bad || nb x most) (L + 10)) := by
 obtain ⟨out', c, ho, hl⟩ := c
 obtain ⟨vO, h1, h2, h3⟩ := c
 obtain ⟨pO, cO, rfl⟩ := owns_slice h2
 have c0 : w.cell? ⟨k, 0, none⟩ = some (.pointer none) := by rw [h1.cell 0]; rfl
 have c1 : w.cell? ⟨k, 1, none⟩ = some (.slice pO out'.length cO) := by rw [h1.cell 1]; rfl
 have c2 : w.cell? ⟨k, 2, none⟩ = some (.bool bad) := by rw [h1.cell 2]; rfl
 have cf := h1.frozen
 have HBK := Lib.hid h1
 have HRW := Lib.hid h2
 have HGE := Lib.hid h3
 have HG := Lib.hid hg
 have HO := Lib.hid (And.intro ho hl)
 have HL := Lib.hid hL
 have HB := Lib.hid hB
 have hyy : U64 x ∧ (0 ≤ x → x = x) := ⟨hr, fun _ => rfl⟩
 have HY := Lib.hid hyy
 have hx0 : ¬ x < 0 := by have h := hr.1; omega
 obtain ⟨bb, hbb⟩ : ∃ bb, (bad || nb x most) = bb := ⟨_, rfl⟩
 rw [hbb]
 have HBB := Lib.hid hbb
 have HLEN : Hid (out'.length + (Num.lebS x).size ≤ 140737488355328) := Lib.hid (by have := lebS_size HY.out.1.2; have := HO.out.2; have := HL.out; omega)
 have HFB : Hid (∀ {W : World}, KWr W B k (out' ++ Ms.bl (Num.lebS x)) bb → KWb W B k (out ++ wU x) bb (L + 10)) := Lib.hid fun h => KWr.kwb h HO.out.1 HO.out.2 (fun e => by
  have h := HBB.out
  rw [e, Bool.or_eq_false_iff] at h
  have h0 := (nb_false.1 h.2).1
  refine ⟨h.1, ?_⟩
  rw [Ms.bl_leb]
  rfl) (by rw [Ms.bl_len]; exact lebS_size HY.out.1.2)
 have HW : Hid (∀ (w : World) gl, Blk w gl 22 #[.int .u64 x] → Calls Tryz.prog 64 #[.slice (some ⟨gl, 0, none⟩) 1 1] w (StPost (Num.lebS x) w)) := Lib.hid fun w gl h => uintsB HY.out.1 h
 clear h1 h2 h3 hg ho hl hL hB hyy hr
 cases bad with
 | true =>
  have hbt : bb = true := by rw [← hbb]; rfl
  clear hbb
  subst hbt
  go_enter Tryz.func87, Tryz.ntmps87
  go_upto_region 3 with fail
  have OV : Only (· = k) w (w.setCell ⟨k, 2, none⟩ (.bool true)) := (Only.refl _ w).set1
  have HBV : Hid (Blk (w.setCell ⟨k, 2, none⟩ (.bool true)) k 58 #[.pointer none, .slice pO out'.length cO, .bool true]) := Lib.hid (HBK.out.set 2 (.bool true))
  have HRV := Lib.hid (owns_only HRW.out OV (owns_ne HRW.out HBK.out (by decide)))
  have HOV : Hid (OnW B k w (w.setCell ⟨k, 2, none⟩ (.bool true))) := Lib.hid (OV.mono fun j _ e => .inl e)
  have y1 := HOV.out.cell HG.out hx
  have HAV := Lib.hid (HG.out.onW HOV.out (World.block_lt_of_cell? _ _ hx))
  have HBS : Hid (B ≤ ((w.setCell ⟨k, 2, none⟩ (.bool true))).heap.size) := Lib.hid (Nat.le_trans HB.out OV.size)
  clear OV c0 c1 c2 cf hx
  generalize (w.setCell ⟨k, 2, none⟩ (.bool true)) = V at *
  have HI0 : Hid (PutI V B k g o (.slice pO out'.length cO) true (.int .u64 x) V) := Lib.hid ⟨HBV.out, y1, OnW.refl _ _ _, HAV.out⟩
  have HROW : Hid (V.drew.ownsRow B 5 1 (.slice pO out'.length cO) out'.length (Lib.byteCells out') ∧ B ≤ V.drew.heap.size) := Lib.hid ⟨HRV.out, HBS.out⟩
  have HLT : Hid (∀ j, (Value.slice pO out'.length cO).ownBlock = some j → j < V.heap.size) := Lib.hid fun j hj => (owns_type HRV.out hj).choose_spec.2.2
  clear y1
  refine Reg.wp_rely 13 (PutI V B k g o (.slice pO out'.length cO) true (.int .u64 x)) (by kernel_rfl) (Reg.relyOk_of (by kernel_rfl)) HI0.out.drew (fun w w' h hI => hI.below h) ?_
  refine Reg.rely_plain (.pointer (some ⟨k, 0, none⟩)) rfl (fun a w hI hF => by
    have f1 : a.tmps.getD 0 undef = .pointer (some ⟨k, 0, none⟩) := hF 0 (Reg.looksB (by kernel_rfl))
    clear hF hI
    simp only [Array.getD_eq_getD_getElem?] at f1
    simp only [execOp]; go_simp) ?_
  refine Reg.rely_plain (.pointer (some ⟨k, 0, none⟩)) rfl (fun a w hI hF => by
    have f1 : a.tmps.getD 0 undef = .pointer (some ⟨k, 0, none⟩) := hF 0 (Reg.looksB (by kernel_rfl))
    clear hF hI
    simp only [Array.getD_eq_getD_getElem?] at f1
    simp only [execOp]; go_simp) ?_
  refine Reg.rely_plain (.pointer (some ⟨k, 0, none⟩)) rfl (fun a w hI hF => by
    have f1 : a.tmps.getD 40 undef = .pointer (some ⟨k, 0, none⟩) := hF 40 (Reg.looksB (by kernel_rfl))
    clear hF hI
    simp only [Array.getD_eq_getD_getElem?] at f1
    simp only [execOp]; go_simp) ?_
  refine Reg.rely_plain (.pointer (some ⟨k, 1, none⟩)) rfl (fun a w hI hF => by
    have f1 : a.tmps.getD 41 undef = .pointer (some ⟨k, 0, none⟩) := hF 41 (Reg.looksB (by kernel_rfl))
    clear hF hI
    simp only [Array.getD_eq_getD_getElem?] at f1
    simp only [execOp]; go_simp) ?_
  refine Reg.rely_plain (.slice pO out'.length cO) rfl (fun a w hI hF => by
    have f1 : a.tmps.getD 42 undef = .pointer (some ⟨k, 1, none⟩) := hF 42 (Reg.looksB (by kernel_rfl))
    have hc : w.cell? ⟨k, 1, none⟩ = some (.slice pO out'.length cO) := by rw [hI.kb.cell 1]; rfl
    clear hF hI
    simp only [Array.getD_eq_getD_getElem?] at f1
    simp only [execOp]; go_simp) ?_
  refine Reg.rely_plain (.pointer (some ⟨g, o, none⟩)) rfl (fun a w hI hF => by
    have f1 : a.tmps.getD 1 undef = .pointer (some ⟨g, o, none⟩) := hF 1 (Reg.looksB (by kernel_rfl))
    clear hF hI
    simp only [Array.getD_eq_getD_getElem?] at f1
    simp only [execOp]; go_simp) ?_
  refine Reg.rely_plain (.pointer (some ⟨g, o, none⟩)) rfl (fun a w hI hF => by
    have f1 : a.tmps.getD 44 undef = .pointer (some ⟨g, o, none⟩) := hF 44 (Reg.looksB (by kernel_rfl))
    clear hF hI
    simp only [Array.getD_eq_getD_getElem?] at f1
    simp only [execOp]; go_simp) ?_
  refine Reg.rely_plain (.int .u64 x) rfl (fun a w hI hF => by
    have f1 : a.tmps.getD 45 undef = .pointer (some ⟨g, o, none⟩) := hF 45 (Reg.looksB (by kernel_rfl))
    have hc := hI.cell
    clear hF hI
    simp only [Array.getD_eq_getD_getElem?] at f1
    simp only [execOp]; go_simp) ?_
  refine Reg.rely_rel (fun v w => ∃ gl, v = .slice (some ⟨gl, 0, none⟩) 1 1 ∧ V.heap.size ≤ gl ∧ Blk w gl 22 #[.int .u64 x]) (fun v w w' h hS => by obtain ⟨gl, h1, h2, h3⟩ := hS; exact ⟨gl, h1, h2, h3.below h⟩) (fun G hG => by cases hG) rfl (fun a w hI hF => by
   have f1 : a.tmps.getD 46 undef = .int .u64 x := hF 46 (Reg.looksB (by kernel_rfl))
   have hK := Lib.hid (Blk.new w 22 #[.int .u64 x])
   have hQ := Lib.hid hI.on.size
   have hW := Lib.hid (show Reg.Grow w (w.alloc (.cells #[.int .u64 x] 22)) from (Below.refl _ w).alloc (Nat.le_refl _) _)
   clear hF hI
   simp only [Array.getD_eq_getD_getElem?] at f1
   unfold Oper.wp
   simp only [execOp]
   go_simp
   exact ⟨_, rfl, ⟨_, rfl, hQ.out, hK.out⟩, hW.out⟩) ?_
  refine Reg.rely_call0 (Reg.Is (.string (Num.lebS x))) (Reg.stab_is _ _) (fun G hG => by cases hG) rfl (fun a w hI hF => by
   obtain ⟨gl, f1, hg1, hgl⟩ : ∃ gl, a.tmps.getD 47 undef = .slice (some ⟨gl, 0, none⟩) 1 1 ∧ V.heap.size ≤ gl ∧ Blk w gl 22 #[.int .u64 x] := hF 47 (Reg.looksB (by kernel_rfl))
   refine ⟨64, #[.slice (some ⟨gl, 0, none⟩) 1 1], ?_, (HW.out w gl hgl).mono fun e w' h => ⟨_, h.1, rfl, h.2⟩⟩
   clear hF hI hgl hg1
   simp only [Array.getD_eq_getD_getElem?] at f1
   simp only [execOp]; go_simp) ?_
  refine Reg.rely_turn (fun v w => w.ownsRow B 5 1 v (out' ++ Ms.bl (Num.lebS x)).length (Lib.byteCells (out' ++ Ms.bl (Num.lebS x)))) (PutG V.heap.size B (.slice pO out'.length cO)) (fun w => w.ownsRow B 5 1 (.slice pO out'.length cO) out'.length (Lib.byteCells out') ∧ B ≤ w.heap.size) (fun v w w' h hS => owns_below hS h) (fun G hG => by cases hG) (fun w w' h hI => hI.turn h) ?_ rfl (fun w w' h hJ => ⟨owns_below hJ.1 h, Nat.le_trans hJ.2 h.size⟩) ⟨HROW.out.1, HROW.out.2⟩ (fun G hG => by cases hG) (fun G hG => by cases hG) (fun a w hI hJ hF => ?_) ?_
  ·intro p hp
   repeat (rcases List.mem_cons.1 hp with rfl | hp; first | exact Reg.stab_is _ _ | exact fun v w w' h hS => by obtain ⟨gl, h1, h2, h3⟩ := hS; exact ⟨gl, h1, h2, h.keep h2 h3⟩)
   cases hp
  ·have f1 : a.tmps.getD 43 undef = .slice pO out'.length cO := hF 43 (Reg.looksB (by kernel_rfl))
   have f2 : a.tmps.getD 48 undef = .string (Num.lebS x) := hF 48 (Reg.looksB (by kernel_rfl))
   exact putRun (t := 48) (u := 9) (sl := .tmp 43) (x := .tmp 48) rfl Tryz.underlying48 Tryz.underlying9 info_u8 rfl f1 f2 hJ.1 HLEN.out hJ.2 HLT.out
  refine Reg.rely_is (.pointer (some ⟨k, 0, none⟩)) (fun a w hI hF => Reg.det_plain rfl ?_) ?_
  ·have f1 : a.tmps.getD 39 undef = .pointer (some ⟨k, 0, none⟩) := hF 39 (Reg.looksB (by kernel_rfl))
   clear hF hI
   simp only [Array.getD_eq_getD_getElem?] at f1
   simp only [execOp]; go_simp
  refine Reg.rely_is (.pointer (some ⟨k, 1, none⟩)) (fun a w hI hF => Reg.det_plain rfl ?_) ?_
  ·have f1 : a.tmps.getD 50 undef = .pointer (some ⟨k, 0, none⟩) := hF 50 (Reg.looksB (by kernel_rfl))
   clear hF hI
   simp only [Array.getD_eq_getD_getElem?] at f1
   simp only [execOp]; go_simp
  refine Reg.rely_nil ?_
  refine Reg.final_is ?_
  refine Reg.final_is ?_
  refine Reg.final_rel (fun v10 => ?_)
  refine Reg.final_is ?_
  refine Reg.final_rel (fun v8 => ?_)
  refine Reg.final_is ?_
  refine Reg.final_is ?_
  refine Reg.final_is ?_
  refine Reg.final_is ?_
  refine Reg.final_is ?_
  refine Reg.final_is ?_
  refine Reg.final_is ?_
  refine Reg.final_is ?_
  refine Reg.final_nil (fun w9 hF => ?_)
  have HI9 := Lib.hid hF.1.1
  have HS9 := Lib.hid hF.1.2
  clear hF
  simp only [List.drop_succ_cons, List.drop_zero]
  go_simp
  have d1 : w9.cell? ⟨k, 1, none⟩ = some (.slice pO out'.length cO) := by rw [HI9.out.kb.cell 1]; rfl
  have f1 := HI9.out.kb.frozen 1
  obtain ⟨p9, c9, rfl⟩ := owns_slice HS9.out
  go_wp2_with fail
  refine Reg.fin (by kernel_rfl) ?_
  go_wp2_with fail
  go_end0
  have hkw := KWr.put2 HI9.out.kb HGE.out HS9.out
  simp only [List.length_append] at hkw
  exact ⟨rfl, HFB.out hkw.1, HOV.out.trans (HI9.out.on.trans hkw.2)⟩
 | false =>
  have hbb2 : decide (most < x) = bb := by rw [← hbb]; unfold nb; rw [decide_eq_false hx0]; rfl
  clear hbb
  go_enter Tryz.func87, Tryz.ntmps87
  go_upto_region 3 with fail
  have OV : Only (· = k) w (w.setCell ⟨k, 2, none⟩ (.bool bb)) := (Only.refl _ w).set1
  have HBV : Hid (Blk (w.setCell ⟨k, 2, none⟩ (.bool bb)) k 58 #[.pointer none, .slice pO out'.length cO, .bool bb]) := Lib.hid (HBK.out.set 2 (.bool bb))
  have HRV := Lib.hid (owns_only HRW.out OV (owns_ne HRW.out HBK.out (by decide)))
  have HOV : Hid (OnW B k w (w.setCell ⟨k, 2, none⟩ (.bool bb))) := Lib.hid (OV.mono fun j _ e => .inl e)
  have y1 := HOV.out.cell HG.out hx
  have HAV := Lib.hid (HG.out.onW HOV.out (World.block_lt_of_cell? _ _ hx))
  have HBS : Hid (B ≤ ((w.setCell ⟨k, 2, none⟩ (.bool bb))).heap.size) := Lib.hid (Nat.le_trans HB.out OV.size)
  clear OV c0 c1 c2 cf hx
  generalize (w.setCell ⟨k, 2, none⟩ (.bool bb)) = V at *
  have HI0 : Hid (PutI V B k g o (.slice pO out'.length cO) bb (.int .u64 x) V) := Lib.hid ⟨HBV.out, y1, OnW.refl _ _ _, HAV.out⟩
  have HROW : Hid (V.drew.ownsRow B 5 1 (.slice pO out'.length cO) out'.length (Lib.byteCells out') ∧ B ≤ V.drew.heap.size) := Lib.hid ⟨HRV.out, HBS.out⟩
  have HLT : Hid (∀ j, (Value.slice pO out'.length cO).ownBlock = some j → j < V.heap.size) := Lib.hid fun j hj => (owns_type HRV.out hj).choose_spec.2.2
  clear y1
  refine Reg.wp_rely 13 (PutI V B k g o (.slice pO out'.length cO) bb (.int .u64 x)) (by kernel_rfl) (Reg.relyOk_of (by kernel_rfl)) HI0.out.drew (fun w w' h hI => hI.below h) ?_
  refine Reg.rely_plain (.pointer (some ⟨k, 0, none⟩)) rfl (fun a w hI hF => by
    have f1 : a.tmps.getD 0 undef = .pointer (some ⟨k, 0, none⟩) := hF 0 (Reg.looksB (by kernel_rfl))
    clear hF hI
    simp only [Array.getD_eq_getD_getElem?] at f1
    simp only [execOp]; go_simp) ?_
  refine Reg.rely_plain (.pointer (some ⟨k, 0, none⟩)) rfl (fun a w hI hF => by
    have f1 : a.tmps.getD 0 undef = .pointer (some ⟨k, 0, none⟩) := hF 0 (Reg.looksB (by kernel_rfl))
    clear hF hI
    simp only [Array.getD_eq_getD_getElem?] at f1
    simp only [execOp]; go_simp) ?_
  refine Reg.rely_plain (.pointer (some ⟨k, 0, none⟩)) rfl (fun a w hI hF => by
    have f1 : a.tmps.getD 40 undef = .pointer (some ⟨k, 0, none⟩) := hF 40 (Reg.looksB (by kernel_rfl))
    clear hF hI
    simp only [Array.getD_eq_getD_getElem?] at f1
    simp only [execOp]; go_simp) ?_
  refine Reg.rely_plain (.pointer (some ⟨k, 1, none⟩)) rfl (fun a w hI hF => by
    have f1 : a.tmps.getD 41 undef = .pointer (some ⟨k, 0, none⟩) := hF 41 (Reg.looksB (by kernel_rfl))
    clear hF hI
    simp only [Array.getD_eq_getD_getElem?] at f1
    simp only [execOp]; go_simp) ?_
  refine Reg.rely_plain (.slice pO out'.length cO) rfl (fun a w hI hF => by
    have f1 : a.tmps.getD 42 undef = .pointer (some ⟨k, 1, none⟩) := hF 42 (Reg.looksB (by kernel_rfl))
    have hc : w.cell? ⟨k, 1, none⟩ = some (.slice pO out'.length cO) := by rw [hI.kb.cell 1]; rfl
    clear hF hI
    simp only [Array.getD_eq_getD_getElem?] at f1
    simp only [execOp]; go_simp) ?_
  refine Reg.rely_plain (.pointer (some ⟨g, o, none⟩)) rfl (fun a w hI hF => by
    have f1 : a.tmps.getD 1 undef = .pointer (some ⟨g, o, none⟩) := hF 1 (Reg.looksB (by kernel_rfl))
    clear hF hI
    simp only [Array.getD_eq_getD_getElem?] at f1
    simp only [execOp]; go_simp) ?_
  refine Reg.rely_plain (.pointer (some ⟨g, o, none⟩)) rfl (fun a w hI hF => by
    have f1 : a.tmps.getD 44 undef = .pointer (some ⟨g, o, none⟩) := hF 44 (Reg.looksB (by kernel_rfl))
    clear hF hI
    simp only [Array.getD_eq_getD_getElem?] at f1
    simp only [execOp]; go_simp) ?_
  refine Reg.rely_plain (.int .u64 x) rfl (fun a w hI hF => by
    have f1 : a.tmps.getD 45 undef = .pointer (some ⟨g, o, none⟩) := hF 45 (Reg.looksB (by kernel_rfl))
    have hc := hI.cell
    clear hF hI
    simp only [Array.getD_eq_getD_getElem?] at f1
    simp only [execOp]; go_simp) ?_
  refine Reg.rely_rel (fun v w => ∃ gl, v = .slice (some ⟨gl, 0, none⟩) 1 1 ∧ V.heap.size ≤ gl ∧ Blk w gl 22 #[.int .u64 x]) (fun v w w' h hS => by obtain ⟨gl, h1, h2, h3⟩ := hS; exact ⟨gl, h1, h2, h3.below h⟩) (fun G hG => by cases hG) rfl (fun a w hI hF => by
   have f1 : a.tmps.getD 46 undef = .int .u64 x := hF 46 (Reg.looksB (by kernel_rfl))
   have hK := Lib.hid (Blk.new w 22 #[.int .u64 x])
   have hQ := Lib.hid hI.on.size
   have hW := Lib.hid (show Reg.Grow w (w.alloc (.cells #[.int .u64 x] 22)) from (Below.refl _ w).alloc (Nat.le_refl _) _)
   clear hF hI
   simp only [Array.getD_eq_getD_getElem?] at f1
   unfold Oper.wp
   simp only [execOp]
   go_simp
   exact ⟨_, rfl, ⟨_, rfl, hQ.out, hK.out⟩, hW.out⟩) ?_
  refine Reg.rely_call0 (Reg.Is (.string (Num.lebS x))) (Reg.stab_is _ _) (fun G hG => by cases hG) rfl (fun a w hI hF => by
   obtain ⟨gl, f1, hg1, hgl⟩ : ∃ gl, a.tmps.getD 47 undef = .slice (some ⟨gl, 0, none⟩) 1 1 ∧ V.heap.size ≤ gl ∧ Blk w gl 22 #[.int .u64 x] := hF 47 (Reg.looksB (by kernel_rfl))
   refine ⟨64, #[.slice (some ⟨gl, 0, none⟩) 1 1], ?_, (HW.out w gl hgl).mono fun e w' h => ⟨_, h.1, rfl, h.2⟩⟩
   clear hF hI hgl hg1
   simp only [Array.getD_eq_getD_getElem?] at f1
   simp only [execOp]; go_simp) ?_
  refine Reg.rely_turn (fun v w => w.ownsRow B 5 1 v (out' ++ Ms.bl (Num.lebS x)).length (Lib.byteCells (out' ++ Ms.bl (Num.lebS x)))) (PutG V.heap.size B (.slice pO out'.length cO)) (fun w => w.ownsRow B 5 1 (.slice pO out'.length cO) out'.length (Lib.byteCells out') ∧ B ≤ w.heap.size) (fun v w w' h hS => owns_below hS h) (fun G hG => by cases hG) (fun w w' h hI => hI.turn h) ?_ rfl (fun w w' h hJ => ⟨owns_below hJ.1 h, Nat.le_trans hJ.2 h.size⟩) ⟨HROW.out.1, HROW.out.2⟩ (fun G hG => by cases hG) (fun G hG => by cases hG) (fun a w hI hJ hF => ?_) ?_
  ·intro p hp
   repeat (rcases List.mem_cons.1 hp with rfl | hp; first | exact Reg.stab_is _ _ | exact fun v w w' h hS => by obtain ⟨gl, h1, h2, h3⟩ := hS; exact ⟨gl, h1, h2, h.keep h2 h3⟩)
   cases hp
  ·have f1 : a.tmps.getD 43 undef = .slice pO out'.length cO := hF 43 (Reg.looksB (by kernel_rfl))
   have f2 : a.tmps.getD 48 undef = .string (Num.lebS x) := hF 48 (Reg.looksB (by kernel_rfl))
   exact putRun (t := 48) (u := 9) (sl := .tmp 43) (x := .tmp 48) rfl Tryz.underlying48 Tryz.underlying9 info_u8 rfl f1 f2 hJ.1 HLEN.out hJ.2 HLT.out
  refine Reg.rely_is (.pointer (some ⟨k, 0, none⟩)) (fun a w hI hF => Reg.det_plain rfl ?_) ?_
  ·have f1 : a.tmps.getD 39 undef = .pointer (some ⟨k, 0, none⟩) := hF 39 (Reg.looksB (by kernel_rfl))
   clear hF hI
   simp only [Array.getD_eq_getD_getElem?] at f1
   simp only [execOp]; go_simp
  refine Reg.rely_is (.pointer (some ⟨k, 1, none⟩)) (fun a w hI hF => Reg.det_plain rfl ?_) ?_
  ·have f1 : a.tmps.getD 50 undef = .pointer (some ⟨k, 0, none⟩) := hF 50 (Reg.looksB (by kernel_rfl))
   clear hF hI
   simp only [Array.getD_eq_getD_getElem?] at f1
   simp only [execOp]; go_simp
  refine Reg.rely_nil ?_
  refine Reg.final_is ?_
  refine Reg.final_is ?_
  refine Reg.final_rel (fun v10 => ?_)
  refine Reg.final_is ?_
  refine Reg.final_rel (fun v8 => ?_)
  refine Reg.final_is ?_
  refine Reg.final_is ?_
  refine Reg.final_is ?_
  refine Reg.final_is ?_
  refine Reg.final_is ?_
  refine Reg.final_is ?_
  refine Reg.final_is ?_
  refine Reg.final_is ?_
  refine Reg.final_nil (fun w9 hF => ?_)
  have HI9 := Lib.hid hF.1.1
  have HS9 := Lib.hid hF.1.2
  clear hF
  simp only [List.drop_succ_cons, List.drop_zero]
  go_simp
  have d1 : w9.cell? ⟨k, 1, none⟩ = some (.slice pO out'.length cO) := by rw [HI9.out.kb.cell 1]; rfl
  have f1 := HI9.out.kb.frozen 1
  obtain ⟨p9, c9, rfl⟩ := owns_slice HS9.out
  go_wp2_with fail
  refine Reg.fin (by kernel_rfl) ?_
  go_wp2_with fail
  go_end0
  have hkw := KWr.put2 HI9.out.kb HGE.out HS9.out
  simp only [List.length_append] at hkw
  exact ⟨rfl, HFB.out hkw.1, HOV.out.trans (HI9.out.on.trans hkw.2)⟩
set_option maxRecDepth 100000 in
set_option maxHeartbeats 2000000 in
theorem numw_u8 {x most : Int} (c : KWb w B k out bad L) (hB : B ≤ w.heap.size) (hL : L ≤ 1000000000) (hx : w.cell? ⟨g, o, none⟩ = some (.int .u8 x)) (hg : Away w B k g) (hr : 0 ≤ x ∧ x ≤ 255) :
  Calls Tryz.prog 50 #[.pointer (some ⟨k, 0, none⟩), .pointer (some ⟨g, o, none⟩), .int .u64 most] w (WrP w B k (out ++ wU x) (bad || nb x most) (L + 10)) := by
 obtain ⟨out', c, ho, hl⟩ := c
 obtain ⟨vO, h1, h2, h3⟩ := c
 obtain ⟨pO, cO, rfl⟩ := owns_slice h2
 have c0 : w.cell? ⟨k, 0, none⟩ = some (.pointer none) := by rw [h1.cell 0]; rfl
 have c1 : w.cell? ⟨k, 1, none⟩ = some (.slice pO out'.length cO) := by rw [h1.cell 1]; rfl
 have c2 : w.cell? ⟨k, 2, none⟩ = some (.bool bad) := by rw [h1.cell 2]; rfl
 have cf := h1.frozen
 have HBK := Lib.hid h1
 have HRW := Lib.hid h2
 have HGE := Lib.hid h3
 have HG := Lib.hid hg
 have HO := Lib.hid (And.intro ho hl)
 have HL := Lib.hid hL
 have HB := Lib.hid hB
 have hyy : U64 (IntKind.u64.wrap x) ∧ (0 ≤ x → IntKind.u64.wrap x = x) := by rw [IntKind.wrap_u64]; unfold U64; omega
 obtain ⟨y, hy⟩ : ∃ y, IntKind.u64.wrap x = y := ⟨_, rfl⟩
 rw [hy] at hyy
 have HY := Lib.hid hyy
 have hx0 : ¬ x < 0 := by have h := hr.1; omega
 obtain ⟨bb, hbb⟩ : ∃ bb, (bad || nb x most) = bb := ⟨_, rfl⟩
 rw [hbb]
 have HBB := Lib.hid hbb
 have HLEN : Hid (out'.length + (Num.lebS y).size ≤ 140737488355328) := Lib.hid (by have := lebS_size HY.out.1.2; have := HO.out.2; have := HL.out; omega)
 have HFB : Hid (∀ {W : World}, KWr W B k (out' ++ Ms.bl (Num.lebS y)) bb → KWb W B k (out ++ wU x) bb (L + 10)) := Lib.hid fun h => KWr.kwb h HO.out.1 HO.out.2 (fun e => by
  have h := HBB.out
  rw [e, Bool.or_eq_false_iff] at h
  have h0 := (nb_false.1 h.2).1
  refine ⟨h.1, ?_⟩
  rw [Ms.bl_leb, HY.out.2 h0]
  rfl) (by rw [Ms.bl_len]; exact lebS_size HY.out.1.2)
 have HW : Hid (∀ (w : World) gl, Blk w gl 22 #[.int .u64 y] → Calls Tryz.prog 64 #[.slice (some ⟨gl, 0, none⟩) 1 1] w (StPost (Num.lebS y) w)) := Lib.hid fun w gl h => uintsB HY.out.1 h
 clear h1 h2 h3 hg ho hl hL hB hyy hr
 cases bad with
 | true =>
  have hbt : bb = true := by rw [← hbb]; rfl
  clear hbb
  subst hbt
  go_enter Tryz.func50, Tryz.ntmps50
  go_upto_region 3 with fail
  have OV : Only (· = k) w (w.setCell ⟨k, 2, none⟩ (.bool true)) := (Only.refl _ w).set1
  have HBV : Hid (Blk (w.setCell ⟨k, 2, none⟩ (.bool true)) k 58 #[.pointer none, .slice pO out'.length cO, .bool true]) := Lib.hid (HBK.out.set 2 (.bool true))
  have HRV := Lib.hid (owns_only HRW.out OV (owns_ne HRW.out HBK.out (by decide)))
  have HOV : Hid (OnW B k w (w.setCell ⟨k, 2, none⟩ (.bool true))) := Lib.hid (OV.mono fun j _ e => .inl e)
  have y1 := HOV.out.cell HG.out hx
  have HAV := Lib.hid (HG.out.onW HOV.out (World.block_lt_of_cell? _ _ hx))
  have HBS : Hid (B ≤ ((w.setCell ⟨k, 2, none⟩ (.bool true))).heap.size) := Lib.hid (Nat.le_trans HB.out OV.size)
  clear OV c0 c1 c2 cf hx
  generalize (w.setCell ⟨k, 2, none⟩ (.bool true)) = V at *
  have HI0 : Hid (PutI V B k g o (.slice pO out'.length cO) true (.int .u8 x) V) := Lib.hid ⟨HBV.out, y1, OnW.refl _ _ _, HAV.out⟩
  have HROW : Hid (V.drew.ownsRow B 5 1 (.slice pO out'.length cO) out'.length (Lib.byteCells out') ∧ B ≤ V.drew.heap.size) := Lib.hid ⟨HRV.out, HBS.out⟩
  have HLT : Hid (∀ j, (Value.slice pO out'.length cO).ownBlock = some j → j < V.heap.size) := Lib.hid fun j hj => (owns_type HRV.out hj).choose_spec.2.2
  clear y1
  refine Reg.wp_rely 14 (PutI V B k g o (.slice pO out'.length cO) true (.int .u8 x)) (by kernel_rfl) (Reg.relyOk_of (by kernel_rfl)) HI0.out.drew (fun w w' h hI => hI.below h) ?_
  refine Reg.rely_plain (.pointer (some ⟨k, 0, none⟩)) rfl (fun a w hI hF => by
    have f1 : a.tmps.getD 0 undef = .pointer (some ⟨k, 0, none⟩) := hF 0 (Reg.looksB (by kernel_rfl))
    clear hF hI
    simp only [Array.getD_eq_getD_getElem?] at f1
    simp only [execOp]; go_simp) ?_
  refine Reg.rely_plain (.pointer (some ⟨k, 0, none⟩)) rfl (fun a w hI hF => by
    have f1 : a.tmps.getD 0 undef = .pointer (some ⟨k, 0, none⟩) := hF 0 (Reg.looksB (by kernel_rfl))
    clear hF hI
    simp only [Array.getD_eq_getD_getElem?] at f1
    simp only [execOp]; go_simp) ?_
  refine Reg.rely_plain (.pointer (some ⟨k, 0, none⟩)) rfl (fun a w hI hF => by
    have f1 : a.tmps.getD 42 undef = .pointer (some ⟨k, 0, none⟩) := hF 42 (Reg.looksB (by kernel_rfl))
    clear hF hI
    simp only [Array.getD_eq_getD_getElem?] at f1
    simp only [execOp]; go_simp) ?_
  refine Reg.rely_plain (.pointer (some ⟨k, 1, none⟩)) rfl (fun a w hI hF => by
    have f1 : a.tmps.getD 43 undef = .pointer (some ⟨k, 0, none⟩) := hF 43 (Reg.looksB (by kernel_rfl))
    clear hF hI
    simp only [Array.getD_eq_getD_getElem?] at f1
    simp only [execOp]; go_simp) ?_
  refine Reg.rely_plain (.slice pO out'.length cO) rfl (fun a w hI hF => by
    have f1 : a.tmps.getD 44 undef = .pointer (some ⟨k, 1, none⟩) := hF 44 (Reg.looksB (by kernel_rfl))
    have hc : w.cell? ⟨k, 1, none⟩ = some (.slice pO out'.length cO) := by rw [hI.kb.cell 1]; rfl
    clear hF hI
    simp only [Array.getD_eq_getD_getElem?] at f1
    simp only [execOp]; go_simp) ?_
  refine Reg.rely_plain (.pointer (some ⟨g, o, none⟩)) rfl (fun a w hI hF => by
    have f1 : a.tmps.getD 1 undef = .pointer (some ⟨g, o, none⟩) := hF 1 (Reg.looksB (by kernel_rfl))
    clear hF hI
    simp only [Array.getD_eq_getD_getElem?] at f1
    simp only [execOp]; go_simp) ?_
  refine Reg.rely_plain (.pointer (some ⟨g, o, none⟩)) rfl (fun a w hI hF => by
    have f1 : a.tmps.getD 46 undef = .pointer (some ⟨g, o, none⟩) := hF 46 (Reg.looksB (by kernel_rfl))
    clear hF hI
    simp only [Array.getD_eq_getD_getElem?] at f1
    simp only [execOp]; go_simp) ?_
  refine Reg.rely_plain (.int .u8 x) rfl (fun a w hI hF => by
    have f1 : a.tmps.getD 47 undef = .pointer (some ⟨g, o, none⟩) := hF 47 (Reg.looksB (by kernel_rfl))
    have hc := hI.cell
    clear hF hI
    simp only [Array.getD_eq_getD_getElem?] at f1
    simp only [execOp]; go_simp) ?_
  refine Reg.rely_plain (.int .u64 y) rfl (fun a w hI hF => by
    have f1 : a.tmps.getD 48 undef = .int .u8 x := hF 48 (Reg.looksB (by kernel_rfl))
    clear hF hI
    simp only [Array.getD_eq_getD_getElem?] at f1
    simp only [execOp]; go_simp) ?_
  refine Reg.rely_rel (fun v w => ∃ gl, v = .slice (some ⟨gl, 0, none⟩) 1 1 ∧ V.heap.size ≤ gl ∧ Blk w gl 22 #[.int .u64 y]) (fun v w w' h hS => by obtain ⟨gl, h1, h2, h3⟩ := hS; exact ⟨gl, h1, h2, h3.below h⟩) (fun G hG => by cases hG) rfl (fun a w hI hF => by
   have f1 : a.tmps.getD 49 undef = .int .u64 y := hF 49 (Reg.looksB (by kernel_rfl))
   have hK := Lib.hid (Blk.new w 22 #[.int .u64 y])
   have hQ := Lib.hid hI.on.size
   have hW := Lib.hid (show Reg.Grow w (w.alloc (.cells #[.int .u64 y] 22)) from (Below.refl _ w).alloc (Nat.le_refl _) _)
   clear hF hI
   simp only [Array.getD_eq_getD_getElem?] at f1
   unfold Oper.wp
   simp only [execOp]
   go_simp
   exact ⟨_, rfl, ⟨_, rfl, hQ.out, hK.out⟩, hW.out⟩) ?_
  refine Reg.rely_call0 (Reg.Is (.string (Num.lebS y))) (Reg.stab_is _ _) (fun G hG => by cases hG) rfl (fun a w hI hF => by
   obtain ⟨gl, f1, hg1, hgl⟩ : ∃ gl, a.tmps.getD 50 undef = .slice (some ⟨gl, 0, none⟩) 1 1 ∧ V.heap.size ≤ gl ∧ Blk w gl 22 #[.int .u64 y] := hF 50 (Reg.looksB (by kernel_rfl))
   refine ⟨64, #[.slice (some ⟨gl, 0, none⟩) 1 1], ?_, (HW.out w gl hgl).mono fun e w' h => ⟨_, h.1, rfl, h.2⟩⟩
   clear hF hI hgl hg1
   simp only [Array.getD_eq_getD_getElem?] at f1
   simp only [execOp]; go_simp) ?_
  refine Reg.rely_turn (fun v w => w.ownsRow B 5 1 v (out' ++ Ms.bl (Num.lebS y)).length (Lib.byteCells (out' ++ Ms.bl (Num.lebS y)))) (PutG V.heap.size B (.slice pO out'.length cO)) (fun w => w.ownsRow B 5 1 (.slice pO out'.length cO) out'.length (Lib.byteCells out') ∧ B ≤ w.heap.size) (fun v w w' h hS => owns_below hS h) (fun G hG => by cases hG) (fun w w' h hI => hI.turn h) ?_ rfl (fun w w' h hJ => ⟨owns_below hJ.1 h, Nat.le_trans hJ.2 h.size⟩) ⟨HROW.out.1, HROW.out.2⟩ (fun G hG => by cases hG) (fun G hG => by cases hG) (fun a w hI hJ hF => ?_) ?_
  ·intro p hp
   repeat (rcases List.mem_cons.1 hp with rfl | hp; first | exact Reg.stab_is _ _ | exact fun v w w' h hS => by obtain ⟨gl, h1, h2, h3⟩ := hS; exact ⟨gl, h1, h2, h.keep h2 h3⟩)
   cases hp
  ·have f1 : a.tmps.getD 45 undef = .slice pO out'.length cO := hF 45 (Reg.looksB (by kernel_rfl))
   have f2 : a.tmps.getD 51 undef = .string (Num.lebS y) := hF 51 (Reg.looksB (by kernel_rfl))
   exact putRun (t := 48) (u := 9) (sl := .tmp 45) (x := .tmp 51) rfl Tryz.underlying48 Tryz.underlying9 info_u8 rfl f1 f2 hJ.1 HLEN.out hJ.2 HLT.out
  refine Reg.rely_is (.pointer (some ⟨k, 0, none⟩)) (fun a w hI hF => Reg.det_plain rfl ?_) ?_
  ·have f1 : a.tmps.getD 41 undef = .pointer (some ⟨k, 0, none⟩) := hF 41 (Reg.looksB (by kernel_rfl))
   clear hF hI
   simp only [Array.getD_eq_getD_getElem?] at f1
   simp only [execOp]; go_simp
  refine Reg.rely_is (.pointer (some ⟨k, 1, none⟩)) (fun a w hI hF => Reg.det_plain rfl ?_) ?_
  ·have f1 : a.tmps.getD 53 undef = .pointer (some ⟨k, 0, none⟩) := hF 53 (Reg.looksB (by kernel_rfl))
   clear hF hI
   simp only [Array.getD_eq_getD_getElem?] at f1
   simp only [execOp]; go_simp
  refine Reg.rely_nil ?_
  refine Reg.final_is ?_
  refine Reg.final_is ?_
  refine Reg.final_rel (fun v11 => ?_)
  refine Reg.final_is ?_
  refine Reg.final_rel (fun v9 => ?_)
  refine Reg.final_is ?_
  refine Reg.final_is ?_
  refine Reg.final_is ?_
  refine Reg.final_is ?_
  refine Reg.final_is ?_
  refine Reg.final_is ?_
  refine Reg.final_is ?_
  refine Reg.final_is ?_
  refine Reg.final_is ?_
  refine Reg.final_nil (fun w9 hF => ?_)
  have HI9 := Lib.hid hF.1.1
  have HS9 := Lib.hid hF.1.2
  clear hF
  simp only [List.drop_succ_cons, List.drop_zero]
  go_simp
  have d1 : w9.cell? ⟨k, 1, none⟩ = some (.slice pO out'.length cO) := by rw [HI9.out.kb.cell 1]; rfl
  have f1 := HI9.out.kb.frozen 1
  obtain ⟨p9, c9, rfl⟩ := owns_slice HS9.out
  go_wp2_with fail
  refine Reg.fin (by kernel_rfl) ?_
  go_wp2_with fail
  go_end0
  have hkw := KWr.put2 HI9.out.kb HGE.out HS9.out
  simp only [List.length_append] at hkw
  exact ⟨rfl, HFB.out hkw.1, HOV.out.trans (HI9.out.on.trans hkw.2)⟩
 | false =>
  have hbb2 : decide (most < y) = bb := by rw [← hbb, HY.out.2 (by omega)]; unfold nb; rw [decide_eq_false hx0]; rfl
  clear hbb
  go_enter Tryz.func50, Tryz.ntmps50
  go_upto_region 3 with fail
  have OV : Only (· = k) w (w.setCell ⟨k, 2, none⟩ (.bool bb)) := (Only.refl _ w).set1
  have HBV : Hid (Blk (w.setCell ⟨k, 2, none⟩ (.bool bb)) k 58 #[.pointer none, .slice pO out'.length cO, .bool bb]) := Lib.hid (HBK.out.set 2 (.bool bb))
  have HRV := Lib.hid (owns_only HRW.out OV (owns_ne HRW.out HBK.out (by decide)))
  have HOV : Hid (OnW B k w (w.setCell ⟨k, 2, none⟩ (.bool bb))) := Lib.hid (OV.mono fun j _ e => .inl e)
  have y1 := HOV.out.cell HG.out hx
  have HAV := Lib.hid (HG.out.onW HOV.out (World.block_lt_of_cell? _ _ hx))
  have HBS : Hid (B ≤ ((w.setCell ⟨k, 2, none⟩ (.bool bb))).heap.size) := Lib.hid (Nat.le_trans HB.out OV.size)
  clear OV c0 c1 c2 cf hx
  generalize (w.setCell ⟨k, 2, none⟩ (.bool bb)) = V at *
  have HI0 : Hid (PutI V B k g o (.slice pO out'.length cO) bb (.int .u8 x) V) := Lib.hid ⟨HBV.out, y1, OnW.refl _ _ _, HAV.out⟩
  have HROW : Hid (V.drew.ownsRow B 5 1 (.slice pO out'.length cO) out'.length (Lib.byteCells out') ∧ B ≤ V.drew.heap.size) := Lib.hid ⟨HRV.out, HBS.out⟩
  have HLT : Hid (∀ j, (Value.slice pO out'.length cO).ownBlock = some j → j < V.heap.size) := Lib.hid fun j hj => (owns_type HRV.out hj).choose_spec.2.2
  clear y1
  refine Reg.wp_rely 14 (PutI V B k g o (.slice pO out'.length cO) bb (.int .u8 x)) (by kernel_rfl) (Reg.relyOk_of (by kernel_rfl)) HI0.out.drew (fun w w' h hI => hI.below h) ?_
  refine Reg.rely_plain (.pointer (some ⟨k, 0, none⟩)) rfl (fun a w hI hF => by
    have f1 : a.tmps.getD 0 undef = .pointer (some ⟨k, 0, none⟩) := hF 0 (Reg.looksB (by kernel_rfl))
    clear hF hI
    simp only [Array.getD_eq_getD_getElem?] at f1
    simp only [execOp]; go_simp) ?_
  refine Reg.rely_plain (.pointer (some ⟨k, 0, none⟩)) rfl (fun a w hI hF => by
    have f1 : a.tmps.getD 0 undef = .pointer (some ⟨k, 0, none⟩) := hF 0 (Reg.looksB (by kernel_rfl))
    clear hF hI
    simp only [Array.getD_eq_getD_getElem?] at f1
    simp only [execOp]; go_simp) ?_
  refine Reg.rely_plain (.pointer (some ⟨k, 0, none⟩)) rfl (fun a w hI hF => by
    have f1 : a.tmps.getD 42 undef = .pointer (some ⟨k, 0, none⟩) := hF 42 (Reg.looksB (by kernel_rfl))
    clear hF hI
    simp only [Array.getD_eq_getD_getElem?] at f1
    simp only [execOp]; go_simp) ?_
  refine Reg.rely_plain (.pointer (some ⟨k, 1, none⟩)) rfl (fun a w hI hF => by
    have f1 : a.tmps.getD 43 undef = .pointer (some ⟨k, 0, none⟩) := hF 43 (Reg.looksB (by kernel_rfl))
    clear hF hI
    simp only [Array.getD_eq_getD_getElem?] at f1
    simp only [execOp]; go_simp) ?_
  refine Reg.rely_plain (.slice pO out'.length cO) rfl (fun a w hI hF => by
    have f1 : a.tmps.getD 44 undef = .pointer (some ⟨k, 1, none⟩) := hF 44 (Reg.looksB (by kernel_rfl))
    have hc : w.cell? ⟨k, 1, none⟩ = some (.slice pO out'.length cO) := by rw [hI.kb.cell 1]; rfl
    clear hF hI
    simp only [Array.getD_eq_getD_getElem?] at f1
    simp only [execOp]; go_simp) ?_
  refine Reg.rely_plain (.pointer (some ⟨g, o, none⟩)) rfl (fun a w hI hF => by
    have f1 : a.tmps.getD 1 undef = .pointer (some ⟨g, o, none⟩) := hF 1 (Reg.looksB (by kernel_rfl))
    clear hF hI
    simp only [Array.getD_eq_getD_getElem?] at f1
    simp only [execOp]; go_simp) ?_
  refine Reg.rely_plain (.pointer (some ⟨g, o, none⟩)) rfl (fun a w hI hF => by
    have f1 : a.tmps.getD 46 undef = .pointer (some ⟨g, o, none⟩) := hF 46 (Reg.looksB (by kernel_rfl))
    clear hF hI
    simp only [Array.getD_eq_getD_getElem?] at f1
    simp only [execOp]; go_simp) ?_
  refine Reg.rely_plain (.int .u8 x) rfl (fun a w hI hF => by
    have f1 : a.tmps.getD 47 undef = .pointer (some ⟨g, o, none⟩) := hF 47 (Reg.looksB (by kernel_rfl))
    have hc := hI.cell
    clear hF hI
    simp only [Array.getD_eq_getD_getElem?] at f1
    simp only [execOp]; go_simp) ?_
  refine Reg.rely_plain (.int .u64 y) rfl (fun a w hI hF => by
    have f1 : a.tmps.getD 48 undef = .int .u8 x := hF 48 (Reg.looksB (by kernel_rfl))
    clear hF hI
    simp only [Array.getD_eq_getD_getElem?] at f1
    simp only [execOp]; go_simp) ?_
  refine Reg.rely_rel (fun v w => ∃ gl, v = .slice (some ⟨gl, 0, none⟩) 1 1 ∧ V.heap.size ≤ gl ∧ Blk w gl 22 #[.int .u64 y]) (fun v w w' h hS => by obtain ⟨gl, h1, h2, h3⟩ := hS; exact ⟨gl, h1, h2, h3.below h⟩) (fun G hG => by cases hG) rfl (fun a w hI hF => by
   have f1 : a.tmps.getD 49 undef = .int .u64 y := hF 49 (Reg.looksB (by kernel_rfl))
   have hK := Lib.hid (Blk.new w 22 #[.int .u64 y])
   have hQ := Lib.hid hI.on.size
   have hW := Lib.hid (show Reg.Grow w (w.alloc (.cells #[.int .u64 y] 22)) from (Below.refl _ w).alloc (Nat.le_refl _) _)
   clear hF hI
   simp only [Array.getD_eq_getD_getElem?] at f1
   unfold Oper.wp
   simp only [execOp]
   go_simp
   exact ⟨_, rfl, ⟨_, rfl, hQ.out, hK.out⟩, hW.out⟩) ?_
  refine Reg.rely_call0 (Reg.Is (.string (Num.lebS y))) (Reg.stab_is _ _) (fun G hG => by cases hG) rfl (fun a w hI hF => by
   obtain ⟨gl, f1, hg1, hgl⟩ : ∃ gl, a.tmps.getD 50 undef = .slice (some ⟨gl, 0, none⟩) 1 1 ∧ V.heap.size ≤ gl ∧ Blk w gl 22 #[.int .u64 y] := hF 50 (Reg.looksB (by kernel_rfl))
   refine ⟨64, #[.slice (some ⟨gl, 0, none⟩) 1 1], ?_, (HW.out w gl hgl).mono fun e w' h => ⟨_, h.1, rfl, h.2⟩⟩
   clear hF hI hgl hg1
   simp only [Array.getD_eq_getD_getElem?] at f1
   simp only [execOp]; go_simp) ?_
  refine Reg.rely_turn (fun v w => w.ownsRow B 5 1 v (out' ++ Ms.bl (Num.lebS y)).length (Lib.byteCells (out' ++ Ms.bl (Num.lebS y)))) (PutG V.heap.size B (.slice pO out'.length cO)) (fun w => w.ownsRow B 5 1 (.slice pO out'.length cO) out'.length (Lib.byteCells out') ∧ B ≤ w.heap.size) (fun v w w' h hS => owns_below hS h) (fun G hG => by cases hG) (fun w w' h hI => hI.turn h) ?_ rfl (fun w w' h hJ => ⟨owns_below hJ.1 h, Nat.le_trans hJ.2 h.size⟩) ⟨HROW.out.1, HROW.out.2⟩ (fun G hG => by cases hG) (fun G hG => by cases hG) (fun a w hI hJ hF => ?_) ?_
  ·intro p hp
   repeat (rcases List.mem_cons.1 hp with rfl | hp; first | exact Reg.stab_is _ _ | exact fun v w w' h hS => by obtain ⟨gl, h1, h2, h3⟩ := hS; exact ⟨gl, h1, h2, h.keep h2 h3⟩)
   cases hp
  ·have f1 : a.tmps.getD 45 undef = .slice pO out'.length cO := hF 45 (Reg.looksB (by kernel_rfl))
   have f2 : a.tmps.getD 51 undef = .string (Num.lebS y) := hF 51 (Reg.looksB (by kernel_rfl))
   exact putRun (t := 48) (u := 9) (sl := .tmp 45) (x := .tmp 51) rfl Tryz.underlying48 Tryz.underlying9 info_u8 rfl f1 f2 hJ.1 HLEN.out hJ.2 HLT.out
  refine Reg.rely_is (.pointer (some ⟨k, 0, none⟩)) (fun a w hI hF => Reg.det_plain rfl ?_) ?_
  ·have f1 : a.tmps.getD 41 undef = .pointer (some ⟨k, 0, none⟩) := hF 41 (Reg.looksB (by kernel_rfl))
   clear hF hI
   simp only [Array.getD_eq_getD_getElem?] at f1
   simp only [execOp]; go_simp
  refine Reg.rely_is (.pointer (some ⟨k, 1, none⟩)) (fun a w hI hF => Reg.det_plain rfl ?_) ?_
  ·have f1 : a.tmps.getD 53 undef = .pointer (some ⟨k, 0, none⟩) := hF 53 (Reg.looksB (by kernel_rfl))
   clear hF hI
   simp only [Array.getD_eq_getD_getElem?] at f1
   simp only [execOp]; go_simp
  refine Reg.rely_nil ?_
  refine Reg.final_is ?_
  refine Reg.final_is ?_
  refine Reg.final_rel (fun v11 => ?_)
  refine Reg.final_is ?_
  refine Reg.final_rel (fun v9 => ?_)
  refine Reg.final_is ?_
  refine Reg.final_is ?_
  refine Reg.final_is ?_
  refine Reg.final_is ?_
  refine Reg.final_is ?_
  refine Reg.final_is ?_
  refine Reg.final_is ?_
  refine Reg.final_is ?_
  refine Reg.final_is ?_
  refine Reg.final_nil (fun w9 hF => ?_)
  have HI9 := Lib.hid hF.1.1
  have HS9 := Lib.hid hF.1.2
  clear hF
  simp only [List.drop_succ_cons, List.drop_zero]
  go_simp
  have d1 : w9.cell? ⟨k, 1, none⟩ = some (.slice pO out'.length cO) := by rw [HI9.out.kb.cell 1]; rfl
  have f1 := HI9.out.kb.frozen 1
  obtain ⟨p9, c9, rfl⟩ := owns_slice HS9.out
  go_wp2_with fail
  refine Reg.fin (by kernel_rfl) ?_
  go_wp2_with fail
  go_end0
  have hkw := KWr.put2 HI9.out.kb HGE.out HS9.out
  simp only [List.length_append] at hkw
  exact ⟨rfl, HFB.out hkw.1, HOV.out.trans (HI9.out.on.trans hkw.2)⟩
set_option maxRecDepth 100000 in
set_option maxHeartbeats 2000000 in
theorem numw_int {x most : Int} (c : KWb w B k out bad L) (hB : B ≤ w.heap.size) (hL : L ≤ 1000000000) (hx : w.cell? ⟨g, o, none⟩ = some (.int .i64 x)) (hg : Away w B k g) (hr : I64 x) :
  Calls Tryz.prog 86 #[.pointer (some ⟨k, 0, none⟩), .pointer (some ⟨g, o, none⟩), .int .u64 most] w (WrP w B k (out ++ wU x) (bad || nb x most) (L + 10)) := by
 obtain ⟨out', c, ho, hl⟩ := c
 obtain ⟨vO, h1, h2, h3⟩ := c
 obtain ⟨pO, cO, rfl⟩ := owns_slice h2
 have c0 : w.cell? ⟨k, 0, none⟩ = some (.pointer none) := by rw [h1.cell 0]; rfl
 have c1 : w.cell? ⟨k, 1, none⟩ = some (.slice pO out'.length cO) := by rw [h1.cell 1]; rfl
 have c2 : w.cell? ⟨k, 2, none⟩ = some (.bool bad) := by rw [h1.cell 2]; rfl
 have cf := h1.frozen
 have HBK := Lib.hid h1
 have HRW := Lib.hid h2
 have HGE := Lib.hid h3
 have HG := Lib.hid hg
 have HO := Lib.hid (And.intro ho hl)
 have HL := Lib.hid hL
 have HB := Lib.hid hB
 have hyy : U64 (IntKind.u64.wrap x) ∧ (0 ≤ x → IntKind.u64.wrap x = x) := by rw [IntKind.wrap_u64]; unfold U64; unfold I64 at hr; omega
 obtain ⟨y, hy⟩ : ∃ y, IntKind.u64.wrap x = y := ⟨_, rfl⟩
 rw [hy] at hyy
 have HY := Lib.hid hyy
 obtain ⟨bb, hbb⟩ : ∃ bb, (bad || nb x most) = bb := ⟨_, rfl⟩
 rw [hbb]
 have HBB := Lib.hid hbb
 have HLEN : Hid (out'.length + (Num.lebS y).size ≤ 140737488355328) := Lib.hid (by have := lebS_size HY.out.1.2; have := HO.out.2; have := HL.out; omega)
 have HFB : Hid (∀ {W : World}, KWr W B k (out' ++ Ms.bl (Num.lebS y)) bb → KWb W B k (out ++ wU x) bb (L + 10)) := Lib.hid fun h => KWr.kwb h HO.out.1 HO.out.2 (fun e => by
  have h := HBB.out
  rw [e, Bool.or_eq_false_iff] at h
  have h0 := (nb_false.1 h.2).1
  refine ⟨h.1, ?_⟩
  rw [Ms.bl_leb, HY.out.2 h0]
  rfl) (by rw [Ms.bl_len]; exact lebS_size HY.out.1.2)
 have HW : Hid (∀ (w : World) gl, Blk w gl 22 #[.int .u64 y] → Calls Tryz.prog 64 #[.slice (some ⟨gl, 0, none⟩) 1 1] w (StPost (Num.lebS y) w)) := Lib.hid fun w gl h => uintsB HY.out.1 h
 clear h1 h2 h3 hg ho hl hL hB hyy hr
 cases bad with
 | true =>
  have hbt : bb = true := by rw [← hbb]; rfl
  clear hbb
  subst hbt
  go_enter Tryz.func86, Tryz.ntmps86
  go_upto_region 3 with fail
  have OV : Only (· = k) w (w.setCell ⟨k, 2, none⟩ (.bool true)) := (Only.refl _ w).set1
  have HBV : Hid (Blk (w.setCell ⟨k, 2, none⟩ (.bool true)) k 58 #[.pointer none, .slice pO out'.length cO, .bool true]) := Lib.hid (HBK.out.set 2 (.bool true))
  have HRV := Lib.hid (owns_only HRW.out OV (owns_ne HRW.out HBK.out (by decide)))
  have HOV : Hid (OnW B k w (w.setCell ⟨k, 2, none⟩ (.bool true))) := Lib.hid (OV.mono fun j _ e => .inl e)
  have y1 := HOV.out.cell HG.out hx
  have HAV := Lib.hid (HG.out.onW HOV.out (World.block_lt_of_cell? _ _ hx))
  have HBS : Hid (B ≤ ((w.setCell ⟨k, 2, none⟩ (.bool true))).heap.size) := Lib.hid (Nat.le_trans HB.out OV.size)
  clear OV c0 c1 c2 cf hx
  generalize (w.setCell ⟨k, 2, none⟩ (.bool true)) = V at *
  have HI0 : Hid (PutI V B k g o (.slice pO out'.length cO) true (.int .i64 x) V) := Lib.hid ⟨HBV.out, y1, OnW.refl _ _ _, HAV.out⟩
  have HROW : Hid (V.drew.ownsRow B 5 1 (.slice pO out'.length cO) out'.length (Lib.byteCells out') ∧ B ≤ V.drew.heap.size) := Lib.hid ⟨HRV.out, HBS.out⟩
  have HLT : Hid (∀ j, (Value.slice pO out'.length cO).ownBlock = some j → j < V.heap.size) := Lib.hid fun j hj => (owns_type HRV.out hj).choose_spec.2.2
  clear y1
  refine Reg.wp_rely 14 (PutI V B k g o (.slice pO out'.length cO) true (.int .i64 x)) (by kernel_rfl) (Reg.relyOk_of (by kernel_rfl)) HI0.out.drew (fun w w' h hI => hI.below h) ?_
  refine Reg.rely_plain (.pointer (some ⟨k, 0, none⟩)) rfl (fun a w hI hF => by
    have f1 : a.tmps.getD 0 undef = .pointer (some ⟨k, 0, none⟩) := hF 0 (Reg.looksB (by kernel_rfl))
    clear hF hI
    simp only [Array.getD_eq_getD_getElem?] at f1
    simp only [execOp]; go_simp) ?_
  refine Reg.rely_plain (.pointer (some ⟨k, 0, none⟩)) rfl (fun a w hI hF => by
    have f1 : a.tmps.getD 0 undef = .pointer (some ⟨k, 0, none⟩) := hF 0 (Reg.looksB (by kernel_rfl))
    clear hF hI
    simp only [Array.getD_eq_getD_getElem?] at f1
    simp only [execOp]; go_simp) ?_
  refine Reg.rely_plain (.pointer (some ⟨k, 0, none⟩)) rfl (fun a w hI hF => by
    have f1 : a.tmps.getD 42 undef = .pointer (some ⟨k, 0, none⟩) := hF 42 (Reg.looksB (by kernel_rfl))
    clear hF hI
    simp only [Array.getD_eq_getD_getElem?] at f1
    simp only [execOp]; go_simp) ?_
  refine Reg.rely_plain (.pointer (some ⟨k, 1, none⟩)) rfl (fun a w hI hF => by
    have f1 : a.tmps.getD 43 undef = .pointer (some ⟨k, 0, none⟩) := hF 43 (Reg.looksB (by kernel_rfl))
    clear hF hI
    simp only [Array.getD_eq_getD_getElem?] at f1
    simp only [execOp]; go_simp) ?_
  refine Reg.rely_plain (.slice pO out'.length cO) rfl (fun a w hI hF => by
    have f1 : a.tmps.getD 44 undef = .pointer (some ⟨k, 1, none⟩) := hF 44 (Reg.looksB (by kernel_rfl))
    have hc : w.cell? ⟨k, 1, none⟩ = some (.slice pO out'.length cO) := by rw [hI.kb.cell 1]; rfl
    clear hF hI
    simp only [Array.getD_eq_getD_getElem?] at f1
    simp only [execOp]; go_simp) ?_
  refine Reg.rely_plain (.pointer (some ⟨g, o, none⟩)) rfl (fun a w hI hF => by
    have f1 : a.tmps.getD 1 undef = .pointer (some ⟨g, o, none⟩) := hF 1 (Reg.looksB (by kernel_rfl))
    clear hF hI
    simp only [Array.getD_eq_getD_getElem?] at f1
    simp only [execOp]; go_simp) ?_
  refine Reg.rely_plain (.pointer (some ⟨g, o, none⟩)) rfl (fun a w hI hF => by
    have f1 : a.tmps.getD 46 undef = .pointer (some ⟨g, o, none⟩) := hF 46 (Reg.looksB (by kernel_rfl))
    clear hF hI
    simp only [Array.getD_eq_getD_getElem?] at f1
    simp only [execOp]; go_simp) ?_
  refine Reg.rely_plain (.int .i64 x) rfl (fun a w hI hF => by
    have f1 : a.tmps.getD 47 undef = .pointer (some ⟨g, o, none⟩) := hF 47 (Reg.looksB (by kernel_rfl))
    have hc := hI.cell
    clear hF hI
    simp only [Array.getD_eq_getD_getElem?] at f1
    simp only [execOp]; go_simp) ?_
  refine Reg.rely_plain (.int .u64 y) rfl (fun a w hI hF => by
    have f1 : a.tmps.getD 48 undef = .int .i64 x := hF 48 (Reg.looksB (by kernel_rfl))
    clear hF hI
    simp only [Array.getD_eq_getD_getElem?] at f1
    simp only [execOp]; go_simp) ?_
  refine Reg.rely_rel (fun v w => ∃ gl, v = .slice (some ⟨gl, 0, none⟩) 1 1 ∧ V.heap.size ≤ gl ∧ Blk w gl 22 #[.int .u64 y]) (fun v w w' h hS => by obtain ⟨gl, h1, h2, h3⟩ := hS; exact ⟨gl, h1, h2, h3.below h⟩) (fun G hG => by cases hG) rfl (fun a w hI hF => by
   have f1 : a.tmps.getD 49 undef = .int .u64 y := hF 49 (Reg.looksB (by kernel_rfl))
   have hK := Lib.hid (Blk.new w 22 #[.int .u64 y])
   have hQ := Lib.hid hI.on.size
   have hW := Lib.hid (show Reg.Grow w (w.alloc (.cells #[.int .u64 y] 22)) from (Below.refl _ w).alloc (Nat.le_refl _) _)
   clear hF hI
   simp only [Array.getD_eq_getD_getElem?] at f1
   unfold Oper.wp
   simp only [execOp]
   go_simp
   exact ⟨_, rfl, ⟨_, rfl, hQ.out, hK.out⟩, hW.out⟩) ?_
  refine Reg.rely_call0 (Reg.Is (.string (Num.lebS y))) (Reg.stab_is _ _) (fun G hG => by cases hG) rfl (fun a w hI hF => by
   obtain ⟨gl, f1, hg1, hgl⟩ : ∃ gl, a.tmps.getD 50 undef = .slice (some ⟨gl, 0, none⟩) 1 1 ∧ V.heap.size ≤ gl ∧ Blk w gl 22 #[.int .u64 y] := hF 50 (Reg.looksB (by kernel_rfl))
   refine ⟨64, #[.slice (some ⟨gl, 0, none⟩) 1 1], ?_, (HW.out w gl hgl).mono fun e w' h => ⟨_, h.1, rfl, h.2⟩⟩
   clear hF hI hgl hg1
   simp only [Array.getD_eq_getD_getElem?] at f1
   simp only [execOp]; go_simp) ?_
  refine Reg.rely_turn (fun v w => w.ownsRow B 5 1 v (out' ++ Ms.bl (Num.lebS y)).length (Lib.byteCells (out' ++ Ms.bl (Num.lebS y)))) (PutG V.heap.size B (.slice pO out'.length cO)) (fun w => w.ownsRow B 5 1 (.slice pO out'.length cO) out'.length (Lib.byteCells out') ∧ B ≤ w.heap.size) (fun v w w' h hS => owns_below hS h) (fun G hG => by cases hG) (fun w w' h hI => hI.turn h) ?_ rfl (fun w w' h hJ => ⟨owns_below hJ.1 h, Nat.le_trans hJ.2 h.size⟩) ⟨HROW.out.1, HROW.out.2⟩ (fun G hG => by cases hG) (fun G hG => by cases hG) (fun a w hI hJ hF => ?_) ?_
  ·intro p hp
   repeat (rcases List.mem_cons.1 hp with rfl | hp; first | exact Reg.stab_is _ _ | exact fun v w w' h hS => by obtain ⟨gl, h1, h2, h3⟩ := hS; exact ⟨gl, h1, h2, h.keep h2 h3⟩)
   cases hp
  ·have f1 : a.tmps.getD 45 undef = .slice pO out'.length cO := hF 45 (Reg.looksB (by kernel_rfl))
   have f2 : a.tmps.getD 51 undef = .string (Num.lebS y) := hF 51 (Reg.looksB (by kernel_rfl))
   exact putRun (t := 48) (u := 9) (sl := .tmp 45) (x := .tmp 51) rfl Tryz.underlying48 Tryz.underlying9 info_u8 rfl f1 f2 hJ.1 HLEN.out hJ.2 HLT.out
  refine Reg.rely_is (.pointer (some ⟨k, 0, none⟩)) (fun a w hI hF => Reg.det_plain rfl ?_) ?_
  ·have f1 : a.tmps.getD 41 undef = .pointer (some ⟨k, 0, none⟩) := hF 41 (Reg.looksB (by kernel_rfl))
   clear hF hI
   simp only [Array.getD_eq_getD_getElem?] at f1
   simp only [execOp]; go_simp
  refine Reg.rely_is (.pointer (some ⟨k, 1, none⟩)) (fun a w hI hF => Reg.det_plain rfl ?_) ?_
  ·have f1 : a.tmps.getD 53 undef = .pointer (some ⟨k, 0, none⟩) := hF 53 (Reg.looksB (by kernel_rfl))
   clear hF hI
   simp only [Array.getD_eq_getD_getElem?] at f1
   simp only [execOp]; go_simp
  refine Reg.rely_nil ?_
  refine Reg.final_is ?_
  refine Reg.final_is ?_
  refine Reg.final_rel (fun v11 => ?_)
  refine Reg.final_is ?_
  refine Reg.final_rel (fun v9 => ?_)
  refine Reg.final_is ?_
  refine Reg.final_is ?_
  refine Reg.final_is ?_
  refine Reg.final_is ?_
  refine Reg.final_is ?_
  refine Reg.final_is ?_
  refine Reg.final_is ?_
  refine Reg.final_is ?_
  refine Reg.final_is ?_
  refine Reg.final_nil (fun w9 hF => ?_)
  have HI9 := Lib.hid hF.1.1
  have HS9 := Lib.hid hF.1.2
  clear hF
  simp only [List.drop_succ_cons, List.drop_zero]
  go_simp
  have d1 : w9.cell? ⟨k, 1, none⟩ = some (.slice pO out'.length cO) := by rw [HI9.out.kb.cell 1]; rfl
  have f1 := HI9.out.kb.frozen 1
  obtain ⟨p9, c9, rfl⟩ := owns_slice HS9.out
  go_wp2_with fail
  refine Reg.fin (by kernel_rfl) ?_
  go_wp2_with fail
  go_end0
  have hkw := KWr.put2 HI9.out.kb HGE.out HS9.out
  simp only [List.length_append] at hkw
  exact ⟨rfl, HFB.out hkw.1, HOV.out.trans (HI9.out.on.trans hkw.2)⟩
 | false =>
  by_cases hx0 : x < 0
  ·have hbt : bb = true := by rw [← hbb]; unfold nb; rw [decide_eq_true hx0]; rfl
   clear hbb
   subst hbt
   go_enter Tryz.func86, Tryz.ntmps86
   go_upto_region 3 with fail
   have OV : Only (· = k) w (w.setCell ⟨k, 2, none⟩ (.bool true)) := (Only.refl _ w).set1
   have HBV : Hid (Blk (w.setCell ⟨k, 2, none⟩ (.bool true)) k 58 #[.pointer none, .slice pO out'.length cO, .bool true]) := Lib.hid (HBK.out.set 2 (.bool true))
   have HRV := Lib.hid (owns_only HRW.out OV (owns_ne HRW.out HBK.out (by decide)))
   have HOV : Hid (OnW B k w (w.setCell ⟨k, 2, none⟩ (.bool true))) := Lib.hid (OV.mono fun j _ e => .inl e)
   have y1 := HOV.out.cell HG.out hx
   have HAV := Lib.hid (HG.out.onW HOV.out (World.block_lt_of_cell? _ _ hx))
   have HBS : Hid (B ≤ ((w.setCell ⟨k, 2, none⟩ (.bool true))).heap.size) := Lib.hid (Nat.le_trans HB.out OV.size)
   clear OV c0 c1 c2 cf hx
   generalize (w.setCell ⟨k, 2, none⟩ (.bool true)) = V at *
   have HI0 : Hid (PutI V B k g o (.slice pO out'.length cO) true (.int .i64 x) V) := Lib.hid ⟨HBV.out, y1, OnW.refl _ _ _, HAV.out⟩
   have HROW : Hid (V.drew.ownsRow B 5 1 (.slice pO out'.length cO) out'.length (Lib.byteCells out') ∧ B ≤ V.drew.heap.size) := Lib.hid ⟨HRV.out, HBS.out⟩
   have HLT : Hid (∀ j, (Value.slice pO out'.length cO).ownBlock = some j → j < V.heap.size) := Lib.hid fun j hj => (owns_type HRV.out hj).choose_spec.2.2
   clear y1
   refine Reg.wp_rely 14 (PutI V B k g o (.slice pO out'.length cO) true (.int .i64 x)) (by kernel_rfl) (Reg.relyOk_of (by kernel_rfl)) HI0.out.drew (fun w w' h hI => hI.below h) ?_
   refine Reg.rely_plain (.pointer (some ⟨k, 0, none⟩)) rfl (fun a w hI hF => by
     have f1 : a.tmps.getD 0 undef = .pointer (some ⟨k, 0, none⟩) := hF 0 (Reg.looksB (by kernel_rfl))
     clear hF hI
     simp only [Array.getD_eq_getD_getElem?] at f1
     simp only [execOp]; go_simp) ?_
   refine Reg.rely_plain (.pointer (some ⟨k, 0, none⟩)) rfl (fun a w hI hF => by
     have f1 : a.tmps.getD 0 undef = .pointer (some ⟨k, 0, none⟩) := hF 0 (Reg.looksB (by kernel_rfl))
     clear hF hI
     simp only [Array.getD_eq_getD_getElem?] at f1
     simp only [execOp]; go_simp) ?_
   refine Reg.rely_plain (.pointer (some ⟨k, 0, none⟩)) rfl (fun a w hI hF => by
     have f1 : a.tmps.getD 42 undef = .pointer (some ⟨k, 0, none⟩) := hF 42 (Reg.looksB (by kernel_rfl))
     clear hF hI
     simp only [Array.getD_eq_getD_getElem?] at f1
     simp only [execOp]; go_simp) ?_
   refine Reg.rely_plain (.pointer (some ⟨k, 1, none⟩)) rfl (fun a w hI hF => by
     have f1 : a.tmps.getD 43 undef = .pointer (some ⟨k, 0, none⟩) := hF 43 (Reg.looksB (by kernel_rfl))
     clear hF hI
     simp only [Array.getD_eq_getD_getElem?] at f1
     simp only [execOp]; go_simp) ?_
   refine Reg.rely_plain (.slice pO out'.length cO) rfl (fun a w hI hF => by
     have f1 : a.tmps.getD 44 undef = .pointer (some ⟨k, 1, none⟩) := hF 44 (Reg.looksB (by kernel_rfl))
     have hc : w.cell? ⟨k, 1, none⟩ = some (.slice pO out'.length cO) := by rw [hI.kb.cell 1]; rfl
     clear hF hI
     simp only [Array.getD_eq_getD_getElem?] at f1
     simp only [execOp]; go_simp) ?_
   refine Reg.rely_plain (.pointer (some ⟨g, o, none⟩)) rfl (fun a w hI hF => by
     have f1 : a.tmps.getD 1 undef = .pointer (some ⟨g, o, none⟩) := hF 1 (Reg.looksB (by kernel_rfl))
     clear hF hI
     simp only [Array.getD_eq_getD_getElem?] at f1
     simp only [execOp]; go_simp) ?_
   refine Reg.rely_plain (.pointer (some ⟨g, o, none⟩)) rfl (fun a w hI hF => by
     have f1 : a.tmps.getD 46 undef = .pointer (some ⟨g, o, none⟩) := hF 46 (Reg.looksB (by kernel_rfl))
     clear hF hI
     simp only [Array.getD_eq_getD_getElem?] at f1
     simp only [execOp]; go_simp) ?_
   refine Reg.rely_plain (.int .i64 x) rfl (fun a w hI hF => by
     have f1 : a.tmps.getD 47 undef = .pointer (some ⟨g, o, none⟩) := hF 47 (Reg.looksB (by kernel_rfl))
     have hc := hI.cell
     clear hF hI
     simp only [Array.getD_eq_getD_getElem?] at f1
     simp only [execOp]; go_simp) ?_
   refine Reg.rely_plain (.int .u64 y) rfl (fun a w hI hF => by
     have f1 : a.tmps.getD 48 undef = .int .i64 x := hF 48 (Reg.looksB (by kernel_rfl))
     clear hF hI
     simp only [Array.getD_eq_getD_getElem?] at f1
     simp only [execOp]; go_simp) ?_
   refine Reg.rely_rel (fun v w => ∃ gl, v = .slice (some ⟨gl, 0, none⟩) 1 1 ∧ V.heap.size ≤ gl ∧ Blk w gl 22 #[.int .u64 y]) (fun v w w' h hS => by obtain ⟨gl, h1, h2, h3⟩ := hS; exact ⟨gl, h1, h2, h3.below h⟩) (fun G hG => by cases hG) rfl (fun a w hI hF => by
    have f1 : a.tmps.getD 49 undef = .int .u64 y := hF 49 (Reg.looksB (by kernel_rfl))
    have hK := Lib.hid (Blk.new w 22 #[.int .u64 y])
    have hQ := Lib.hid hI.on.size
    have hW := Lib.hid (show Reg.Grow w (w.alloc (.cells #[.int .u64 y] 22)) from (Below.refl _ w).alloc (Nat.le_refl _) _)
    clear hF hI
    simp only [Array.getD_eq_getD_getElem?] at f1
    unfold Oper.wp
    simp only [execOp]
    go_simp
    exact ⟨_, rfl, ⟨_, rfl, hQ.out, hK.out⟩, hW.out⟩) ?_
   refine Reg.rely_call0 (Reg.Is (.string (Num.lebS y))) (Reg.stab_is _ _) (fun G hG => by cases hG) rfl (fun a w hI hF => by
    obtain ⟨gl, f1, hg1, hgl⟩ : ∃ gl, a.tmps.getD 50 undef = .slice (some ⟨gl, 0, none⟩) 1 1 ∧ V.heap.size ≤ gl ∧ Blk w gl 22 #[.int .u64 y] := hF 50 (Reg.looksB (by kernel_rfl))
    refine ⟨64, #[.slice (some ⟨gl, 0, none⟩) 1 1], ?_, (HW.out w gl hgl).mono fun e w' h => ⟨_, h.1, rfl, h.2⟩⟩
    clear hF hI hgl hg1
    simp only [Array.getD_eq_getD_getElem?] at f1
    simp only [execOp]; go_simp) ?_
   refine Reg.rely_turn (fun v w => w.ownsRow B 5 1 v (out' ++ Ms.bl (Num.lebS y)).length (Lib.byteCells (out' ++ Ms.bl (Num.lebS y)))) (PutG V.heap.size B (.slice pO out'.length cO)) (fun w => w.ownsRow B 5 1 (.slice pO out'.length cO) out'.length (Lib.byteCells out') ∧ B ≤ w.heap.size) (fun v w w' h hS => owns_below hS h) (fun G hG => by cases hG) (fun w w' h hI => hI.turn h) ?_ rfl (fun w w' h hJ => ⟨owns_below hJ.1 h, Nat.le_trans hJ.2 h.size⟩) ⟨HROW.out.1, HROW.out.2⟩ (fun G hG => by cases hG) (fun G hG => by cases hG) (fun a w hI hJ hF => ?_) ?_
   ·intro p hp
    repeat (rcases List.mem_cons.1 hp with rfl | hp; first | exact Reg.stab_is _ _ | exact fun v w w' h hS => by obtain ⟨gl, h1, h2, h3⟩ := hS; exact ⟨gl, h1, h2, h.keep h2 h3⟩)
    cases hp
   ·have f1 : a.tmps.getD 45 undef = .slice pO out'.length cO := hF 45 (Reg.looksB (by kernel_rfl))
    have f2 : a.tmps.getD 51 undef = .string (Num.lebS y) := hF 51 (Reg.looksB (by kernel_rfl))
    exact putRun (t := 48) (u := 9) (sl := .tmp 45) (x := .tmp 51) rfl Tryz.underlying48 Tryz.underlying9 info_u8 rfl f1 f2 hJ.1 HLEN.out hJ.2 HLT.out
   refine Reg.rely_is (.pointer (some ⟨k, 0, none⟩)) (fun a w hI hF => Reg.det_plain rfl ?_) ?_
   ·have f1 : a.tmps.getD 41 undef = .pointer (some ⟨k, 0, none⟩) := hF 41 (Reg.looksB (by kernel_rfl))
    clear hF hI
    simp only [Array.getD_eq_getD_getElem?] at f1
    simp only [execOp]; go_simp
   refine Reg.rely_is (.pointer (some ⟨k, 1, none⟩)) (fun a w hI hF => Reg.det_plain rfl ?_) ?_
   ·have f1 : a.tmps.getD 53 undef = .pointer (some ⟨k, 0, none⟩) := hF 53 (Reg.looksB (by kernel_rfl))
    clear hF hI
    simp only [Array.getD_eq_getD_getElem?] at f1
    simp only [execOp]; go_simp
   refine Reg.rely_nil ?_
   refine Reg.final_is ?_
   refine Reg.final_is ?_
   refine Reg.final_rel (fun v11 => ?_)
   refine Reg.final_is ?_
   refine Reg.final_rel (fun v9 => ?_)
   refine Reg.final_is ?_
   refine Reg.final_is ?_
   refine Reg.final_is ?_
   refine Reg.final_is ?_
   refine Reg.final_is ?_
   refine Reg.final_is ?_
   refine Reg.final_is ?_
   refine Reg.final_is ?_
   refine Reg.final_is ?_
   refine Reg.final_nil (fun w9 hF => ?_)
   have HI9 := Lib.hid hF.1.1
   have HS9 := Lib.hid hF.1.2
   clear hF
   simp only [List.drop_succ_cons, List.drop_zero]
   go_simp
   have d1 : w9.cell? ⟨k, 1, none⟩ = some (.slice pO out'.length cO) := by rw [HI9.out.kb.cell 1]; rfl
   have f1 := HI9.out.kb.frozen 1
   obtain ⟨p9, c9, rfl⟩ := owns_slice HS9.out
   go_wp2_with fail
   refine Reg.fin (by kernel_rfl) ?_
   go_wp2_with fail
   go_end0
   have hkw := KWr.put2 HI9.out.kb HGE.out HS9.out
   simp only [List.length_append] at hkw
   exact ⟨rfl, HFB.out hkw.1, HOV.out.trans (HI9.out.on.trans hkw.2)⟩
  ·have hbb2 : decide (most < y) = bb := by rw [← hbb, HY.out.2 (by omega)]; unfold nb; rw [decide_eq_false hx0]; rfl
   clear hbb
   go_enter Tryz.func86, Tryz.ntmps86
   go_upto_region 3 with fail
   have OV : Only (· = k) w (w.setCell ⟨k, 2, none⟩ (.bool bb)) := (Only.refl _ w).set1
   have HBV : Hid (Blk (w.setCell ⟨k, 2, none⟩ (.bool bb)) k 58 #[.pointer none, .slice pO out'.length cO, .bool bb]) := Lib.hid (HBK.out.set 2 (.bool bb))
   have HRV := Lib.hid (owns_only HRW.out OV (owns_ne HRW.out HBK.out (by decide)))
   have HOV : Hid (OnW B k w (w.setCell ⟨k, 2, none⟩ (.bool bb))) := Lib.hid (OV.mono fun j _ e => .inl e)
   have y1 := HOV.out.cell HG.out hx
   have HAV := Lib.hid (HG.out.onW HOV.out (World.block_lt_of_cell? _ _ hx))
   have HBS : Hid (B ≤ ((w.setCell ⟨k, 2, none⟩ (.bool bb))).heap.size) := Lib.hid (Nat.le_trans HB.out OV.size)
   clear OV c0 c1 c2 cf hx
   generalize (w.setCell ⟨k, 2, none⟩ (.bool bb)) = V at *
   have HI0 : Hid (PutI V B k g o (.slice pO out'.length cO) bb (.int .i64 x) V) := Lib.hid ⟨HBV.out, y1, OnW.refl _ _ _, HAV.out⟩
   have HROW : Hid (V.drew.ownsRow B 5 1 (.slice pO out'.length cO) out'.length (Lib.byteCells out') ∧ B ≤ V.drew.heap.size) := Lib.hid ⟨HRV.out, HBS.out⟩
   have HLT : Hid (∀ j, (Value.slice pO out'.length cO).ownBlock = some j → j < V.heap.size) := Lib.hid fun j hj => (owns_type HRV.out hj).choose_spec.2.2
   clear y1
   refine Reg.wp_rely 14 (PutI V B k g o (.slice pO out'.length cO) bb (.int .i64 x)) (by kernel_rfl) (Reg.relyOk_of (by kernel_rfl)) HI0.out.drew (fun w w' h hI => hI.below h) ?_
   refine Reg.rely_plain (.pointer (some ⟨k, 0, none⟩)) rfl (fun a w hI hF => by
     have f1 : a.tmps.getD 0 undef = .pointer (some ⟨k, 0, none⟩) := hF 0 (Reg.looksB (by kernel_rfl))
     clear hF hI
     simp only [Array.getD_eq_getD_getElem?] at f1
     simp only [execOp]; go_simp) ?_
   refine Reg.rely_plain (.pointer (some ⟨k, 0, none⟩)) rfl (fun a w hI hF => by
     have f1 : a.tmps.getD 0 undef = .pointer (some ⟨k, 0, none⟩) := hF 0 (Reg.looksB (by kernel_rfl))
     clear hF hI
     simp only [Array.getD_eq_getD_getElem?] at f1
     simp only [execOp]; go_simp) ?_
   refine Reg.rely_plain (.pointer (some ⟨k, 0, none⟩)) rfl (fun a w hI hF => by
     have f1 : a.tmps.getD 42 undef = .pointer (some ⟨k, 0, none⟩) := hF 42 (Reg.looksB (by kernel_rfl))
     clear hF hI
     simp only [Array.getD_eq_getD_getElem?] at f1
     simp only [execOp]; go_simp) ?_
   refine Reg.rely_plain (.pointer (some ⟨k, 1, none⟩)) rfl (fun a w hI hF => by
     have f1 : a.tmps.getD 43 undef = .pointer (some ⟨k, 0, none⟩) := hF 43 (Reg.looksB (by kernel_rfl))
     clear hF hI
     simp only [Array.getD_eq_getD_getElem?] at f1
     simp only [execOp]; go_simp) ?_
   refine Reg.rely_plain (.slice pO out'.length cO) rfl (fun a w hI hF => by
     have f1 : a.tmps.getD 44 undef = .pointer (some ⟨k, 1, none⟩) := hF 44 (Reg.looksB (by kernel_rfl))
     have hc : w.cell? ⟨k, 1, none⟩ = some (.slice pO out'.length cO) := by rw [hI.kb.cell 1]; rfl
     clear hF hI
     simp only [Array.getD_eq_getD_getElem?] at f1
     simp only [execOp]; go_simp) ?_
   refine Reg.rely_plain (.pointer (some ⟨g, o, none⟩)) rfl (fun a w hI hF => by
     have f1 : a.tmps.getD 1 undef = .pointer (some ⟨g, o, none⟩) := hF 1 (Reg.looksB (by kernel_rfl))
     clear hF hI
     simp only [Array.getD_eq_getD_getElem?] at f1
     simp only [execOp]; go_simp) ?_
   refine Reg.rely_plain (.pointer (some ⟨g, o, none⟩)) rfl (fun a w hI hF => by
     have f1 : a.tmps.getD 46 undef = .pointer (some ⟨g, o, none⟩) := hF 46 (Reg.looksB (by kernel_rfl))
     clear hF hI
     simp only [Array.getD_eq_getD_getElem?] at f1
     simp only [execOp]; go_simp) ?_
   refine Reg.rely_plain (.int .i64 x) rfl (fun a w hI hF => by
     have f1 : a.tmps.getD 47 undef = .pointer (some ⟨g, o, none⟩) := hF 47 (Reg.looksB (by kernel_rfl))
     have hc := hI.cell
     clear hF hI
     simp only [Array.getD_eq_getD_getElem?] at f1
     simp only [execOp]; go_simp) ?_
   refine Reg.rely_plain (.int .u64 y) rfl (fun a w hI hF => by
     have f1 : a.tmps.getD 48 undef = .int .i64 x := hF 48 (Reg.looksB (by kernel_rfl))
     clear hF hI
     simp only [Array.getD_eq_getD_getElem?] at f1
     simp only [execOp]; go_simp) ?_
   refine Reg.rely_rel (fun v w => ∃ gl, v = .slice (some ⟨gl, 0, none⟩) 1 1 ∧ V.heap.size ≤ gl ∧ Blk w gl 22 #[.int .u64 y]) (fun v w w' h hS => by obtain ⟨gl, h1, h2, h3⟩ := hS; exact ⟨gl, h1, h2, h3.below h⟩) (fun G hG => by cases hG) rfl (fun a w hI hF => by
    have f1 : a.tmps.getD 49 undef = .int .u64 y := hF 49 (Reg.looksB (by kernel_rfl))
    have hK := Lib.hid (Blk.new w 22 #[.int .u64 y])
    have hQ := Lib.hid hI.on.size
    have hW := Lib.hid (show Reg.Grow w (w.alloc (.cells #[.int .u64 y] 22)) from (Below.refl _ w).alloc (Nat.le_refl _) _)
    clear hF hI
    simp only [Array.getD_eq_getD_getElem?] at f1
    unfold Oper.wp
    simp only [execOp]
    go_simp
    exact ⟨_, rfl, ⟨_, rfl, hQ.out, hK.out⟩, hW.out⟩) ?_
   refine Reg.rely_call0 (Reg.Is (.string (Num.lebS y))) (Reg.stab_is _ _) (fun G hG => by cases hG) rfl (fun a w hI hF => by
    obtain ⟨gl, f1, hg1, hgl⟩ : ∃ gl, a.tmps.getD 50 undef = .slice (some ⟨gl, 0, none⟩) 1 1 ∧ V.heap.size ≤ gl ∧ Blk w gl 22 #[.int .u64 y] := hF 50 (Reg.looksB (by kernel_rfl))
    refine ⟨64, #[.slice (some ⟨gl, 0, none⟩) 1 1], ?_, (HW.out w gl hgl).mono fun e w' h => ⟨_, h.1, rfl, h.2⟩⟩
    clear hF hI hgl hg1
    simp only [Array.getD_eq_getD_getElem?] at f1
    simp only [execOp]; go_simp) ?_
   refine Reg.rely_turn (fun v w => w.ownsRow B 5 1 v (out' ++ Ms.bl (Num.lebS y)).length (Lib.byteCells (out' ++ Ms.bl (Num.lebS y)))) (PutG V.heap.size B (.slice pO out'.length cO)) (fun w => w.ownsRow B 5 1 (.slice pO out'.length cO) out'.length (Lib.byteCells out') ∧ B ≤ w.heap.size) (fun v w w' h hS => owns_below hS h) (fun G hG => by cases hG) (fun w w' h hI => hI.turn h) ?_ rfl (fun w w' h hJ => ⟨owns_below hJ.1 h, Nat.le_trans hJ.2 h.size⟩) ⟨HROW.out.1, HROW.out.2⟩ (fun G hG => by cases hG) (fun G hG => by cases hG) (fun a w hI hJ hF => ?_) ?_
   ·intro p hp
    repeat (rcases List.mem_cons.1 hp with rfl | hp; first | exact Reg.stab_is _ _ | exact fun v w w' h hS => by obtain ⟨gl, h1, h2, h3⟩ := hS; exact ⟨gl, h1, h2, h.keep h2 h3⟩)
    cases hp
   ·have f1 : a.tmps.getD 45 undef = .slice pO out'.length cO := hF 45 (Reg.looksB (by kernel_rfl))
    have f2 : a.tmps.getD 51 undef = .string (Num.lebS y) := hF 51 (Reg.looksB (by kernel_rfl))
    exact putRun (t := 48) (u := 9) (sl := .tmp 45) (x := .tmp 51) rfl Tryz.underlying48 Tryz.underlying9 info_u8 rfl f1 f2 hJ.1 HLEN.out hJ.2 HLT.out
   refine Reg.rely_is (.pointer (some ⟨k, 0, none⟩)) (fun a w hI hF => Reg.det_plain rfl ?_) ?_
   ·have f1 : a.tmps.getD 41 undef = .pointer (some ⟨k, 0, none⟩) := hF 41 (Reg.looksB (by kernel_rfl))
    clear hF hI
    simp only [Array.getD_eq_getD_getElem?] at f1
    simp only [execOp]; go_simp
   refine Reg.rely_is (.pointer (some ⟨k, 1, none⟩)) (fun a w hI hF => Reg.det_plain rfl ?_) ?_
   ·have f1 : a.tmps.getD 53 undef = .pointer (some ⟨k, 0, none⟩) := hF 53 (Reg.looksB (by kernel_rfl))
    clear hF hI
    simp only [Array.getD_eq_getD_getElem?] at f1
    simp only [execOp]; go_simp
   refine Reg.rely_nil ?_
   refine Reg.final_is ?_
   refine Reg.final_is ?_
   refine Reg.final_rel (fun v11 => ?_)
   refine Reg.final_is ?_
   refine Reg.final_rel (fun v9 => ?_)
   refine Reg.final_is ?_
   refine Reg.final_is ?_
   refine Reg.final_is ?_
   refine Reg.final_is ?_
   refine Reg.final_is ?_
   refine Reg.final_is ?_
   refine Reg.final_is ?_
   refine Reg.final_is ?_
   refine Reg.final_is ?_
   refine Reg.final_nil (fun w9 hF => ?_)
   have HI9 := Lib.hid hF.1.1
   have HS9 := Lib.hid hF.1.2
   clear hF
   simp only [List.drop_succ_cons, List.drop_zero]
   go_simp
   have d1 : w9.cell? ⟨k, 1, none⟩ = some (.slice pO out'.length cO) := by rw [HI9.out.kb.cell 1]; rfl
   have f1 := HI9.out.kb.frozen 1
   obtain ⟨p9, c9, rfl⟩ := owns_slice HS9.out
   go_wp2_with fail
   refine Reg.fin (by kernel_rfl) ?_
   go_wp2_with fail
   go_end0
   have hkw := KWr.put2 HI9.out.kb HGE.out HS9.out
   simp only [List.length_append] at hkw
   exact ⟨rfl, HFB.out hkw.1, HOV.out.trans (HI9.out.on.trans hkw.2)⟩
set_option maxRecDepth 100000 in
set_option maxHeartbeats 2000000 in
theorem numw_err {x most : Int} (c : KWb w B k out bad L) (hB : B ≤ w.heap.size) (hL : L ≤ 1000000000) (hx : w.cell? ⟨g, o, none⟩ = some (.int .i64 x)) (hg : Away w B k g) (hr : I64 x) :
  Calls Tryz.prog 88 #[.pointer (some ⟨k, 0, none⟩), .pointer (some ⟨g, o, none⟩), .int .u64 most] w (WrP w B k (out ++ wU x) (bad || nb x most) (L + 10)) := by
 obtain ⟨out', c, ho, hl⟩ := c
 obtain ⟨vO, h1, h2, h3⟩ := c
 obtain ⟨pO, cO, rfl⟩ := owns_slice h2
 have c0 : w.cell? ⟨k, 0, none⟩ = some (.pointer none) := by rw [h1.cell 0]; rfl
 have c1 : w.cell? ⟨k, 1, none⟩ = some (.slice pO out'.length cO) := by rw [h1.cell 1]; rfl
 have c2 : w.cell? ⟨k, 2, none⟩ = some (.bool bad) := by rw [h1.cell 2]; rfl
 have cf := h1.frozen
 have HBK := Lib.hid h1
 have HRW := Lib.hid h2
 have HGE := Lib.hid h3
 have HG := Lib.hid hg
 have HO := Lib.hid (And.intro ho hl)
 have HL := Lib.hid hL
 have HB := Lib.hid hB
 have hyy : U64 (IntKind.u64.wrap x) ∧ (0 ≤ x → IntKind.u64.wrap x = x) := by rw [IntKind.wrap_u64]; unfold U64; unfold I64 at hr; omega
 obtain ⟨y, hy⟩ : ∃ y, IntKind.u64.wrap x = y := ⟨_, rfl⟩
 rw [hy] at hyy
 have HY := Lib.hid hyy
 obtain ⟨bb, hbb⟩ : ∃ bb, (bad || nb x most) = bb := ⟨_, rfl⟩
 rw [hbb]
 have HBB := Lib.hid hbb
 have HLEN : Hid (out'.length + (Num.lebS y).size ≤ 140737488355328) := Lib.hid (by have := lebS_size HY.out.1.2; have := HO.out.2; have := HL.out; omega)
 have HFB : Hid (∀ {W : World}, KWr W B k (out' ++ Ms.bl (Num.lebS y)) bb → KWb W B k (out ++ wU x) bb (L + 10)) := Lib.hid fun h => KWr.kwb h HO.out.1 HO.out.2 (fun e => by
  have h := HBB.out
  rw [e, Bool.or_eq_false_iff] at h
  have h0 := (nb_false.1 h.2).1
  refine ⟨h.1, ?_⟩
  rw [Ms.bl_leb, HY.out.2 h0]
  rfl) (by rw [Ms.bl_len]; exact lebS_size HY.out.1.2)
 have HW : Hid (∀ (w : World) gl, Blk w gl 22 #[.int .u64 y] → Calls Tryz.prog 64 #[.slice (some ⟨gl, 0, none⟩) 1 1] w (StPost (Num.lebS y) w)) := Lib.hid fun w gl h => uintsB HY.out.1 h
 clear h1 h2 h3 hg ho hl hL hB hyy hr
 cases bad with
 | true =>
  have hbt : bb = true := by rw [← hbb]; rfl
  clear hbb
  subst hbt
  go_enter Tryz.func88, Tryz.ntmps88
  go_upto_region 3 with fail
  have OV : Only (· = k) w (w.setCell ⟨k, 2, none⟩ (.bool true)) := (Only.refl _ w).set1
  have HBV : Hid (Blk (w.setCell ⟨k, 2, none⟩ (.bool true)) k 58 #[.pointer none, .slice pO out'.length cO, .bool true]) := Lib.hid (HBK.out.set 2 (.bool true))
  have HRV := Lib.hid (owns_only HRW.out OV (owns_ne HRW.out HBK.out (by decide)))
  have HOV : Hid (OnW B k w (w.setCell ⟨k, 2, none⟩ (.bool true))) := Lib.hid (OV.mono fun j _ e => .inl e)
  have y1 := HOV.out.cell HG.out hx
  have HAV := Lib.hid (HG.out.onW HOV.out (World.block_lt_of_cell? _ _ hx))
  have HBS : Hid (B ≤ ((w.setCell ⟨k, 2, none⟩ (.bool true))).heap.size) := Lib.hid (Nat.le_trans HB.out OV.size)
  clear OV c0 c1 c2 cf hx
  generalize (w.setCell ⟨k, 2, none⟩ (.bool true)) = V at *
  have HI0 : Hid (PutI V B k g o (.slice pO out'.length cO) true (.int .i64 x) V) := Lib.hid ⟨HBV.out, y1, OnW.refl _ _ _, HAV.out⟩
  have HROW : Hid (V.drew.ownsRow B 5 1 (.slice pO out'.length cO) out'.length (Lib.byteCells out') ∧ B ≤ V.drew.heap.size) := Lib.hid ⟨HRV.out, HBS.out⟩
  have HLT : Hid (∀ j, (Value.slice pO out'.length cO).ownBlock = some j → j < V.heap.size) := Lib.hid fun j hj => (owns_type HRV.out hj).choose_spec.2.2
  clear y1
  refine Reg.wp_rely 14 (PutI V B k g o (.slice pO out'.length cO) true (.int .i64 x)) (by kernel_rfl) (Reg.relyOk_of (by kernel_rfl)) HI0.out.drew (fun w w' h hI => hI.below h) ?_
  refine Reg.rely_plain (.pointer (some ⟨k, 0, none⟩)) rfl (fun a w hI hF => by
    have f1 : a.tmps.getD 0 undef = .pointer (some ⟨k, 0, none⟩) := hF 0 (Reg.looksB (by kernel_rfl))
    clear hF hI
    simp only [Array.getD_eq_getD_getElem?] at f1
    simp only [execOp]; go_simp) ?_
  refine Reg.rely_plain (.pointer (some ⟨k, 0, none⟩)) rfl (fun a w hI hF => by
    have f1 : a.tmps.getD 0 undef = .pointer (some ⟨k, 0, none⟩) := hF 0 (Reg.looksB (by kernel_rfl))
    clear hF hI
    simp only [Array.getD_eq_getD_getElem?] at f1
    simp only [execOp]; go_simp) ?_
  refine Reg.rely_plain (.pointer (some ⟨k, 0, none⟩)) rfl (fun a w hI hF => by
    have f1 : a.tmps.getD 42 undef = .pointer (some ⟨k, 0, none⟩) := hF 42 (Reg.looksB (by kernel_rfl))
    clear hF hI
    simp only [Array.getD_eq_getD_getElem?] at f1
    simp only [execOp]; go_simp) ?_
  refine Reg.rely_plain (.pointer (some ⟨k, 1, none⟩)) rfl (fun a w hI hF => by
    have f1 : a.tmps.getD 43 undef = .pointer (some ⟨k, 0, none⟩) := hF 43 (Reg.looksB (by kernel_rfl))
    clear hF hI
    simp only [Array.getD_eq_getD_getElem?] at f1
    simp only [execOp]; go_simp) ?_
  refine Reg.rely_plain (.slice pO out'.length cO) rfl (fun a w hI hF => by
    have f1 : a.tmps.getD 44 undef = .pointer (some ⟨k, 1, none⟩) := hF 44 (Reg.looksB (by kernel_rfl))
    have hc : w.cell? ⟨k, 1, none⟩ = some (.slice pO out'.length cO) := by rw [hI.kb.cell 1]; rfl
    clear hF hI
    simp only [Array.getD_eq_getD_getElem?] at f1
    simp only [execOp]; go_simp) ?_
  refine Reg.rely_plain (.pointer (some ⟨g, o, none⟩)) rfl (fun a w hI hF => by
    have f1 : a.tmps.getD 1 undef = .pointer (some ⟨g, o, none⟩) := hF 1 (Reg.looksB (by kernel_rfl))
    clear hF hI
    simp only [Array.getD_eq_getD_getElem?] at f1
    simp only [execOp]; go_simp) ?_
  refine Reg.rely_plain (.pointer (some ⟨g, o, none⟩)) rfl (fun a w hI hF => by
    have f1 : a.tmps.getD 46 undef = .pointer (some ⟨g, o, none⟩) := hF 46 (Reg.looksB (by kernel_rfl))
    clear hF hI
    simp only [Array.getD_eq_getD_getElem?] at f1
    simp only [execOp]; go_simp) ?_
  refine Reg.rely_plain (.int .i64 x) rfl (fun a w hI hF => by
    have f1 : a.tmps.getD 47 undef = .pointer (some ⟨g, o, none⟩) := hF 47 (Reg.looksB (by kernel_rfl))
    have hc := hI.cell
    clear hF hI
    simp only [Array.getD_eq_getD_getElem?] at f1
    simp only [execOp]; go_simp) ?_
  refine Reg.rely_plain (.int .u64 y) rfl (fun a w hI hF => by
    have f1 : a.tmps.getD 48 undef = .int .i64 x := hF 48 (Reg.looksB (by kernel_rfl))
    clear hF hI
    simp only [Array.getD_eq_getD_getElem?] at f1
    simp only [execOp]; go_simp) ?_
  refine Reg.rely_rel (fun v w => ∃ gl, v = .slice (some ⟨gl, 0, none⟩) 1 1 ∧ V.heap.size ≤ gl ∧ Blk w gl 22 #[.int .u64 y]) (fun v w w' h hS => by obtain ⟨gl, h1, h2, h3⟩ := hS; exact ⟨gl, h1, h2, h3.below h⟩) (fun G hG => by cases hG) rfl (fun a w hI hF => by
   have f1 : a.tmps.getD 49 undef = .int .u64 y := hF 49 (Reg.looksB (by kernel_rfl))
   have hK := Lib.hid (Blk.new w 22 #[.int .u64 y])
   have hQ := Lib.hid hI.on.size
   have hW := Lib.hid (show Reg.Grow w (w.alloc (.cells #[.int .u64 y] 22)) from (Below.refl _ w).alloc (Nat.le_refl _) _)
   clear hF hI
   simp only [Array.getD_eq_getD_getElem?] at f1
   unfold Oper.wp
   simp only [execOp]
   go_simp
   exact ⟨_, rfl, ⟨_, rfl, hQ.out, hK.out⟩, hW.out⟩) ?_
  refine Reg.rely_call0 (Reg.Is (.string (Num.lebS y))) (Reg.stab_is _ _) (fun G hG => by cases hG) rfl (fun a w hI hF => by
   obtain ⟨gl, f1, hg1, hgl⟩ : ∃ gl, a.tmps.getD 50 undef = .slice (some ⟨gl, 0, none⟩) 1 1 ∧ V.heap.size ≤ gl ∧ Blk w gl 22 #[.int .u64 y] := hF 50 (Reg.looksB (by kernel_rfl))
   refine ⟨64, #[.slice (some ⟨gl, 0, none⟩) 1 1], ?_, (HW.out w gl hgl).mono fun e w' h => ⟨_, h.1, rfl, h.2⟩⟩
   clear hF hI hgl hg1
   simp only [Array.getD_eq_getD_getElem?] at f1
   simp only [execOp]; go_simp) ?_
  refine Reg.rely_turn (fun v w => w.ownsRow B 5 1 v (out' ++ Ms.bl (Num.lebS y)).length (Lib.byteCells (out' ++ Ms.bl (Num.lebS y)))) (PutG V.heap.size B (.slice pO out'.length cO)) (fun w => w.ownsRow B 5 1 (.slice pO out'.length cO) out'.length (Lib.byteCells out') ∧ B ≤ w.heap.size) (fun v w w' h hS => owns_below hS h) (fun G hG => by cases hG) (fun w w' h hI => hI.turn h) ?_ rfl (fun w w' h hJ => ⟨owns_below hJ.1 h, Nat.le_trans hJ.2 h.size⟩) ⟨HROW.out.1, HROW.out.2⟩ (fun G hG => by cases hG) (fun G hG => by cases hG) (fun a w hI hJ hF => ?_) ?_
  ·intro p hp
   repeat (rcases List.mem_cons.1 hp with rfl | hp; first | exact Reg.stab_is _ _ | exact fun v w w' h hS => by obtain ⟨gl, h1, h2, h3⟩ := hS; exact ⟨gl, h1, h2, h.keep h2 h3⟩)
   cases hp
  ·have f1 : a.tmps.getD 45 undef = .slice pO out'.length cO := hF 45 (Reg.looksB (by kernel_rfl))
   have f2 : a.tmps.getD 51 undef = .string (Num.lebS y) := hF 51 (Reg.looksB (by kernel_rfl))
   exact putRun (t := 48) (u := 9) (sl := .tmp 45) (x := .tmp 51) rfl Tryz.underlying48 Tryz.underlying9 info_u8 rfl f1 f2 hJ.1 HLEN.out hJ.2 HLT.out
  refine Reg.rely_is (.pointer (some ⟨k, 0, none⟩)) (fun a w hI hF => Reg.det_plain rfl ?_) ?_
  ·have f1 : a.tmps.getD 41 undef = .pointer (some ⟨k, 0, none⟩) := hF 41 (Reg.looksB (by kernel_rfl))
   clear hF hI
   simp only [Array.getD_eq_getD_getElem?] at f1
   simp only [execOp]; go_simp
  refine Reg.rely_is (.pointer (some ⟨k, 1, none⟩)) (fun a w hI hF => Reg.det_plain rfl ?_) ?_
  ·have f1 : a.tmps.getD 53 undef = .pointer (some ⟨k, 0, none⟩) := hF 53 (Reg.looksB (by kernel_rfl))
   clear hF hI
   simp only [Array.getD_eq_getD_getElem?] at f1
   simp only [execOp]; go_simp
  refine Reg.rely_nil ?_
  refine Reg.final_is ?_
  refine Reg.final_is ?_
  refine Reg.final_rel (fun v11 => ?_)
  refine Reg.final_is ?_
  refine Reg.final_rel (fun v9 => ?_)
  refine Reg.final_is ?_
  refine Reg.final_is ?_
  refine Reg.final_is ?_
  refine Reg.final_is ?_
  refine Reg.final_is ?_
  refine Reg.final_is ?_
  refine Reg.final_is ?_
  refine Reg.final_is ?_
  refine Reg.final_is ?_
  refine Reg.final_nil (fun w9 hF => ?_)
  have HI9 := Lib.hid hF.1.1
  have HS9 := Lib.hid hF.1.2
  clear hF
  simp only [List.drop_succ_cons, List.drop_zero]
  go_simp
  have d1 : w9.cell? ⟨k, 1, none⟩ = some (.slice pO out'.length cO) := by rw [HI9.out.kb.cell 1]; rfl
  have f1 := HI9.out.kb.frozen 1
  obtain ⟨p9, c9, rfl⟩ := owns_slice HS9.out
  go_wp2_with fail
  refine Reg.fin (by kernel_rfl) ?_
  go_wp2_with fail
  go_end0
  have hkw := KWr.put2 HI9.out.kb HGE.out HS9.out
  simp only [List.length_append] at hkw
  exact ⟨rfl, HFB.out hkw.1, HOV.out.trans (HI9.out.on.trans hkw.2)⟩
 | false =>
  by_cases hx0 : x < 0
  ·have hbt : bb = true := by rw [← hbb]; unfold nb; rw [decide_eq_true hx0]; rfl
   clear hbb
   subst hbt
   go_enter Tryz.func88, Tryz.ntmps88
   go_upto_region 3 with fail
   have OV : Only (· = k) w (w.setCell ⟨k, 2, none⟩ (.bool true)) := (Only.refl _ w).set1
   have HBV : Hid (Blk (w.setCell ⟨k, 2, none⟩ (.bool true)) k 58 #[.pointer none, .slice pO out'.length cO, .bool true]) := Lib.hid (HBK.out.set 2 (.bool true))
   have HRV := Lib.hid (owns_only HRW.out OV (owns_ne HRW.out HBK.out (by decide)))
   have HOV : Hid (OnW B k w (w.setCell ⟨k, 2, none⟩ (.bool true))) := Lib.hid (OV.mono fun j _ e => .inl e)
   have y1 := HOV.out.cell HG.out hx
   have HAV := Lib.hid (HG.out.onW HOV.out (World.block_lt_of_cell? _ _ hx))
   have HBS : Hid (B ≤ ((w.setCell ⟨k, 2, none⟩ (.bool true))).heap.size) := Lib.hid (Nat.le_trans HB.out OV.size)
   clear OV c0 c1 c2 cf hx
   generalize (w.setCell ⟨k, 2, none⟩ (.bool true)) = V at *
   have HI0 : Hid (PutI V B k g o (.slice pO out'.length cO) true (.int .i64 x) V) := Lib.hid ⟨HBV.out, y1, OnW.refl _ _ _, HAV.out⟩
   have HROW : Hid (V.drew.ownsRow B 5 1 (.slice pO out'.length cO) out'.length (Lib.byteCells out') ∧ B ≤ V.drew.heap.size) := Lib.hid ⟨HRV.out, HBS.out⟩
   have HLT : Hid (∀ j, (Value.slice pO out'.length cO).ownBlock = some j → j < V.heap.size) := Lib.hid fun j hj => (owns_type HRV.out hj).choose_spec.2.2
   clear y1
   refine Reg.wp_rely 14 (PutI V B k g o (.slice pO out'.length cO) true (.int .i64 x)) (by kernel_rfl) (Reg.relyOk_of (by kernel_rfl)) HI0.out.drew (fun w w' h hI => hI.below h) ?_
   refine Reg.rely_plain (.pointer (some ⟨k, 0, none⟩)) rfl (fun a w hI hF => by
     have f1 : a.tmps.getD 0 undef = .pointer (some ⟨k, 0, none⟩) := hF 0 (Reg.looksB (by kernel_rfl))
     clear hF hI
     simp only [Array.getD_eq_getD_getElem?] at f1
     simp only [execOp]; go_simp) ?_
   refine Reg.rely_plain (.pointer (some ⟨k, 0, none⟩)) rfl (fun a w hI hF => by
     have f1 : a.tmps.getD 0 undef = .pointer (some ⟨k, 0, none⟩) := hF 0 (Reg.looksB (by kernel_rfl))
     clear hF hI
     simp only [Array.getD_eq_getD_getElem?] at f1
     simp only [execOp]; go_simp) ?_
   refine Reg.rely_plain (.pointer (some ⟨k, 0, none⟩)) rfl (fun a w hI hF => by
     have f1 : a.tmps.getD 42 undef = .pointer (some ⟨k, 0, none⟩) := hF 42 (Reg.looksB (by kernel_rfl))
     clear hF hI
     simp only [Array.getD_eq_getD_getElem?] at f1
     simp only [execOp]; go_simp) ?_
   refine Reg.rely_plain (.pointer (some ⟨k, 1, none⟩)) rfl (fun a w hI hF => by
     have f1 : a.tmps.getD 43 undef = .pointer (some ⟨k, 0, none⟩) := hF 43 (Reg.looksB (by kernel_rfl))
     clear hF hI
     simp only [Array.getD_eq_getD_getElem?] at f1
     simp only [execOp]; go_simp) ?_
   refine Reg.rely_plain (.slice pO out'.length cO) rfl (fun a w hI hF => by
     have f1 : a.tmps.getD 44 undef = .pointer (some ⟨k, 1, none⟩) := hF 44 (Reg.looksB (by kernel_rfl))
     have hc : w.cell? ⟨k, 1, none⟩ = some (.slice pO out'.length cO) := by rw [hI.kb.cell 1]; rfl
     clear hF hI
     simp only [Array.getD_eq_getD_getElem?] at f1
     simp only [execOp]; go_simp) ?_
   refine Reg.rely_plain (.pointer (some ⟨g, o, none⟩)) rfl (fun a w hI hF => by
     have f1 : a.tmps.getD 1 undef = .pointer (some ⟨g, o, none⟩) := hF 1 (Reg.looksB (by kernel_rfl))
     clear hF hI
     simp only [Array.getD_eq_getD_getElem?] at f1
     simp only [execOp]; go_simp) ?_
   refine Reg.rely_plain (.pointer (some ⟨g, o, none⟩)) rfl (fun a w hI hF => by
     have f1 : a.tmps.getD 46 undef = .pointer (some ⟨g, o, none⟩) := hF 46 (Reg.looksB (by kernel_rfl))
     clear hF hI
     simp only [Array.getD_eq_getD_getElem?] at f1
     simp only [execOp]; go_simp) ?_
   refine Reg.rely_plain (.int .i64 x) rfl (fun a w hI hF => by
     have f1 : a.tmps.getD 47 undef = .pointer (some ⟨g, o, none⟩) := hF 47 (Reg.looksB (by kernel_rfl))
     have hc := hI.cell
     clear hF hI
     simp only [Array.getD_eq_getD_getElem?] at f1
     simp only [execOp]; go_simp) ?_
   refine Reg.rely_plain (.int .u64 y) rfl (fun a w hI hF => by
     have f1 : a.tmps.getD 48 undef = .int .i64 x := hF 48 (Reg.looksB (by kernel_rfl))
     clear hF hI
     simp only [Array.getD_eq_getD_getElem?] at f1
     simp only [execOp]; go_simp) ?_
   refine Reg.rely_rel (fun v w => ∃ gl, v = .slice (some ⟨gl, 0, none⟩) 1 1 ∧ V.heap.size ≤ gl ∧ Blk w gl 22 #[.int .u64 y]) (fun v w w' h hS => by obtain ⟨gl, h1, h2, h3⟩ := hS; exact ⟨gl, h1, h2, h3.below h⟩) (fun G hG => by cases hG) rfl (fun a w hI hF => by
    have f1 : a.tmps.getD 49 undef = .int .u64 y := hF 49 (Reg.looksB (by kernel_rfl))
    have hK := Lib.hid (Blk.new w 22 #[.int .u64 y])
    have hQ := Lib.hid hI.on.size
    have hW := Lib.hid (show Reg.Grow w (w.alloc (.cells #[.int .u64 y] 22)) from (Below.refl _ w).alloc (Nat.le_refl _) _)
    clear hF hI
    simp only [Array.getD_eq_getD_getElem?] at f1
    unfold Oper.wp
    simp only [execOp]
    go_simp
    exact ⟨_, rfl, ⟨_, rfl, hQ.out, hK.out⟩, hW.out⟩) ?_
   refine Reg.rely_call0 (Reg.Is (.string (Num.lebS y))) (Reg.stab_is _ _) (fun G hG => by cases hG) rfl (fun a w hI hF => by
    obtain ⟨gl, f1, hg1, hgl⟩ : ∃ gl, a.tmps.getD 50 undef = .slice (some ⟨gl, 0, none⟩) 1 1 ∧ V.heap.size ≤ gl ∧ Blk w gl 22 #[.int .u64 y] := hF 50 (Reg.looksB (by kernel_rfl))
    refine ⟨64, #[.slice (some ⟨gl, 0, none⟩) 1 1], ?_, (HW.out w gl hgl).mono fun e w' h => ⟨_, h.1, rfl, h.2⟩⟩
    clear hF hI hgl hg1
    simp only [Array.getD_eq_getD_getElem?] at f1
    simp only [execOp]; go_simp) ?_
   refine Reg.rely_turn (fun v w => w.ownsRow B 5 1 v (out' ++ Ms.bl (Num.lebS y)).length (Lib.byteCells (out' ++ Ms.bl (Num.lebS y)))) (PutG V.heap.size B (.slice pO out'.length cO)) (fun w => w.ownsRow B 5 1 (.slice pO out'.length cO) out'.length (Lib.byteCells out') ∧ B ≤ w.heap.size) (fun v w w' h hS => owns_below hS h) (fun G hG => by cases hG) (fun w w' h hI => hI.turn h) ?_ rfl (fun w w' h hJ => ⟨owns_below hJ.1 h, Nat.le_trans hJ.2 h.size⟩) ⟨HROW.out.1, HROW.out.2⟩ (fun G hG => by cases hG) (fun G hG => by cases hG) (fun a w hI hJ hF => ?_) ?_
   ·intro p hp
    repeat (rcases List.mem_cons.1 hp with rfl | hp; first | exact Reg.stab_is _ _ | exact fun v w w' h hS => by obtain ⟨gl, h1, h2, h3⟩ := hS; exact ⟨gl, h1, h2, h.keep h2 h3⟩)
    cases hp
   ·have f1 : a.tmps.getD 45 undef = .slice pO out'.length cO := hF 45 (Reg.looksB (by kernel_rfl))
    have f2 : a.tmps.getD 51 undef = .string (Num.lebS y) := hF 51 (Reg.looksB (by kernel_rfl))
    exact putRun (t := 48) (u := 9) (sl := .tmp 45) (x := .tmp 51) rfl Tryz.underlying48 Tryz.underlying9 info_u8 rfl f1 f2 hJ.1 HLEN.out hJ.2 HLT.out
   refine Reg.rely_is (.pointer (some ⟨k, 0, none⟩)) (fun a w hI hF => Reg.det_plain rfl ?_) ?_
   ·have f1 : a.tmps.getD 41 undef = .pointer (some ⟨k, 0, none⟩) := hF 41 (Reg.looksB (by kernel_rfl))
    clear hF hI
    simp only [Array.getD_eq_getD_getElem?] at f1
    simp only [execOp]; go_simp
   refine Reg.rely_is (.pointer (some ⟨k, 1, none⟩)) (fun a w hI hF => Reg.det_plain rfl ?_) ?_
   ·have f1 : a.tmps.getD 53 undef = .pointer (some ⟨k, 0, none⟩) := hF 53 (Reg.looksB (by kernel_rfl))
    clear hF hI
    simp only [Array.getD_eq_getD_getElem?] at f1
    simp only [execOp]; go_simp
   refine Reg.rely_nil ?_
   refine Reg.final_is ?_
   refine Reg.final_is ?_
   refine Reg.final_rel (fun v11 => ?_)
   refine Reg.final_is ?_
   refine Reg.final_rel (fun v9 => ?_)
   refine Reg.final_is ?_
   refine Reg.final_is ?_
   refine Reg.final_is ?_
   refine Reg.final_is ?_
   refine Reg.final_is ?_
   refine Reg.final_is ?_
   refine Reg.final_is ?_
   refine Reg.final_is ?_
   refine Reg.final_is ?_
   refine Reg.final_nil (fun w9 hF => ?_)
   have HI9 := Lib.hid hF.1.1
   have HS9 := Lib.hid hF.1.2
   clear hF
   simp only [List.drop_succ_cons, List.drop_zero]
   go_simp
   have d1 : w9.cell? ⟨k, 1, none⟩ = some (.slice pO out'.length cO) := by rw [HI9.out.kb.cell 1]; rfl
   have f1 := HI9.out.kb.frozen 1
   obtain ⟨p9, c9, rfl⟩ := owns_slice HS9.out
   go_wp2_with fail
   refine Reg.fin (by kernel_rfl) ?_
   go_wp2_with fail
   go_end0
   have hkw := KWr.put2 HI9.out.kb HGE.out HS9.out
   simp only [List.length_append] at hkw
   exact ⟨rfl, HFB.out hkw.1, HOV.out.trans (HI9.out.on.trans hkw.2)⟩
  ·have hbb2 : decide (most < y) = bb := by rw [← hbb, HY.out.2 (by omega)]; unfold nb; rw [decide_eq_false hx0]; rfl
   clear hbb
   go_enter Tryz.func88, Tryz.ntmps88
   go_upto_region 3 with fail
   have OV : Only (· = k) w (w.setCell ⟨k, 2, none⟩ (.bool bb)) := (Only.refl _ w).set1
   have HBV : Hid (Blk (w.setCell ⟨k, 2, none⟩ (.bool bb)) k 58 #[.pointer none, .slice pO out'.length cO, .bool bb]) := Lib.hid (HBK.out.set 2 (.bool bb))
   have HRV := Lib.hid (owns_only HRW.out OV (owns_ne HRW.out HBK.out (by decide)))
   have HOV : Hid (OnW B k w (w.setCell ⟨k, 2, none⟩ (.bool bb))) := Lib.hid (OV.mono fun j _ e => .inl e)
   have y1 := HOV.out.cell HG.out hx
   have HAV := Lib.hid (HG.out.onW HOV.out (World.block_lt_of_cell? _ _ hx))
   have HBS : Hid (B ≤ ((w.setCell ⟨k, 2, none⟩ (.bool bb))).heap.size) := Lib.hid (Nat.le_trans HB.out OV.size)
   clear OV c0 c1 c2 cf hx
   generalize (w.setCell ⟨k, 2, none⟩ (.bool bb)) = V at *
   have HI0 : Hid (PutI V B k g o (.slice pO out'.length cO) bb (.int .i64 x) V) := Lib.hid ⟨HBV.out, y1, OnW.refl _ _ _, HAV.out⟩
   have HROW : Hid (V.drew.ownsRow B 5 1 (.slice pO out'.length cO) out'.length (Lib.byteCells out') ∧ B ≤ V.drew.heap.size) := Lib.hid ⟨HRV.out, HBS.out⟩
   have HLT : Hid (∀ j, (Value.slice pO out'.length cO).ownBlock = some j → j < V.heap.size) := Lib.hid fun j hj => (owns_type HRV.out hj).choose_spec.2.2
   clear y1
   refine Reg.wp_rely 14 (PutI V B k g o (.slice pO out'.length cO) bb (.int .i64 x)) (by kernel_rfl) (Reg.relyOk_of (by kernel_rfl)) HI0.out.drew (fun w w' h hI => hI.below h) ?_
   refine Reg.rely_plain (.pointer (some ⟨k, 0, none⟩)) rfl (fun a w hI hF => by
     have f1 : a.tmps.getD 0 undef = .pointer (some ⟨k, 0, none⟩) := hF 0 (Reg.looksB (by kernel_rfl))
     clear hF hI
     simp only [Array.getD_eq_getD_getElem?] at f1
     simp only [execOp]; go_simp) ?_
   refine Reg.rely_plain (.pointer (some ⟨k, 0, none⟩)) rfl (fun a w hI hF => by
     have f1 : a.tmps.getD 0 undef = .pointer (some ⟨k, 0, none⟩) := hF 0 (Reg.looksB (by kernel_rfl))
     clear hF hI
     simp only [Array.getD_eq_getD_getElem?] at f1
     simp only [execOp]; go_simp) ?_
   refine Reg.rely_plain (.pointer (some ⟨k, 0, none⟩)) rfl (fun a w hI hF => by
     have f1 : a.tmps.getD 42 undef = .pointer (some ⟨k, 0, none⟩) := hF 42 (Reg.looksB (by kernel_rfl))
     clear hF hI
     simp only [Array.getD_eq_getD_getElem?] at f1
     simp only [execOp]; go_simp) ?_
   refine Reg.rely_plain (.pointer (some ⟨k, 1, none⟩)) rfl (fun a w hI hF => by
     have f1 : a.tmps.getD 43 undef = .pointer (some ⟨k, 0, none⟩) := hF 43 (Reg.looksB (by kernel_rfl))
     clear hF hI
     simp only [Array.getD_eq_getD_getElem?] at f1
     simp only [execOp]; go_simp) ?_
   refine Reg.rely_plain (.slice pO out'.length cO) rfl (fun a w hI hF => by
     have f1 : a.tmps.getD 44 undef = .pointer (some ⟨k, 1, none⟩) := hF 44 (Reg.looksB (by kernel_rfl))
     have hc : w.cell? ⟨k, 1, none⟩ = some (.slice pO out'.length cO) := by rw [hI.kb.cell 1]; rfl
     clear hF hI
     simp only [Array.getD_eq_getD_getElem?] at f1
     simp only [execOp]; go_simp) ?_
   refine Reg.rely_plain (.pointer (some ⟨g, o, none⟩)) rfl (fun a w hI hF => by
     have f1 : a.tmps.getD 1 undef = .pointer (some ⟨g, o, none⟩) := hF 1 (Reg.looksB (by kernel_rfl))
     clear hF hI
     simp only [Array.getD_eq_getD_getElem?] at f1
     simp only [execOp]; go_simp) ?_
   refine Reg.rely_plain (.pointer (some ⟨g, o, none⟩)) rfl (fun a w hI hF => by
     have f1 : a.tmps.getD 46 undef = .pointer (some ⟨g, o, none⟩) := hF 46 (Reg.looksB (by kernel_rfl))
     clear hF hI
     simp only [Array.getD_eq_getD_getElem?] at f1
     simp only [execOp]; go_simp) ?_
   refine Reg.rely_plain (.int .i64 x) rfl (fun a w hI hF => by
     have f1 : a.tmps.getD 47 undef = .pointer (some ⟨g, o, none⟩) := hF 47 (Reg.looksB (by kernel_rfl))
     have hc := hI.cell
     clear hF hI
     simp only [Array.getD_eq_getD_getElem?] at f1
     simp only [execOp]; go_simp) ?_
   refine Reg.rely_plain (.int .u64 y) rfl (fun a w hI hF => by
     have f1 : a.tmps.getD 48 undef = .int .i64 x := hF 48 (Reg.looksB (by kernel_rfl))
     clear hF hI
     simp only [Array.getD_eq_getD_getElem?] at f1
     simp only [execOp]; go_simp) ?_
   refine Reg.rely_rel (fun v w => ∃ gl, v = .slice (some ⟨gl, 0, none⟩) 1 1 ∧ V.heap.size ≤ gl ∧ Blk w gl 22 #[.int .u64 y]) (fun v w w' h hS => by obtain ⟨gl, h1, h2, h3⟩ := hS; exact ⟨gl, h1, h2, h3.below h⟩) (fun G hG => by cases hG) rfl (fun a w hI hF => by
    have f1 : a.tmps.getD 49 undef = .int .u64 y := hF 49 (Reg.looksB (by kernel_rfl))
    have hK := Lib.hid (Blk.new w 22 #[.int .u64 y])
    have hQ := Lib.hid hI.on.size
    have hW := Lib.hid (show Reg.Grow w (w.alloc (.cells #[.int .u64 y] 22)) from (Below.refl _ w).alloc (Nat.le_refl _) _)
    clear hF hI
    simp only [Array.getD_eq_getD_getElem?] at f1
    unfold Oper.wp
    simp only [execOp]
    go_simp
    exact ⟨_, rfl, ⟨_, rfl, hQ.out, hK.out⟩, hW.out⟩) ?_
   refine Reg.rely_call0 (Reg.Is (.string (Num.lebS y))) (Reg.stab_is _ _) (fun G hG => by cases hG) rfl (fun a w hI hF => by
    obtain ⟨gl, f1, hg1, hgl⟩ : ∃ gl, a.tmps.getD 50 undef = .slice (some ⟨gl, 0, none⟩) 1 1 ∧ V.heap.size ≤ gl ∧ Blk w gl 22 #[.int .u64 y] := hF 50 (Reg.looksB (by kernel_rfl))
    refine ⟨64, #[.slice (some ⟨gl, 0, none⟩) 1 1], ?_, (HW.out w gl hgl).mono fun e w' h => ⟨_, h.1, rfl, h.2⟩⟩
    clear hF hI hgl hg1
    simp only [Array.getD_eq_getD_getElem?] at f1
    simp only [execOp]; go_simp) ?_
   refine Reg.rely_turn (fun v w => w.ownsRow B 5 1 v (out' ++ Ms.bl (Num.lebS y)).length (Lib.byteCells (out' ++ Ms.bl (Num.lebS y)))) (PutG V.heap.size B (.slice pO out'.length cO)) (fun w => w.ownsRow B 5 1 (.slice pO out'.length cO) out'.length (Lib.byteCells out') ∧ B ≤ w.heap.size) (fun v w w' h hS => owns_below hS h) (fun G hG => by cases hG) (fun w w' h hI => hI.turn h) ?_ rfl (fun w w' h hJ => ⟨owns_below hJ.1 h, Nat.le_trans hJ.2 h.size⟩) ⟨HROW.out.1, HROW.out.2⟩ (fun G hG => by cases hG) (fun G hG => by cases hG) (fun a w hI hJ hF => ?_) ?_
   ·intro p hp
    repeat (rcases List.mem_cons.1 hp with rfl | hp; first | exact Reg.stab_is _ _ | exact fun v w w' h hS => by obtain ⟨gl, h1, h2, h3⟩ := hS; exact ⟨gl, h1, h2, h.keep h2 h3⟩)
    cases hp
   ·have f1 : a.tmps.getD 45 undef = .slice pO out'.length cO := hF 45 (Reg.looksB (by kernel_rfl))
    have f2 : a.tmps.getD 51 undef = .string (Num.lebS y) := hF 51 (Reg.looksB (by kernel_rfl))
    exact putRun (t := 48) (u := 9) (sl := .tmp 45) (x := .tmp 51) rfl Tryz.underlying48 Tryz.underlying9 info_u8 rfl f1 f2 hJ.1 HLEN.out hJ.2 HLT.out
   refine Reg.rely_is (.pointer (some ⟨k, 0, none⟩)) (fun a w hI hF => Reg.det_plain rfl ?_) ?_
   ·have f1 : a.tmps.getD 41 undef = .pointer (some ⟨k, 0, none⟩) := hF 41 (Reg.looksB (by kernel_rfl))
    clear hF hI
    simp only [Array.getD_eq_getD_getElem?] at f1
    simp only [execOp]; go_simp
   refine Reg.rely_is (.pointer (some ⟨k, 1, none⟩)) (fun a w hI hF => Reg.det_plain rfl ?_) ?_
   ·have f1 : a.tmps.getD 53 undef = .pointer (some ⟨k, 0, none⟩) := hF 53 (Reg.looksB (by kernel_rfl))
    clear hF hI
    simp only [Array.getD_eq_getD_getElem?] at f1
    simp only [execOp]; go_simp
   refine Reg.rely_nil ?_
   refine Reg.final_is ?_
   refine Reg.final_is ?_
   refine Reg.final_rel (fun v11 => ?_)
   refine Reg.final_is ?_
   refine Reg.final_rel (fun v9 => ?_)
   refine Reg.final_is ?_
   refine Reg.final_is ?_
   refine Reg.final_is ?_
   refine Reg.final_is ?_
   refine Reg.final_is ?_
   refine Reg.final_is ?_
   refine Reg.final_is ?_
   refine Reg.final_is ?_
   refine Reg.final_is ?_
   refine Reg.final_nil (fun w9 hF => ?_)
   have HI9 := Lib.hid hF.1.1
   have HS9 := Lib.hid hF.1.2
   clear hF
   simp only [List.drop_succ_cons, List.drop_zero]
   go_simp
   have d1 : w9.cell? ⟨k, 1, none⟩ = some (.slice pO out'.length cO) := by rw [HI9.out.kb.cell 1]; rfl
   have f1 := HI9.out.kb.frozen 1
   obtain ⟨p9, c9, rfl⟩ := owns_slice HS9.out
   go_wp2_with fail
   refine Reg.fin (by kernel_rfl) ?_
   go_wp2_with fail
   go_end0
   have hkw := KWr.put2 HI9.out.kb HGE.out HS9.out
   simp only [List.length_append] at hkw
   exact ⟨rfl, HFB.out hkw.1, HOV.out.trans (HI9.out.on.trans hkw.2)⟩
end
end Go.Proofs.YtghbjknpffiaiaaGreat
