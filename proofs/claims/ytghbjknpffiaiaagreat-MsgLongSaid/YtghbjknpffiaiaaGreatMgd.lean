import Derived.Test.YtghbjknpffiaiaaGreatMgc
namespace Go.Proofs.YtghbjknpffiaiaaGreat
open Go.RowKit Wire
set_option linter.unusedVariables false
section
open Go.ChangeShapes Go.WideShapes Go.Deep
variable {H : Type} {enc : TypeId × Value → H} {P : Program} {W : World} {base : Nat} {held : Bool} {r : Reach} {b0 : Nat} {v : Value} {d : DataW H} {ps : List MemPlace} {t e : TypeId}
end
set_option maxHeartbeats 400000 in
theorem ruint3_any (x : Int) (hx : U64 x) (w : World) : Calls Tryz.prog 45 #[.int .u64 x] w fun e w' => e = .returned (.string (Num.lebS x)) ∧ Below w.heap.size w w' := by
 have HU := Lib.hid (ruint_any x hx w)
 go_enter Tryz.func45, Tryz.ntmps45
 go_wp2_with (go_at_call 60; ((with_reducible refine HU.out.mono ?_); rintro e w' ⟨rfl, hb⟩))
 go_ret
 exact ⟨rfl, hb⟩
set_option maxHeartbeats 400000 in
theorem rint3_any (x : Int) (hx : I64 x) (w : World) : Calls Tryz.prog 61 #[.int .i64 x] w fun e w' => e = .returned (.string (intS x)) ∧ Below w.heap.size w w' := by
 have HU := Lib.hid (rint_any x hx w)
 go_enter Tryz.func61, Tryz.ntmps61
 go_wp2_with (go_at_call 81; ((with_reducible refine HU.out.mono ?_); rintro e w' ⟨rfl, hb⟩))
 go_ret
 exact ⟨rfl, hb⟩
set_option maxHeartbeats 400000 in
theorem rtext3_any (s : ByteArray) (hs : s.size ≤ 140737488355328) (w : World) : Calls Tryz.prog 46 #[.string s] w fun e w' => e = .returned (.string (textS s)) ∧ Below w.heap.size w w' := by
 have hl := lebS_size (x := (s.size : Int)) (by omega)
 have HU := Lib.hid (fun w => ruint3_any s.size (by unfold U64; omega) w)
 go_enter Tryz.func46, Tryz.ntmps46
 go_wp2_with (go_at_call 45; ((with_reducible refine (HU.out _).mono ?_); rintro e w1 ⟨rfl, b1⟩))
 go_ret
 exact ⟨rfl, b1⟩
namespace Wire
end Wire
end Go.Proofs.YtghbjknpffiaiaaGreat

namespace Go.Proofs.YtghbjknpffiaiaaGreat
open Go.RowKit Wire
set_option linter.unusedVariables false
structure RR (w : World) (c : Nat) (s : ByteArray) (e : Int) : Prop where
 blk : Blk w c 76 #[.string s, .int .i64 e]
 sz : s.size ≤ maxLen
theorem RR.c0 {w : World} {b : Nat} {s : ByteArray} {e : Int} (h : RR w b s e) : w.cell? ⟨b, 0, none⟩ = some (.string s) := h.blk.cell 0
theorem RR.c1 {w : World} {b : Nat} {s : ByteArray} {e : Int} (h : RR w b s e) : w.cell? ⟨b, 1, none⟩ = some (.int .i64 e) := h.blk.cell 1
theorem RR.frozen {w : World} {b : Nat} {s : ByteArray} {e : Int} (h : RR w b s e) (o : Nat) : w.frozen? ⟨b, o, none⟩ = false := h.blk.frozen o
theorem RR.alloc {w : World} {b : Nat} {s : ByteArray} {e : Int} (h : RR w b s e) (o : Obj) : RR (w.alloc o) b s e := ⟨h.blk.alloc o, h.sz⟩
theorem RR.only {S : Nat → Prop} {w w' : World} {b : Nat} {s : ByteArray} {e : Int} (h : RR w b s e) (ho : Only S w w') (hs : ¬ S b) : RR w' b s e := ⟨h.blk.only ho hs, h.sz⟩
theorem RR.below {w w' : World} {b : Nat} {s : ByteArray} {e : Int} (h : RR w b s e) (ho : Below w.heap.size w w') : RR w' b s e := ⟨h.blk.below ho, h.sz⟩
theorem RR.setE {w : World} {b : Nat} {s : ByteArray} {e : Int} (h : RR w b s e) (e' : Int) : RR (w.setCell ⟨b, 1, none⟩ (.int .i64 e')) b s e' := ⟨h.blk.set 1 _, h.sz⟩
theorem RR.setS {w : World} {b : Nat} {s : ByteArray} {e : Int} (h : RR w b s e) (s' : ByteArray) (hs : s'.size ≤ maxLen) : RR (w.setCell ⟨b, 0, none⟩ (.string s')) b s' e := ⟨h.blk.set 0 _, hs⟩
def RNumPost (b : Nat) (w : World) (v : Int) (s' : ByteArray) (e' : Int) (e : Ending) (w' : World) : Prop := e = .returned (.int .u64 v) ∧ RR w' b s' e' ∧ Only (· = b) w w'
def RIntPost (b : Nat) (w : World) (v : Int) (s' : ByteArray) (e' : Int) (e : Ending) (w' : World) : Prop := e = .returned (.int .i64 v) ∧ RR w' b s' e' ∧ Only (· = b) w w'
def RTextPost (b : Nat) (w : World) (v : ByteArray) (s' : ByteArray) (e' : Int) (e : Ending) (w' : World) : Prop := e = .returned (.string v) ∧ RR w' b s' e' ∧ Only (· = b) w w'
theorem Only.cellq {S : Nat → Prop} {w w' : World} {g o : Nat} {v : Value} (ho : Only S w w') (hc : w.cell? ⟨g, o, none⟩ = some v) (hne : ¬ S g) : w'.cell? ⟨g, o, none⟩ = some v := by
 have hlt : g < w.heap.size := by
  rcases Nat.lt_or_ge g w.heap.size with h | h
  ·exact h
  ·simp [World.cell?, Array.getElem?_eq_none h] at hc
 rw [← hc]; simp only [World.cell?]; rw [ho.block g hlt hne]
theorem ba_eq {s t : ByteArray} (h : s.data.toList = t.data.toList) : s = t := by
 cases s; cases t; congr; exact Array.toList_inj.1 h
set_option maxHeartbeats 400000 in
theorem rfail_any {b : Nat} {s : ByteArray} {e0 : Int} {w : World} (h : RR w b s e0) (e : Int) : Calls Tryz.prog 56 #[.pointer (some ⟨b, 0, none⟩), .int .i64 e] w fun x w' => x = .returned (.tuple #[]) ∧ w' = w.setCell ⟨b, 1, none⟩ (.int .i64 e) := by
 have c1 := h.c1
 have hf : ∀ o, w.frozen? ⟨b, o, none⟩ = false := h.frozen
 clear h
 go_enter Tryz.func56, Tryz.ntmps56
 go_wp2
 go_end0
 exact ⟨rfl, rfl⟩
set_option maxHeartbeats 1000000 in
theorem ruintm_any {b : Nat} {s : ByteArray} {e0 : Int} {w : World} (h : RR w b s e0) (most : Int) :
  Calls Tryz.prog 38 #[.pointer (some ⟨b, 0, none⟩), .int .u64 most] w (RNumPost b w (numV s e0 (uC s most)) (numS s e0 (uC s most)) (numE s e0 (uC s most))) := by
 have HH := Lib.hid h
 have c0 := h.c0
 have c1 := h.c1
 have hsz := h.sz
 unfold maxLen at hsz
 clear h
 by_cases he : e0 = 0
 ·subst he
  by_cases hr : (rdS s).2.2 = 0
  ·have r1 : ((((rdS s).2.2 : Nat) : Int) == 0) = true := by simp [hr]
   have r2 : ((((rdS s).2.2 : Nat) : Int) != 0) = false := by simp [hr]
   by_cases hm : most < xI s
   ·have ev : numV s 0 (uC s most) = 0 := by simp [numV, uC, hm]
    have es : numS s 0 (uC s most) = s := by simp [numS, uC, hm]
    have ee : numE s 0 (uC s most) = 9 := by simp [numE, uC, hm, hr]
    rw [ev, es, ee]
    unfold xI at hm
    clear ev es ee hr
    go_enter Tryz.func38, Tryz.ntmps38
    go_wp2_with (first | (go_at_call 55; ((with_reducible refine (rread_raw s HH.out.sz _).mono ?_); rintro e w1 ⟨rfl, b1⟩; have H1 := Lib.hid (HH.out.below b1); have d0 := H1.out.c0; have d1 := H1.out.c1; have hf1 : ∀ o, w1.frozen? ⟨b, o, none⟩ = false := H1.out.frozen)) | (go_at_call 56; ((with_reducible refine (rfail_any H1.out 9).mono ?_); rintro e w2 ⟨rfl, rfl⟩)))
    go_ret
    exact ⟨rfl, H1.out.setE 9, ((Only.refl _ _).step b1).set1⟩
   ·have ev : numV s 0 (uC s most) = xI s := by simp [numV, uC, hm, hr]; rfl
    have es : numS s 0 (uC s most) = tl s (rdS s).2.1 := by simp [numS, uC, hm, hr]
    have ee : numE s 0 (uC s most) = 0 := by simp [numE, uC, hm, hr]
    rw [ev, es, ee]
    have hle := rd_le hr
    unfold xI at hm ⊢
    have hm' : (((rdS s).1 : Nat) : Int) ≤ most := by omega
    clear ev es ee hr hm
    go_enter Tryz.func38, Tryz.ntmps38
    go_wp2_with (first | (go_at_call 55; ((with_reducible refine (rread_raw s HH.out.sz _).mono ?_); rintro e w1 ⟨rfl, b1⟩; have H1 := Lib.hid (HH.out.below b1); have d0 := H1.out.c0; have d1 := H1.out.c1; have hf1 : ∀ o, w1.frozen? ⟨b, o, none⟩ = false := H1.out.frozen)))
    go_ret
    exact ⟨rfl, H1.out.setS _ (Nat.le_trans (tl_size s _) HH.out.sz), ((Only.refl _ _).step b1).set1⟩
  ·have r1 : ((((rdS s).2.2 : Nat) : Int) == 0) = false := by simp [hr]
   have r2 : ((((rdS s).2.2 : Nat) : Int) != 0) = true := by simp [hr]
   have ev : numV s 0 (uC s most) = 0 := by simp [numV, hr]
   have es : numS s 0 (uC s most) = s := by simp [numS, hr]
   have ee : numE s 0 (uC s most) = ((rdS s).2.2 : Nat) := by simp [numE, hr]
   rw [ev, es, ee]
   clear ev es ee hr
   go_enter Tryz.func38, Tryz.ntmps38
   go_wp2_with (first | (go_at_call 55; ((with_reducible refine (rread_raw s HH.out.sz _).mono ?_); rintro e w1 ⟨rfl, b1⟩; have H1 := Lib.hid (HH.out.below b1); have d0 := H1.out.c0; have d1 := H1.out.c1; have hf1 : ∀ o, w1.frozen? ⟨b, o, none⟩ = false := H1.out.frozen)) | (go_at_call 56; ((with_reducible refine (rfail_any H1.out ((rdS s).2.2 : Nat)).mono ?_); rintro e w2 ⟨rfl, rfl⟩)))
   go_ret
   exact ⟨rfl, H1.out.setE _, ((Only.refl _ _).step b1).set1⟩
 ·have ev : numV s e0 (uC s most) = 0 := by simp [numV, he]
  have es : numS s e0 (uC s most) = s := by simp [numS, he]
  have ee : numE s e0 (uC s most) = e0 := by simp [numE, he]
  rw [ev, es, ee]
  have he' : (e0 != 0) = true := by simpa using he
  clear ev es ee he
  go_enter Tryz.func38, Tryz.ntmps38
  go_wp2
  go_ret
  exact ⟨rfl, HH.out, Only.refl _ _⟩
theorem zag0 : Num.zag 0 = 0 := rfl
set_option maxHeartbeats 1000000 in
theorem rintm_any {b : Nat} {s : ByteArray} {e0 : Int} {w : World} (h : RR w b s e0) (lo hi : Int) :
  Calls Tryz.prog 58 #[.pointer (some ⟨b, 0, none⟩), .int .i64 lo, .int .i64 hi] w (RIntPost b w (Num.zag (numV s e0 (iC s lo hi))) (numS s e0 (iC s lo hi)) (numE s e0 (iC s lo hi))) := by
 have HH := Lib.hid h
 have c0 := h.c0
 have c1 := h.c1
 have hsz := h.sz
 unfold maxLen at hsz
 clear h
 by_cases he : e0 = 0
 ·subst he
  by_cases hr : (rdS s).2.2 = 0
  ·have r1 : ((((rdS s).2.2 : Nat) : Int) == 0) = true := by simp [hr]
   have r2 : ((((rdS s).2.2 : Nat) : Int) != 0) = false := by simp [hr]
   by_cases hm : Num.zag (xI s) < lo ∨ hi < Num.zag (xI s)
   ·have ev : numV s 0 (iC s lo hi) = 0 := by simp [numV, iC, hm]
    have es : numS s 0 (iC s lo hi) = s := by simp [numS, iC, hm]
    have ee : numE s 0 (iC s lo hi) = 9 := by simp [numE, iC, hm, hr]
    rw [ev, es, ee, zag0]
    have hm2 : Num.zag (xI s) < lo ∨ (lo ≤ Num.zag (xI s) ∧ hi < Num.zag (xI s)) := by omega
    unfold xI at hm2
    clear ev es ee hr hm
    rcases hm2 with hm | ⟨hm, hm2⟩
    ·go_enter Tryz.func58, Tryz.ntmps58
     go_wp2_with (first | (go_at_call 80; ((with_reducible refine (rread_int_any s HH.out.sz _).mono ?_); unfold readIntV; rintro e w1 ⟨rfl, b1⟩; have H1 := Lib.hid (HH.out.below b1); have d0 := H1.out.c0; have d1 := H1.out.c1; have hf1 : ∀ o, w1.frozen? ⟨b, o, none⟩ = false := H1.out.frozen)) | (go_at_call 56; ((with_reducible refine (rfail_any H1.out 9).mono ?_); rintro e w2 ⟨rfl, rfl⟩)))
     go_ret
     exact ⟨rfl, H1.out.setE 9, ((Only.refl _ _).step b1).set1⟩
    ·go_enter Tryz.func58, Tryz.ntmps58
     go_wp2_with (first | (go_at_call 80; ((with_reducible refine (rread_int_any s HH.out.sz _).mono ?_); unfold readIntV; rintro e w1 ⟨rfl, b1⟩; have H1 := Lib.hid (HH.out.below b1); have d0 := H1.out.c0; have d1 := H1.out.c1; have hf1 : ∀ o, w1.frozen? ⟨b, o, none⟩ = false := H1.out.frozen)) | (go_at_call 56; ((with_reducible refine (rfail_any H1.out 9).mono ?_); rintro e w2 ⟨rfl, rfl⟩)))
     go_ret
     exact ⟨rfl, H1.out.setE 9, ((Only.refl _ _).step b1).set1⟩
   ·have ev : numV s 0 (iC s lo hi) = xI s := by simp [numV, iC, hm, hr]; rfl
    have es : numS s 0 (iC s lo hi) = tl s (rdS s).2.1 := by simp [numS, iC, hm, hr]
    have ee : numE s 0 (iC s lo hi) = 0 := by simp [numE, iC, hm, hr]
    rw [ev, es, ee]
    have hle := rd_le hr
    have hm1 : lo ≤ Num.zag (xI s) := by omega
    have hm2 : Num.zag (xI s) ≤ hi := by omega
    unfold xI at hm1 hm2 ⊢
    clear ev es ee hr hm
    go_enter Tryz.func58, Tryz.ntmps58
    go_wp2_with (first | (go_at_call 80; ((with_reducible refine (rread_int_any s HH.out.sz _).mono ?_); unfold readIntV; rintro e w1 ⟨rfl, b1⟩; have H1 := Lib.hid (HH.out.below b1); have d0 := H1.out.c0; have d1 := H1.out.c1; have hf1 : ∀ o, w1.frozen? ⟨b, o, none⟩ = false := H1.out.frozen)))
    go_ret
    exact ⟨rfl, H1.out.setS _ (Nat.le_trans (tl_size s _) HH.out.sz), ((Only.refl _ _).step b1).set1⟩
  ·have r1 : ((((rdS s).2.2 : Nat) : Int) == 0) = false := by simp [hr]
   have r2 : ((((rdS s).2.2 : Nat) : Int) != 0) = true := by simp [hr]
   have ev : numV s 0 (iC s lo hi) = 0 := by simp [numV, hr]
   have es : numS s 0 (iC s lo hi) = s := by simp [numS, hr]
   have ee : numE s 0 (iC s lo hi) = ((rdS s).2.2 : Nat) := by simp [numE, hr]
   rw [ev, es, ee, zag0]
   clear ev es ee hr
   go_enter Tryz.func58, Tryz.ntmps58
   go_wp2_with (first | (go_at_call 80; ((with_reducible refine (rread_int_any s HH.out.sz _).mono ?_); unfold readIntV; rintro e w1 ⟨rfl, b1⟩; have H1 := Lib.hid (HH.out.below b1); have d0 := H1.out.c0; have d1 := H1.out.c1; have hf1 : ∀ o, w1.frozen? ⟨b, o, none⟩ = false := H1.out.frozen)) | (go_at_call 56; ((with_reducible refine (rfail_any H1.out ((rdS s).2.2 : Nat)).mono ?_); rintro e w2 ⟨rfl, rfl⟩)))
   go_ret
   exact ⟨rfl, H1.out.setE _, ((Only.refl _ _).step b1).set1⟩
 ·have ev : numV s e0 (iC s lo hi) = 0 := by simp [numV, he]
  have es : numS s e0 (iC s lo hi) = s := by simp [numS, he]
  have ee : numE s e0 (iC s lo hi) = e0 := by simp [numE, he]
  rw [ev, es, ee, zag0]
  have he' : (e0 != 0) = true := by simpa using he
  clear ev es ee he
  go_enter Tryz.func58, Tryz.ntmps58
  go_wp2
  go_ret
  exact ⟨rfl, HH.out, Only.refl _ _⟩
end Go.Proofs.YtghbjknpffiaiaaGreat

namespace Go.Proofs.YtghbjknpffiaiaaGreat
open Go.RowKit Wire
set_option linter.unusedVariables false
theorem uC_max (s : ByteArray) : uC s 18446744073709551615 = 0 := by
 unfold uC; rw [if_neg]; have := (xI_U64 s).2; omega
theorem num0_bad {s : ByteArray} {e : Int} (h : ¬ (e = 0 ∧ (rdS s).2.2 = 0)) (c : Int) : numV s e c = 0 ∧ numS s e c = s ∧ numE s e c = numE s e 0 ∧ numE s e 0 ≠ 0 := by
 refine ⟨?_, ?_, ?_, ?_⟩
 ·unfold numV; rw [if_neg]; exact fun hh => h ⟨hh.1, hh.2.1⟩
 ·unfold numS; rw [if_neg]; exact fun hh => h ⟨hh.1, hh.2.1⟩
 ·unfold numE
  by_cases he : e = 0
  ·rw [if_pos he, if_pos he, if_neg (fun hr => h ⟨he, hr⟩), if_neg (fun hr => h ⟨he, hr⟩)]
  ·rw [if_neg he, if_neg he]
 ·unfold numE
  by_cases he : e = 0
  ·rw [if_pos he, if_neg (fun hr => h ⟨he, hr⟩)]
   intro hh; exact h ⟨he, by omega⟩
  ·rw [if_neg he]; exact he
theorem num0_ok {s : ByteArray} (h : (rdS s).2.2 = 0) : numV s 0 0 = xI s ∧ numS s 0 0 = tl s (rdS s).2.1 ∧ numE s 0 0 = 0 := by
 refine ⟨by unfold numV; rw [if_pos ⟨rfl, h, rfl⟩]; rfl, by unfold numS; rw [if_pos ⟨rfl, h, rfl⟩], by unfold numE; rw [if_pos rfl, if_pos h]⟩
theorem numc {s : ByteArray} (h : (rdS s).2.2 = 0) {c : Int} (hc : c ≠ 0) : numV s 0 c = 0 ∧ numS s 0 c = s ∧ numE s 0 c = c := by
 refine ⟨by unfold numV; rw [if_neg (fun hh => hc hh.2.2)], by unfold numS; rw [if_neg (fun hh => hc hh.2.2)], by unfold numE; rw [if_pos rfl, if_pos h]⟩
theorem rmax {b : Nat} {s : ByteArray} {e0 : Int} {w : World} (h : RR w b s e0) :
  Calls Tryz.prog 38 #[.pointer (some ⟨b, 0, none⟩), .int .u64 18446744073709551615] w (RNumPost b w (numV s e0 0) (numS s e0 0) (numE s e0 0)) := by
 have := ruintm_any h 18446744073709551615; rw [uC_max] at this; exact this
theorem cC_cases (s : ByteArray) (most : Int) : ((most < 0 ∨ most < xI s) ∧ cC s most = 4) ∨ (0 ≤ most ∧ xI s ≤ most ∧ s.size - nI s < xI s ∧ cC s most = 10) ∨ (0 ≤ most ∧ xI s ≤ most ∧ xI s ≤ s.size - nI s ∧ cC s most = 0) := by
 unfold cC cntC
 by_cases h1 : most < 0 ∨ most < xI s
 ·exact .inl ⟨h1, by rw [if_pos h1]⟩
 ·by_cases h2 : (s.size : Int) - nI s < xI s
  ·exact .inr (.inl ⟨by omega, by omega, h2, by rw [if_neg h1, if_pos h2]⟩)
  ·exact .inr (.inr ⟨by omega, by omega, by omega, by rw [if_neg h1, if_neg h2]⟩)
set_option maxHeartbeats 1000000 in
theorem rcount_any {b : Nat} {s : ByteArray} {e0 : Int} {w : World} (h : RR w b s e0) (most : Int) (hm : I64 most) :
  Calls Tryz.prog 57 #[.pointer (some ⟨b, 0, none⟩), .int .i64 most] w (RIntPost b w (numV s e0 (cC s most)) (numS s e0 (cC s most)) (numE s e0 (cC s most))) := by
 have HH := Lib.hid h
 have c0 := h.c0
 have c1 := h.c1
 have HM := Lib.hid (rmax h)
 have hm0 := hm.1
 have hm1 := hm.2
 have hsz := h.sz
 unfold maxLen at hsz
 clear h hm
 by_cases hk : e0 = 0 ∧ (rdS s).2.2 = 0
 ·obtain ⟨rfl, hr⟩ := hk
  have h0 := num0_ok hr
  have hle := rd_le hr
  have htl := tl_len s (rdS s).2.1 hle
  have hx := xI_U64 s
  have hx0 := hx.1
  have hx1 := hx.2
  have hc := cC_cases s most
  have hni : nI s = ((rdS s).2.1 : Nat) := rfl
  rw [hni] at hc
  generalize cC s most = c at *
  rcases hc with ⟨hc, rfl⟩ | ⟨q1, q2, q3, rfl⟩ | ⟨q1, q2, q3, rfl⟩
  ·have hr0 := numc hr (c := 4) (by decide)
   rw [h0.1, h0.2.1, h0.2.2] at HM
   rw [hr0.1, hr0.2.1, hr0.2.2]
   have hc' : most < 0 ∨ (0 ≤ most ∧ most < xI s) := by omega
   generalize xI s = x at *
   generalize tl s (rdS s).2.1 = s1 at *
   clear hr0 h0 hc hr hx hni
   rcases hc' with hc | ⟨hc, hc2⟩
   ·go_enter Tryz.func57, Tryz.ntmps57
    go_wp2_with (go_at_call 38; ((with_reducible refine HM.out.mono ?_); rintro e w1 ⟨rfl, h1, o1⟩; have H1 := Lib.hid h1; have d0 := h1.c0; have d1 := h1.c1; have hf1 : ∀ o, w1.frozen? ⟨b, o, none⟩ = false := h1.frozen; clear h1))
    go_ret
    exact ⟨rfl, (H1.out.setS s HH.out.sz).setE 4, o1.set1.set1⟩
   ·go_enter Tryz.func57, Tryz.ntmps57
    go_wp2_with (go_at_call 38; ((with_reducible refine HM.out.mono ?_); rintro e w1 ⟨rfl, h1, o1⟩; have H1 := Lib.hid h1; have d0 := h1.c0; have d1 := h1.c1; have hf1 : ∀ o, w1.frozen? ⟨b, o, none⟩ = false := h1.frozen; clear h1))
    go_ret
    exact ⟨rfl, (H1.out.setS s HH.out.sz).setE 4, o1.set1.set1⟩
  ·have hr0 := numc hr (c := 10) (by decide)
   rw [h0.1, h0.2.1, h0.2.2] at HM
   rw [hr0.1, hr0.2.1, hr0.2.2]
   generalize xI s = x at *
   generalize tl s (rdS s).2.1 = s1 at *
   have q3' : (s1.size : Int) < x := by omega
   clear hr0 h0 hr hx hni
   go_enter Tryz.func57, Tryz.ntmps57
   go_wp2_with (go_at_call 38; ((with_reducible refine HM.out.mono ?_); rintro e w1 ⟨rfl, h1, o1⟩; have H1 := Lib.hid h1; have d0 := h1.c0; have d1 := h1.c1; have hf1 : ∀ o, w1.frozen? ⟨b, o, none⟩ = false := h1.frozen; clear h1))
   go_ret
   exact ⟨rfl, (H1.out.setS s HH.out.sz).setE 10, o1.set1.set1⟩
  ·rw [h0.1, h0.2.1, h0.2.2] at HM ⊢
   generalize xI s = x at *
   generalize tl s (rdS s).2.1 = s1 at *
   have q3' : x ≤ (s1.size : Int) := by omega
   clear h0 hr hx hni
   go_enter Tryz.func57, Tryz.ntmps57
   go_wp2_with (go_at_call 38; ((with_reducible refine HM.out.mono ?_); rintro e w1 ⟨rfl, h1, o1⟩; have H1 := Lib.hid h1; have d0 := h1.c0; have d1 := h1.c1; have hf1 : ∀ o, w1.frozen? ⟨b, o, none⟩ = false := h1.frozen; clear h1))
   go_ret
   exact ⟨rfl, H1.out, o1⟩
 ·have h0 := num0_bad hk 0
  have ht := num0_bad hk (cC s most)
  rw [ht.1, ht.2.1, ht.2.2.1]
  rw [h0.1, h0.2.1] at HM
  have hne : (numE s e0 0 != 0) = true := by simpa using h0.2.2.2
  clear h0 ht hk
  generalize numE s e0 0 = e1 at *
  go_enter Tryz.func57, Tryz.ntmps57
  go_wp2_with (go_at_call 38; ((with_reducible refine HM.out.mono ?_); rintro e w1 ⟨rfl, h1, o1⟩; have H1 := Lib.hid h1; have d0 := h1.c0; have d1 := h1.c1; have hf1 : ∀ o, w1.frozen? ⟨b, o, none⟩ = false := h1.frozen; clear h1))
  go_ret
  exact ⟨rfl, H1.out, o1⟩
theorem tl_zero (s : ByteArray) : tl s 0 = s := by
 apply ba_eq; unfold tl; simp
set_option maxHeartbeats 1000000 in
theorem rtext_any {b : Nat} {s : ByteArray} {e0 : Int} {w : World} (h : RR w b s e0) (most : Int) (hm : I64 most) :
  Calls Tryz.prog 39 #[.pointer (some ⟨b, 0, none⟩), .int .i64 most] w (RTextPost b w (txV s e0 most) (txS s e0 most) (txE s e0 most)) := by
 have HN := Lib.hid (rcount_any h most hm)
 have hr := cnt_range (s := s) (e := e0) hm
 have hr1 := hr.1
 have hfit := cnt_fit (s := s) (e := e0) (most := most)
 have hS : txS s e0 most = tl (numS s e0 (cC s most)) (numV s e0 (cC s most)).toNat := by
  unfold txS
  split
  ·rfl
  ·rename_i he
   rw [numV_zero he]
   exact (tl_zero _).symm
 rw [hS]
 unfold txV txE
 clear h hm hr hS
 generalize numV s e0 (cC s most) = x at *
 generalize numS s e0 (cC s most) = s1 at *
 generalize numE s e0 (cC s most) = e1 at *
 obtain ⟨n, rfl⟩ := Int.eq_ofNat_of_zero_le hr1
 simp only [Int.toNat_natCast] at *
 go_enter Tryz.func39, Tryz.ntmps39
 go_wp2_with (go_at_call 57; ((with_reducible refine HN.out.mono ?_); rintro e w1 ⟨rfl, h1, o1⟩; have H1 := Lib.hid h1; have d0 := h1.c0; have d1 := h1.c1; have hsz := h1.sz; unfold maxLen at hsz; have hf1 : ∀ o, w1.frozen? ⟨b, o, none⟩ = false := h1.frozen; clear h1))
 go_ret
 exact ⟨rfl, H1.out.setS _ (Nat.le_trans (tl_size s1 _) H1.out.sz), o1.set1⟩
set_option maxHeartbeats 1000000 in
theorem rend_any {b : Nat} {s : ByteArray} {e0 : Int} {w : World} (h : RR w b s e0) : Calls Tryz.prog 43 #[.pointer (some ⟨b, 0, none⟩)] w (RIntPost b w (endE s e0) s (endE s e0)) := by
 have HH := Lib.hid h
 have c0 := h.c0
 have c1 := h.c1
 have hf : ∀ o, w.frozen? ⟨b, o, none⟩ = false := h.frozen
 clear h
 by_cases he : e0 = 0
 ·subst he
  by_cases hs : s.size = 0
  ·have := empty_of hs
   subst this
   have e1 : endE ⟨#[]⟩ 0 = 0 := by unfold endE; rw [if_neg (by simp [ByteArray.size])]
   rw [e1]
   clear hs e1
   go_enter Tryz.func43, Tryz.ntmps43
   go_wp2
   go_ret
   exact ⟨rfl, HH.out, Only.refl _ _⟩
  ·have e1 : endE s 0 = 8 := by unfold endE; rw [if_pos ⟨rfl, hs⟩]
   rw [e1]
   have hne := ne_empty hs
   clear hs e1
   go_enter Tryz.func43, Tryz.ntmps43
   go_wp2
   go_ret
   exact ⟨rfl, HH.out.setE 8, (Only.refl _ _).set1⟩
 ·have e1 : endE s e0 = e0 := by unfold endE; rw [if_neg (fun h => he h.1)]
  rw [e1]
  have he1 : (e0 == 0) = false := by simpa using he
  clear he e1
  go_enter Tryz.func43, Tryz.ntmps43
  go_wp2
  go_ret
  exact ⟨rfl, HH.out, Only.refl _ _⟩
end Go.Proofs.YtghbjknpffiaiaaGreat

namespace Go.Proofs.YtghbjknpffiaiaaGreat
open Go.RowKit Wire
set_option linter.unusedVariables false
set_option linter.unusedSimpArgs false
namespace Ms
structure RS where
 s : ByteArray
 e : Int
abbrev Ls := List UInt8
def bl (s : ByteArray) : Ls := s.data.toList
theorem bl_len (s : ByteArray) : (bl s).length = s.size := by unfold bl; simp
theorem bl_inj {s t : ByteArray} (h : bl s = bl t) : s = t := ByteArray.ext (Array.toList_inj.1 h)
theorem bl_app (a b : ByteArray) : bl (a ++ b) = bl a ++ bl b := by unfold bl; rw [ByteArray.data_append]; simp
theorem bl_leb (x : Int) : bl (Num.lebS x) = Num.leb x.toNat := by unfold bl Num.lebS; simp
theorem bl_tl (s : ByteArray) (n : Nat) : bl (tl s n) = (bl s).drop n := by
 unfold tl bl
 have : (s.extract n s.size).data.toList = (s.data.toList.take (n + (s.size - n))).drop n := by simp [List.take_drop]
 rw [this, List.take_of_length_le (by simp; omega)]
theorem rd_ok2 {s : ByteArray} {x : Nat} {R : Ls} (hx : x < 18446744073709551616) (h : bl s = Num.leb x ++ R) : rdS s = (x, (Num.leb x).length, 0) := by
 unfold rdS; unfold bl at h; rw [h]; exact Num.rd_leb x hx R
theorem numf {s : ByteArray} {x : Nat} {R : Ls} (hx : x < 18446744073709551616) (h : bl s = Num.leb x ++ R) {c : Int} (hc : c = 0) :
  numV s 0 c = (x : Int) ∧ numE s 0 c = 0 ∧ bl (numS s 0 c) = R := by
 subst hc
 have hr := rd_ok2 hx h
 have h0 : (rdS s).2.2 = 0 := by rw [hr]
 refine ⟨by unfold numV; rw [if_pos ⟨rfl, h0, rfl⟩, hr], by unfold numE; rw [if_pos rfl, if_pos h0], ?_⟩
 unfold numS
 rw [if_pos ⟨rfl, h0, rfl⟩, hr, bl_tl, h]
 simp
theorem numb {s : ByteArray} {e0 c : Int} (h : numE s e0 c = 0) : e0 = 0 ∧ c = 0 ∧ U64 (numV s e0 c) ∧ numV s e0 c = xI s ∧ bl s = Num.leb (numV s e0 c).toNat ++ bl (numS s e0 c) := by
 unfold numE at h
 by_cases h0 : e0 = 0
 ·rw [if_pos h0] at h
  by_cases h1 : (rdS s).2.2 = 0
  ·rw [if_pos h1] at h
   refine ⟨h0, h, numV_U64 _ _ _, ?_, ?_⟩
   ·unfold numV xI; rw [if_pos ⟨h0, h1, h⟩]
   ·unfold numV numS
    rw [if_pos ⟨h0, h1, h⟩, if_pos ⟨h0, h1, h⟩]
    have hr : Num.rd s.data.toList = ((rdS s).1, (rdS s).2.1, 0) := by rw [← h1]; rfl
    obtain ⟨hn, hl, _, _⟩ := Num.rd_ok hr
    rw [bl_tl, Int.toNat_natCast, hl]
    unfold bl
    rw [List.take_append_drop]
  ·rw [if_neg h1] at h
   omega
 ·rw [if_neg h0] at h
  exact absurd h h0
def uV (m : Int) (q : RS) : Int := numV q.s q.e (uC q.s m)
def uS (m : Int) (q : RS) : RS := ⟨numS q.s q.e (uC q.s m), numE q.s q.e (uC q.s m)⟩
def iV (q : RS) : Int := Num.zag (numV q.s q.e (iC q.s (-9223372036854775808) 9223372036854775807))
def iS (q : RS) : RS := ⟨numS q.s q.e (iC q.s (-9223372036854775808) 9223372036854775807), numE q.s q.e (iC q.s (-9223372036854775808) 9223372036854775807)⟩
def tV (m : Int) (q : RS) : ByteArray := txV q.s q.e m
def tS (m : Int) (q : RS) : RS := ⟨txS q.s q.e m, txE q.s q.e m⟩
def cV (m : Int) (q : RS) : Int := numV q.s q.e (cC q.s m)
def cS (m : Int) (q : RS) : RS := ⟨numS q.s q.e (cC q.s m), numE q.s q.e (cC q.s m)⟩
def wU (x : Int) : Ls := Num.leb x.toNat
def wI (x : Int) : Ls := Num.leb (Num.zig x).toNat
def wT (t : ByteArray) : Ls := Num.leb t.size ++ bl t
theorem wU_pos (x : Int) : 1 ≤ (wU x).length := Num.leb_pos _
theorem wI_pos (x : Int) : 1 ≤ (wI x).length := Num.leb_pos _
theorem bl_textS (t : ByteArray) : bl (textS t) = wT t := by unfold textS wT; rw [bl_app, bl_leb]; rfl
theorem bl_intS (x : Int) : bl (intS x) = wI x := bl_leb _
structure Law {α : Type} (r : RS → α × RS) (w : α → Ls) (ok : α → Prop) : Prop where
 fwd : ∀ (a : α) (q : RS) (R : Ls), ok a → q.e = 0 → bl q.s = w a ++ R → (r q).1 = a ∧ (r q).2.e = 0 ∧ bl (r q).2.s = R
 bwd : ∀ q : RS, (r q).2.e = 0 → q.e = 0 ∧ ok (r q).1 ∧ bl q.s = w (r q).1 ++ bl (r q).2.s
def rU (m : Int) (q : RS) : Int × RS := (uV m q, uS m q)
def rI (q : RS) : Int × RS := (iV q, iS q)
def rT (m : Int) (q : RS) : ByteArray × RS := (tV m q, tS m q)
theorem law_u {m : Int} (hm : m ≤ 18446744073709551615) : Law (rU m) wU (fun x => 0 ≤ x ∧ x ≤ m) := by
 refine ⟨fun x q R hx he hb => ?_, fun q he => ?_⟩
 ·obtain ⟨s, e⟩ := q
  dsimp only at he hb
  subst he
  have hxx : ((x.toNat : Nat) : Int) = x := by omega
  have hr := rd_ok2 (x := x.toNat) (by omega) hb
  have hc : uC s m = 0 := by unfold uC xI; rw [hr]; dsimp only; rw [if_neg (by omega)]
  have h := numf (x := x.toNat) (by omega) hb hc
  rw [hxx] at h
  exact h
 ·obtain ⟨h1, h2, h3, h4, h5⟩ := numb he
  refine ⟨h1, ⟨h3.1, ?_⟩, h5⟩
  show numV q.s q.e (uC q.s m) ≤ m
  rw [h4]
  unfold uC at h2
  split at h2 <;> omega
theorem law_i : Law rI wI I64 := by
 refine ⟨fun x q R hx he hb => ?_, fun q he => ?_⟩
 ·obtain ⟨s, e⟩ := q
  dsimp only at he hb
  subst he
  have hz := Num.zig_range x hx.1 hx.2
  have hxx : (((Num.zig x).toNat : Nat) : Int) = Num.zig x := by omega
  have hr := rd_ok2 (x := (Num.zig x).toNat) (by omega) hb
  have hc : iC s (-9223372036854775808) 9223372036854775807 = 0 := by
   have hxi : xI s = Num.zig x := by unfold xI; rw [hr]; exact hxx
   unfold iC
   rw [hxi, Num.zag_zig]
   unfold I64 at hx
   rw [if_neg (by omega)]
  have h := numf (x := (Num.zig x).toNat) (by omega) hb hc
  rw [hxx] at h
  refine ⟨?_, h.2⟩
  show Num.zag (numV s 0 _) = x
  rw [h.1, Num.zag_zig]
 ·obtain ⟨h1, h2, h3, h4, h5⟩ := numb he
  have hz := Num.zag_range _ h3.1 h3.2
  refine ⟨h1, ?_, ?_⟩
  ·show I64 (Num.zag _)
   unfold I64; omega
  ·unfold wI
   show bl q.s = Num.leb (Num.zig (Num.zag (numV q.s q.e _))).toNat ++ _
   rw [Num.zig_zag _ h3.1]
   exact h5
theorem cnt_zero {s : ByteArray} {m : Int} (h : cC s m = 0) : 0 ≤ m ∧ xI s ≤ m ∧ xI s ≤ s.size - nI s := by
 rcases cC_cases s m with ⟨_, e⟩ | ⟨_, _, _, e⟩ | ⟨h1, h2, h3, _⟩
 ·omega
 ·omega
 ·exact ⟨h1, h2, h3⟩
theorem cnt_fwd {m : Int} {n : Nat} {q : RS} {R : Ls} (hn : (n : Int) ≤ m) (hm : m ≤ 9223372036854775807) (he : q.e = 0) (hb : bl q.s = Num.leb n ++ R) (hR : n ≤ R.length) : cV m q = n ∧ (cS m q).e = 0 ∧ bl (cS m q).s = R := by
 obtain ⟨s, e⟩ := q
 dsimp only at he hb
 subst he
 have hr := rd_ok2 (x := n) (by omega) hb
 have hsz : s.size = (Num.leb n).length + R.length := by rw [← bl_len, hb, List.length_append]
 have hc : cC s m = 0 := by
  have hxI : xI s = n := by unfold xI; rw [hr]
  have hnI : nI s = ((Num.leb n).length : Nat) := by unfold nI; rw [hr]
  unfold cC cntC
  rw [hxI, hnI, if_neg (by omega), if_neg (by omega)]
 exact numf (x := n) (by omega) hb hc
theorem cnt_bwd {m : Int} {q : RS} (he : (cS m q).e = 0) : q.e = 0 ∧ ∃ n : Nat, cV m q = n ∧ (n : Int) ≤ m ∧ n ≤ (bl (cS m q).s).length ∧ bl q.s = Num.leb n ++ bl (cS m q).s := by
 obtain ⟨h1, h2, h3, h4, h5⟩ := numb he
 obtain ⟨k1, k2, k3⟩ := cnt_zero h2
 refine ⟨h1, (cV m q).toNat, ?_, ?_, ?_, h5⟩
 ·have := h3.1; unfold cV; omega
 ·have : cV m q = xI q.s := h4
  have := h3.1
  unfold cV at *
  omega
 ·have hl := congrArg List.length h5
  rw [bl_len, List.length_append] at hl
  have hn : nI q.s = ((Num.leb (cV m q).toNat).length : Nat) := by
   have hr := rd_ok2 (x := (cV m q).toNat) (s := q.s) (R := bl (cS m q).s) (by have := h3.1; have := h3.2; unfold cV; omega) h5
   unfold nI
   rw [hr]
  have hv : cV m q = xI q.s := h4
  have hl2 : (bl (numS q.s q.e (cC q.s m))).length = (bl (cS m q).s).length := rfl
  have hl3 : (Num.leb (numV q.s q.e (cC q.s m)).toNat).length = (Num.leb (cV m q).toNat).length := rfl
  have := h3.1
  have e2 : numV q.s q.e (cC q.s m) = cV m q := rfl
  rw [e2] at this
  omega
theorem law_t {m : Int} (hm : m ≤ 9223372036854775807) : Law (rT m) wT (fun t => (t.size : Int) ≤ m) := by
 have key : ∀ q : RS, (cS m q).e = 0 → tV m q = (cS m q).s.extract 0 (cV m q).toNat ∧ (tS m q).e = 0 ∧ (tS m q).s = tl (cS m q).s (cV m q).toNat := fun q he => by
  refine ⟨rfl, he, ?_⟩
  show txS q.s q.e m = _
  unfold txS
  rw [if_pos (show numE q.s q.e (cC q.s m) = 0 from he)]
  rfl
 refine ⟨fun t q R ht he hb => ?_, fun q he => ?_⟩
 ·unfold wT at hb
  rw [List.append_assoc] at hb
  obtain ⟨h1, h2, h3⟩ := cnt_fwd (n := t.size) ht hm he hb (by rw [List.length_append, bl_len]; omega)
  obtain ⟨k1, k2, k3⟩ := key q h2
  refine ⟨?_, k2, ?_⟩
  ·show tV m q = t
   rw [k1, h1, Int.toNat_natCast]
   apply bl_inj
   have : bl ((cS m q).s.extract 0 t.size) = (bl (cS m q).s).take t.size := by unfold bl; simp
   rw [this, h3, List.take_append_of_le_length (by rw [bl_len]; exact Nat.le_refl _), List.take_of_length_le (by rw [bl_len]; exact Nat.le_refl _)]
  ·show bl (tS m q).s = R
   rw [k3, h1, Int.toNat_natCast, bl_tl, h3, List.drop_append, List.drop_eq_nil_of_le (by rw [bl_len]; exact Nat.le_refl _), bl_len]
   simp
 ·have he' : (cS m q).e = 0 := he
  obtain ⟨h1, n, h2, h3, h4, h5⟩ := cnt_bwd he'
  obtain ⟨k1, k2, k3⟩ := key q he'
  have hsz : (tV m q).size = n := by
   rw [k1, h2, Int.toNat_natCast]
   rw [bl_len] at h4
   simp; omega
  have hl : bl (tV m q) = (bl (cS m q).s).take n := by rw [k1, h2, Int.toNat_natCast]; unfold bl; simp
  refine ⟨h1, ?_, ?_⟩
  ·show ((tV m q).size : Int) ≤ m
   rw [hsz]; exact h3
  ·show bl q.s = wT (tV m q) ++ bl (tS m q).s
   unfold wT
   rw [hsz, hl, k3, h2, Int.toNat_natCast, bl_tl, List.append_assoc, List.take_append_drop]
   exact h5
theorem Law.two {α β : Type} {r1 : RS → α × RS} {w1 : α → Ls} {ok1 : α → Prop} {r2 : RS → β × RS} {w2 : β → Ls} {ok2 : β → Prop} (h1 : Law r1 w1 ok1) (h2 : Law r2 w2 ok2) :
  Law (fun q => (((r1 q).1, (r2 (r1 q).2).1), (r2 (r1 q).2).2)) (fun x : α × β => w1 x.1 ++ w2 x.2) (fun x => ok1 x.1 ∧ ok2 x.2) := by
 refine ⟨fun x q R hx he hb => ?_, fun q he => ?_⟩
 ·rw [List.append_assoc] at hb
  obtain ⟨a1, a2, a3⟩ := h1.fwd x.1 q _ hx.1 he hb
  obtain ⟨b1, b2, b3⟩ := h2.fwd x.2 _ _ hx.2 a2 a3
  exact ⟨by rw [a1, b1], b2, b3⟩
 ·obtain ⟨b1, b2, b3⟩ := h2.bwd _ he
  obtain ⟨a1, a2, a3⟩ := h1.bwd _ b1
  exact ⟨a1, ⟨a2, b2⟩, by rw [List.append_assoc, ← b3]; exact a3⟩
theorem Law.of {α β : Type} {r : RS → α × RS} {w : α → Ls} {ok : α → Prop} (h : Law r w ok) (f : α → β) (g : β → α) (hfg : ∀ b, f (g b) = b) (hgf : ∀ a, g (f a) = a) :
  Law (fun q => (f (r q).1, (r q).2)) (fun b => w (g b)) (fun b => ok (g b)) := by
 refine ⟨fun b q R hx he hb => ?_, fun q he => ?_⟩
 ·obtain ⟨a1, a2, a3⟩ := h.fwd (g b) q R hx he hb
  exact ⟨by dsimp only; rw [a1, hfg], a2, a3⟩
 ·obtain ⟨a1, a2, a3⟩ := h.bwd q he
  exact ⟨a1, by dsimp only; rw [hgf]; exact a2, by dsimp only; rw [hgf]; exact a3⟩
def rdL {α : Type} (r : RS → α × RS) : Nat → RS → List α × RS
 | 0, q => ([], q)
 | n + 1, q => if q.e ≠ 0 then ([], q) else (let x := r q; let y := rdL r n x.2; (x.1 :: y.1, y.2))
def wL {α : Type} (w : α → Ls) (l : List α) : Ls := l.flatMap w
theorem rdL_fwd {α : Type} {r : RS → α × RS} {w : α → Ls} {ok : α → Prop} (h : Law r w ok) : ∀ (l : List α) (q : RS) (R : Ls), (∀ x ∈ l, ok x) → q.e = 0 → bl q.s = wL w l ++ R → (rdL r l.length q).1 = l ∧ (rdL r l.length q).2.e = 0 ∧ bl (rdL r l.length q).2.s = R := by
 intro l
 induction l with
 | nil => intro q R _ he hb; exact ⟨rfl, he, by unfold wL at hb; exact hb⟩
 | cons a l ih =>
  intro q R hx he hb
  have hb' : bl q.s = w a ++ (wL w l ++ R) := by rw [hb]; unfold wL; rw [List.flatMap_cons, List.append_assoc]
  obtain ⟨a1, a2, a3⟩ := h.fwd a q _ (hx a List.mem_cons_self) he hb'
  obtain ⟨b1, b2, b3⟩ := ih _ R (fun x h => hx x (List.mem_cons_of_mem _ h)) a2 a3
  rw [List.length_cons]
  unfold rdL
  rw [if_neg (by simp [he])]
  exact ⟨by dsimp only; rw [a1, b1], b2, b3⟩
theorem rdL_bwd {α : Type} {r : RS → α × RS} {w : α → Ls} {ok : α → Prop} (h : Law r w ok) : ∀ (n : Nat) (q : RS), (rdL r n q).2.e = 0 → q.e = 0 ∧ (rdL r n q).1.length = n ∧ (∀ x ∈ (rdL r n q).1, ok x) ∧ bl q.s = wL w (rdL r n q).1 ++ bl (rdL r n q).2.s := by
 intro n
 induction n with
 | zero => intro q he; exact ⟨he, rfl, (fun x h => by cases h), rfl⟩
 | succ n ih =>
  intro q he
  unfold rdL at he ⊢
  by_cases hq : q.e ≠ 0
  ·rw [if_pos hq] at he; exact absurd he hq
  ·rw [if_neg hq] at he ⊢
   dsimp only at he ⊢
   obtain ⟨b1, b2, b3, b4⟩ := ih _ he
   obtain ⟨a1, a2, a3⟩ := h.bwd q b1
   refine ⟨a1, by rw [List.length_cons, b2], fun x hx => ?_, ?_⟩
   ·rcases List.mem_cons.1 hx with e | e
    ·subst e; exact a2
    ·exact b3 x e
   ·rw [a3, b4]; unfold wL; rw [List.flatMap_cons, List.append_assoc]
def rL {α : Type} (m : Int) (r : RS → α × RS) (q : RS) : List α × RS := rdL r (cV m q).toNat (cS m q)
def wLs {α : Type} (w : α → Ls) (l : List α) : Ls := Num.leb l.length ++ wL w l
theorem wL_len {α : Type} {w : α → Ls} (hw : ∀ x, 1 ≤ (w x).length) (l : List α) : l.length ≤ (wL w l).length := by
 unfold wL
 induction l with
 | nil => exact Nat.le_refl _
 | cons a l ih => rw [List.flatMap_cons, List.length_append, List.length_cons]; have := hw a; omega
theorem law_l {α : Type} {r : RS → α × RS} {w : α → Ls} {ok : α → Prop} (h : Law r w ok) (hw : ∀ x, 1 ≤ (w x).length) {m : Int} (hm : m ≤ 9223372036854775807) :
  Law (rL m r) (wLs w) (fun l => (l.length : Int) ≤ m ∧ ∀ x ∈ l, ok x) := by
 refine ⟨fun l q R hx he hb => ?_, fun q he => ?_⟩
 ·unfold wLs at hb
  rw [List.append_assoc] at hb
  obtain ⟨h1, h2, h3⟩ := cnt_fwd (n := l.length) hx.1 hm he hb (by rw [List.length_append]; have := wL_len hw l; omega)
  unfold rL
  rw [h1, Int.toNat_natCast]
  exact rdL_fwd h l _ R hx.2 h2 h3
 ·unfold rL at he ⊢
  obtain ⟨b1, b2, b3, b4⟩ := rdL_bwd h _ _ he
  obtain ⟨h1, n, h2, h3, h4, h5⟩ := cnt_bwd b1
  rw [h2, Int.toNat_natCast] at b2 b3 b4 ⊢
  refine ⟨h1, ⟨by rw [b2]; exact h3, b3⟩, ?_⟩
  unfold wLs
  rw [b2, List.append_assoc, ← b4]
  exact h5
end Ms
end Go.Proofs.YtghbjknpffiaiaaGreat

namespace Go.Proofs.YtghbjknpffiaiaaGreat
open Go.RowKit Wire
set_option linter.unusedVariables false
set_option linter.unusedSimpArgs false
namespace Ms
structure Nm where
 job : Int
 path : ByteArray
 deriving DecidableEq
structure Rs where
 val : Int
 err : Int
 deriving DecidableEq
structure En where
 nm : Nm
 kids : Int
 res : Rs
 deriving DecidableEq
structure Tk where
 path : ByteArray
 fn : Int
 args : List Int
 fuel : Int
 deriving DecidableEq
structure M where
 kind : Int
 job : Int
 tok : ByteArray
 prog : ByteArray
 input : List Int
 fuel : Int
 task : Tk
 epoch : Int
 ents : List En
 epochs : List Int
 names : List Nm
 codes : List Int
 state : Int
 res : Rs
 err : Int
 deriving DecidableEq
def t0 : Tk := ⟨⟨#[]⟩, 0, [], 0⟩
def m0 : M := ⟨0, 0, ⟨#[]⟩, ⟨#[]⟩, [], 0, t0, 0, [], [], [], [], 0, ⟨0, 0⟩, 0⟩
def mx : Int := 18446744073709551615
def rNm (q : RS) : Nm × RS := (⟨uV 18446744073709551615 q, tV 12 (uS 18446744073709551615 q)⟩, tS 12 (uS 18446744073709551615 q))
def wNm (n : Nm) : Ls := wU n.job ++ wT n.path
def okNm (n : Nm) : Prop := (0 ≤ n.job ∧ n.job ≤ 18446744073709551615) ∧ (n.path.size : Int) ≤ 12
theorem law_nm : Law rNm wNm okNm := (Law.two (law_u (m := 18446744073709551615) (by decide)) (law_t (m := 12) (by decide))).of (fun x => (⟨x.1, x.2⟩ : Nm)) (fun n => (n.job, n.path)) (fun _ => rfl) (fun _ => rfl)
def rRs (q : RS) : Rs × RS := (⟨iV q, uV 9999 (iS q)⟩, uS 9999 (iS q))
def wRs (r : Rs) : Ls := wI r.val ++ wU r.err
def okRs (r : Rs) : Prop := I64 r.val ∧ 0 ≤ r.err ∧ r.err ≤ 9999
theorem law_rs : Law rRs wRs okRs := (Law.two law_i (law_u (m := 9999) (by decide))).of (fun x => (⟨x.1, x.2⟩ : Rs)) (fun n => (n.val, n.err)) (fun _ => rfl) (fun _ => rfl)
def rEn (q : RS) : En × RS := (⟨(rNm q).1, uV 16 (rNm q).2, (rRs (uS 16 (rNm q).2)).1⟩, (rRs (uS 16 (rNm q).2)).2)
def wEn (n : En) : Ls := wNm n.nm ++ (wU n.kids ++ wRs n.res)
def okEn (n : En) : Prop := okNm n.nm ∧ (0 ≤ n.kids ∧ n.kids ≤ 16) ∧ okRs n.res
theorem law_en : Law rEn wEn okEn := (Law.two law_nm (Law.two (law_u (m := 16) (by decide)) law_rs)).of (fun x => (⟨x.1, x.2.1, x.2.2⟩ : En)) (fun n => (n.nm, n.kids, n.res)) (fun _ => rfl) (fun _ => rfl)
def rTk (q : RS) : Tk × RS := (⟨tV 12 q, uV 15 (tS 12 q), (rL 16 rI (uS 15 (tS 12 q))).1, uV 65536 (rL 16 rI (uS 15 (tS 12 q))).2⟩, uS 65536 (rL 16 rI (uS 15 (tS 12 q))).2)
def wTk (t : Tk) : Ls := wT t.path ++ (wU t.fn ++ (wLs wI t.args ++ wU t.fuel))
def okTk (t : Tk) : Prop := (t.path.size : Int) ≤ 12 ∧ (0 ≤ t.fn ∧ t.fn ≤ 15) ∧ ((t.args.length : Int) ≤ 16 ∧ ∀ x ∈ t.args, I64 x) ∧ 0 ≤ t.fuel ∧ t.fuel ≤ 65536
theorem law_tk : Law rTk wTk okTk := (Law.two (law_t (m := 12) (by decide)) (Law.two (law_u (m := 15) (by decide)) (Law.two (law_l law_i wI_pos (m := 16) (by decide)) (law_u (m := 65536) (by decide))))).of (fun x => (⟨x.1, x.2.1, x.2.2.1, x.2.2.2⟩ : Tk)) (fun n => (n.path, n.fn, n.args, n.fuel)) (fun _ => rfl) (fun _ => rfl)
theorem wNm_pos (n : Nm) : 1 ≤ (wNm n).length := by unfold wNm; rw [List.length_append]; have := wU_pos n.job; omega
theorem wEn_pos (n : En) : 1 ≤ (wEn n).length := by unfold wEn; rw [List.length_append]; have := wNm_pos n.nm; omega
inductive Pt where
 | J | T | P | I | F | K | E | N | H | A | C | S | R | X
 deriving DecidableEq
def rp : Pt → M → RS → M × RS
 | .J, m, q => ({ m with job := uV 18446744073709551615 q }, uS 18446744073709551615 q)
 | .T, m, q => ({ m with tok := tV 32 q }, tS 32 q)
 | .P, m, q => ({ m with prog := tV 16384 q }, tS 16384 q)
 | .I, m, q => ({ m with input := (rL 16 rI q).1 }, (rL 16 rI q).2)
 | .F, m, q => ({ m with fuel := uV 65536 q }, uS 65536 q)
 | .K, m, q => ({ m with task := (rTk q).1 }, (rTk q).2)
 | .E, m, q => ({ m with epoch := uV 281474976710656 q }, uS 281474976710656 q)
 | .N, m, q => ({ m with ents := (rL 128 rEn q).1 }, (rL 128 rEn q).2)
 | .H, m, q => ({ m with epochs := (rL 128 (rU 281474976710656) q).1 }, (rL 128 (rU 281474976710656) q).2)
 | .A, m, q => ({ m with names := (rL 128 rNm q).1 }, (rL 128 rNm q).2)
 | .C, m, q => ({ m with codes := (rL 128 (rU 9999) q).1 }, (rL 128 (rU 9999) q).2)
 | .S, m, q => ({ m with state := uV 3 q }, uS 3 q)
 | .R, m, q => ({ m with res := (rRs q).1 }, (rRs q).2)
 | .X, m, q => ({ m with err := uV 9999 q }, uS 9999 q)
def wp : Pt → M → Ls
 | .J, m => wU m.job
 | .T, m => wT m.tok
 | .P, m => wT m.prog
 | .I, m => wLs wI m.input
 | .F, m => wU m.fuel
 | .K, m => wTk m.task
 | .E, m => wU m.epoch
 | .N, m => wLs wEn m.ents
 | .H, m => wLs wU m.epochs
 | .A, m => wLs wNm m.names
 | .C, m => wLs wU m.codes
 | .S, m => wU m.state
 | .R, m => wRs m.res
 | .X, m => wU m.err
def okp : Pt → M → Prop
 | .J, m => 0 ≤ m.job ∧ m.job ≤ 18446744073709551615
 | .T, m => (m.tok.size : Int) ≤ 32
 | .P, m => (m.prog.size : Int) ≤ 16384
 | .I, m => (m.input.length : Int) ≤ 16 ∧ ∀ x ∈ m.input, I64 x
 | .F, m => 0 ≤ m.fuel ∧ m.fuel ≤ 65536
 | .K, m => okTk m.task
 | .E, m => 0 ≤ m.epoch ∧ m.epoch ≤ 281474976710656
 | .N, m => (m.ents.length : Int) ≤ 128 ∧ ∀ x ∈ m.ents, okEn x
 | .H, m => (m.epochs.length : Int) ≤ 128 ∧ ∀ x ∈ m.epochs, 0 ≤ x ∧ x ≤ 281474976710656
 | .A, m => (m.names.length : Int) ≤ 128 ∧ ∀ x ∈ m.names, okNm x
 | .C, m => (m.codes.length : Int) ≤ 128 ∧ ∀ x ∈ m.codes, 0 ≤ x ∧ x ≤ 9999
 | .S, m => 0 ≤ m.state ∧ m.state ≤ 3
 | .R, m => okRs m.res
 | .X, m => 0 ≤ m.err ∧ m.err ≤ 9999
def cp : Pt → M → M → M
 | .J, m, t => { t with job := m.job }
 | .T, m, t => { t with tok := m.tok }
 | .P, m, t => { t with prog := m.prog }
 | .I, m, t => { t with input := m.input }
 | .F, m, t => { t with fuel := m.fuel }
 | .K, m, t => { t with task := m.task }
 | .E, m, t => { t with epoch := m.epoch }
 | .N, m, t => { t with ents := m.ents }
 | .H, m, t => { t with epochs := m.epochs }
 | .A, m, t => { t with names := m.names }
 | .C, m, t => { t with codes := m.codes }
 | .S, m, t => { t with state := m.state }
 | .R, m, t => { t with res := m.res }
 | .X, m, t => { t with err := m.err }
theorem rp_fwd (p : Pt) (m t : M) (q : RS) (R : Ls) (hx : okp p m) (he : q.e = 0) (hb : bl q.s = wp p m ++ R) : (rp p t q).1 = cp p m t ∧ (rp p t q).2.e = 0 ∧ bl (rp p t q).2.s = R := by
 cases p
 case J => have h := (law_u (m := 18446744073709551615) (by decide)).fwd m.job q R hx he hb; exact ⟨congrArg (fun x => ({ t with job := x } : M)) h.1, h.2⟩
 case T => have h := (law_t (m := 32) (by decide)).fwd m.tok q R hx he hb; exact ⟨congrArg (fun x => ({ t with tok := x } : M)) h.1, h.2⟩
 case P => have h := (law_t (m := 16384) (by decide)).fwd m.prog q R hx he hb; exact ⟨congrArg (fun x => ({ t with prog := x } : M)) h.1, h.2⟩
 case I => have h := (law_l law_i wI_pos (m := 16) (by decide)).fwd m.input q R hx he hb; exact ⟨congrArg (fun x => ({ t with input := x } : M)) h.1, h.2⟩
 case F => have h := (law_u (m := 65536) (by decide)).fwd m.fuel q R hx he hb; exact ⟨congrArg (fun x => ({ t with fuel := x } : M)) h.1, h.2⟩
 case K => have h := law_tk.fwd m.task q R hx he hb; exact ⟨congrArg (fun x => ({ t with task := x } : M)) h.1, h.2⟩
 case E => have h := (law_u (m := 281474976710656) (by decide)).fwd m.epoch q R hx he hb; exact ⟨congrArg (fun x => ({ t with epoch := x } : M)) h.1, h.2⟩
 case N => have h := (law_l law_en wEn_pos (m := 128) (by decide)).fwd m.ents q R hx he hb; exact ⟨congrArg (fun x => ({ t with ents := x } : M)) h.1, h.2⟩
 case H => have h := (law_l (law_u (m := 281474976710656) (by decide)) wU_pos (m := 128) (by decide)).fwd m.epochs q R hx he hb; exact ⟨congrArg (fun x => ({ t with epochs := x } : M)) h.1, h.2⟩
 case A => have h := (law_l law_nm wNm_pos (m := 128) (by decide)).fwd m.names q R hx he hb; exact ⟨congrArg (fun x => ({ t with names := x } : M)) h.1, h.2⟩
 case C => have h := (law_l (law_u (m := 9999) (by decide)) wU_pos (m := 128) (by decide)).fwd m.codes q R hx he hb; exact ⟨congrArg (fun x => ({ t with codes := x } : M)) h.1, h.2⟩
 case S => have h := (law_u (m := 3) (by decide)).fwd m.state q R hx he hb; exact ⟨congrArg (fun x => ({ t with state := x } : M)) h.1, h.2⟩
 case R => have h := law_rs.fwd m.res q R hx he hb; exact ⟨congrArg (fun x => ({ t with res := x } : M)) h.1, h.2⟩
 case X => have h := (law_u (m := 9999) (by decide)).fwd m.err q R hx he hb; exact ⟨congrArg (fun x => ({ t with err := x } : M)) h.1, h.2⟩
theorem rp_bwd (p : Pt) (t : M) (q : RS) (he : (rp p t q).2.e = 0) : q.e = 0 ∧ okp p (rp p t q).1 ∧ bl q.s = wp p (rp p t q).1 ++ bl (rp p t q).2.s ∧ cp p (rp p t q).1 t = (rp p t q).1 := by
 cases p
 case J => have h := (law_u (m := 18446744073709551615) (by decide)).bwd q he; exact ⟨h.1, h.2.1, h.2.2, rfl⟩
 case T => have h := (law_t (m := 32) (by decide)).bwd q he; exact ⟨h.1, h.2.1, h.2.2, rfl⟩
 case P => have h := (law_t (m := 16384) (by decide)).bwd q he; exact ⟨h.1, h.2.1, h.2.2, rfl⟩
 case I => have h := (law_l law_i wI_pos (m := 16) (by decide)).bwd q he; exact ⟨h.1, h.2.1, h.2.2, rfl⟩
 case F => have h := (law_u (m := 65536) (by decide)).bwd q he; exact ⟨h.1, h.2.1, h.2.2, rfl⟩
 case K => have h := law_tk.bwd q he; exact ⟨h.1, h.2.1, h.2.2, rfl⟩
 case E => have h := (law_u (m := 281474976710656) (by decide)).bwd q he; exact ⟨h.1, h.2.1, h.2.2, rfl⟩
 case N => have h := (law_l law_en wEn_pos (m := 128) (by decide)).bwd q he; exact ⟨h.1, h.2.1, h.2.2, rfl⟩
 case H => have h := (law_l (law_u (m := 281474976710656) (by decide)) wU_pos (m := 128) (by decide)).bwd q he; exact ⟨h.1, h.2.1, h.2.2, rfl⟩
 case A => have h := (law_l law_nm wNm_pos (m := 128) (by decide)).bwd q he; exact ⟨h.1, h.2.1, h.2.2, rfl⟩
 case C => have h := (law_l (law_u (m := 9999) (by decide)) wU_pos (m := 128) (by decide)).bwd q he; exact ⟨h.1, h.2.1, h.2.2, rfl⟩
 case S => have h := (law_u (m := 3) (by decide)).bwd q he; exact ⟨h.1, h.2.1, h.2.2, rfl⟩
 case R => have h := law_rs.bwd q he; exact ⟨h.1, h.2.1, h.2.2, rfl⟩
 case X => have h := (law_u (m := 9999) (by decide)).bwd q he; exact ⟨h.1, h.2.1, h.2.2, rfl⟩
theorem cp_ne {p p' : Pt} (h : p ≠ p') (x y t : M) : wp p (cp p' x y) = wp p y ∧ (okp p (cp p' x y) ↔ okp p y) ∧ cp p (cp p' x y) t = cp p y t := by
 cases p <;> cases p' <;> first | exact absurd rfl h | exact ⟨rfl, Iff.rfl, rfl⟩
theorem rp_kind (p : Pt) (y : M) (q : RS) : (rp p y q).1.kind = y.kind := by cases p <;> rfl
def rps : List Pt → M → RS → M × RS
 | [], m, q => (m, q)
 | p :: l, m, q => rps l (rp p m q).1 (rp p m q).2
def cps : List Pt → M → M → M
 | [], _, t => t
 | p :: l, m, t => cps l m (cp p m t)
def wps (l : List Pt) (m : M) : Ls := l.flatMap fun p => wp p m
theorem rps_fwd : ∀ (l : List Pt) (m t : M) (q : RS) (R : Ls), (∀ p ∈ l, okp p m) → q.e = 0 → bl q.s = wps l m ++ R → (rps l t q).1 = cps l m t ∧ (rps l t q).2.e = 0 ∧ bl (rps l t q).2.s = R := by
 intro l
 induction l with
 | nil => intro m t q R _ he hb; exact ⟨rfl, he, hb⟩
 | cons p l ih =>
  intro m t q R hx he hb
  have hb' : bl q.s = wp p m ++ (wps l m ++ R) := by rw [hb]; unfold wps; rw [List.flatMap_cons, List.append_assoc]
  obtain ⟨a1, a2, a3⟩ := rp_fwd p m t q _ (hx p List.mem_cons_self) he hb'
  obtain ⟨b1, b2, b3⟩ := ih m (rp p t q).1 (rp p t q).2 R (fun x h => hx x (List.mem_cons_of_mem _ h)) a2 a3
  exact ⟨by unfold rps cps; rw [b1, a1], b2, b3⟩
theorem cps_ne : ∀ (l : List Pt) (p : Pt) (_ : p ∉ l) (x y t : M), wp p (cps l x y) = wp p y ∧ (okp p (cps l x y) ↔ okp p y) ∧ cp p (cps l x y) t = cp p y t := by
 intro l
 induction l with
 | nil => intro p _ x y t; exact ⟨rfl, Iff.rfl, rfl⟩
 | cons p' l ih =>
  intro p hp x y t
  obtain ⟨a1, a2, a3⟩ := ih p (fun h => hp (List.mem_cons_of_mem _ h)) x (cp p' x y) t
  obtain ⟨b1, b2, b3⟩ := cp_ne (p := p) (p' := p') (fun e => hp (by rw [e]; exact List.mem_cons_self)) x y t
  exact ⟨a1.trans b1, a2.trans b2, a3.trans b3⟩
theorem rps_bwd : ∀ (l : List Pt) (_ : l.Nodup) (t : M) (q : RS), (rps l t q).2.e = 0 → q.e = 0 ∧ (∀ p ∈ l, okp p (rps l t q).1) ∧ bl q.s = wps l (rps l t q).1 ++ bl (rps l t q).2.s ∧ cps l (rps l t q).1 t = (rps l t q).1 := by
 intro l
 induction l with
 | nil => intro _ t q he; exact ⟨he, (fun p h => by cases h), rfl, rfl⟩
 | cons p l ih =>
  intro hd t q he
  rw [List.nodup_cons] at hd
  obtain ⟨b1, b2, b3, b4⟩ := ih hd.2 (rp p t q).1 (rp p t q).2 he
  obtain ⟨a1, a2, a3, a4⟩ := rp_bwd p t q b1
  have hf : rps (p :: l) t q = rps l (rp p t q).1 (rp p t q).2 := rfl
  rw [hf]
  generalize rps l (rp p t q).1 (rp p t q).2 = fin at *
  have hc := cps_ne l p hd.1 fin.1 (rp p t q).1 t
  rw [b4] at hc
  refine ⟨a1, fun p' hp => ?_, ?_, ?_⟩
  ·rcases List.mem_cons.1 hp with e | e
   ·rw [e]; exact hc.2.1.2 a2
   ·exact b2 p' e
  ·unfold wps at b3 ⊢
   rw [List.flatMap_cons, List.append_assoc, ← b3, hc.1]
   exact a3
  ·unfold cps
   rw [hc.2.2, a4]
   exact b4
theorem rps_kind : ∀ (l : List Pt) (t : M) (q : RS), (rps l t q).1.kind = t.kind := by
 intro l
 induction l with
 | nil => intro t q; rfl
 | cons p l ih => intro t q; unfold rps; rw [ih, rp_kind]
def kp (k : Int) : List Pt :=
 if k = 3 then [.F] else if k = 4 then [.N, .H] else if k = 6 then [.X] else if k = 7 then [.J, .P, .K, .E, .N, .A] else if k = 8 then [.C] else if k = 9 then [.F] else if k = 10 then [.J, .K, .E] else
 if k = 11 then [.N] else if k = 12 then [.H, .A] else if k = 13 then [.T, .P, .I, .F] else if k = 14 then [.J] else if k = 15 then [.J] else if k = 16 then [.J] else if k = 17 then [.J, .S, .R] else []
theorem nd_ite {c : Prop} [Decidable c] {a b : List Pt} (ha : a.Nodup) (hb : b.Nodup) : (if c then a else b).Nodup := by
 by_cases h : c
 ·rw [if_pos h]; exact ha
 ·rw [if_neg h]; exact hb
theorem kp_nodup (k : Int) : (kp k).Nodup := by
 unfold kp
 repeat refine nd_ite (by decide) ?_
 exact List.nodup_nil
def raw (m : M) : Ls := wU m.kind ++ wps (kp m.kind) m
def onlyM (m : M) : M := cps (kp m.kind) m { m0 with kind := m.kind }
def readM (q : RS) : M × RS := rps (kp (uV 255 q)) { m0 with kind := uV 255 q } (uS 255 q)
theorem readM_kind (q : RS) : (readM q).1.kind = uV 255 q := rps_kind _ _ _
theorem readM_fwd {m : M} {q : RS} {R : Ls} (hk : 0 ≤ m.kind ∧ m.kind ≤ 255) (hx : ∀ p ∈ kp m.kind, okp p m) (he : q.e = 0) (hb : bl q.s = raw m ++ R) : (readM q).1 = onlyM m ∧ (readM q).2.e = 0 ∧ bl (readM q).2.s = R := by
 unfold raw at hb
 rw [List.append_assoc] at hb
 obtain ⟨a1, a2, a3⟩ := (law_u (m := 255) (by decide)).fwd m.kind q _ hk he hb
 have a1' : uV 255 q = m.kind := a1
 unfold readM
 rw [a1']
 exact rps_fwd _ _ _ _ R hx a2 a3
theorem readM_bwd {q : RS} (he : (readM q).2.e = 0) : q.e = 0 ∧ (0 ≤ (readM q).1.kind ∧ (readM q).1.kind ≤ 255) ∧ (∀ p ∈ kp (readM q).1.kind, okp p (readM q).1) ∧ bl q.s = raw (readM q).1 ++ bl (readM q).2.s ∧ onlyM (readM q).1 = (readM q).1 := by
 have hk := readM_kind q
 obtain ⟨b1, b2, b3, b4⟩ := rps_bwd _ (kp_nodup _) _ _ he
 obtain ⟨a1, a2, a3⟩ := (law_u (m := 255) (by decide)).bwd q b1
 refine ⟨a1, ?_, ?_, ?_, ?_⟩
 ·rw [hk]; exact a2
 ·rw [hk]; exact b2
 ·unfold raw
  rw [hk, List.append_assoc]
  exact a3.trans (congrArg _ b3)
 ·unfold onlyM
  rw [hk]
  exact b4
end Ms
end Go.Proofs.YtghbjknpffiaiaaGreat

namespace Go.Proofs.YtghbjknpffiaiaaGreat
open Go.RowKit Wire
set_option linter.unusedVariables false
set_option linter.unusedSimpArgs false
namespace Ms
def pathB (s : ByteArray) : Bool := decide (s.size ≤ 12) && (bl s).all fun c => decide (1 ≤ c.toNat) && decide (c.toNat ≤ 16)
def resB (r : Rs) : Bool := r.err == 0 || r.val == 0
def nb (x most : Int) : Bool := decide (x < 0) || decide (most < x)
def nmW (n : Nm) : Bool := nb n.job 18446744073709551615 || (decide (12 < n.path.size) || !pathB n.path)
def rsW (r : Rs) : Bool := nb r.err 9999 || !resB r
def enW (e : En) : Bool := nmW e.nm || (nb e.kids 16 || rsW e.res)
def wbad : Pt → M → Bool
 | .J, m => nb m.job 18446744073709551615
 | .T, m => decide (32 < m.tok.size)
 | .P, m => decide (16384 < m.prog.size)
 | .I, m => decide (16 < m.input.length)
 | .F, m => nb m.fuel 65536
 | .K, m => (decide (12 < m.task.path.size) || !pathB m.task.path) || (nb m.task.fn 15 || (decide (16 < m.task.args.length) || nb m.task.fuel 65536))
 | .E, m => nb m.epoch 281474976710656
 | .N, m => decide (128 < m.ents.length) || m.ents.any enW
 | .H, m => (decide (128 < m.epochs.length) || m.epochs.any fun x => nb x 281474976710656) || (m.kind == 4 && m.epochs.length != m.ents.length)
 | .A, m => (decide (128 < m.names.length) || m.names.any nmW) || (m.kind == 12 && m.epochs.length != m.names.length)
 | .C, m => decide (128 < m.codes.length) || m.codes.any fun x => nb x 9999
 | .S, m => nb m.state 3
 | .R, m => rsW m.res
 | .X, m => nb m.err 9999
def rbad : Pt → M → Bool
 | .K, m => !pathB m.task.path
 | .N, m => m.ents.any fun e => !pathB e.nm.path || !resB e.res
 | .H, m => m.kind == 4 && m.epochs.length != m.ents.length
 | .A, m => (m.names.any fun n => !pathB n.path) || (m.kind == 12 && m.epochs.length != m.names.length)
 | .R, m => !resB m.res
 | _, _ => false
def bp : Pt → M → Bool
 | .J, m => true
 | .T, m => decide (m.tok.size ≤ 32)
 | .P, m => decide (m.prog.size ≤ 16384)
 | .I, m => decide (m.input.length ≤ 16)
 | .F, m => !nb m.fuel 65536
 | .K, m => pathB m.task.path && (!nb m.task.fn 15 && (decide (m.task.args.length ≤ 16) && !nb m.task.fuel 65536))
 | .E, m => decide (m.epoch ≤ 281474976710656)
 | .N, m => decide (m.ents.length ≤ 128) && m.ents.all fun e => pathB e.nm.path && (!nb e.kids 16 && (!nb e.res.err 9999 && resB e.res))
 | .H, m => decide (m.epochs.length ≤ 128) && m.epochs.all fun x => decide (x ≤ 281474976710656)
 | .A, m => decide (m.names.length ≤ 128) && m.names.all fun n => pathB n.path
 | .C, m => decide (m.codes.length ≤ 128) && m.codes.all fun x => !nb x 9999
 | .S, m => decide (m.state ≤ 3)
 | .R, m => !nb m.res.err 9999 && resB m.res
 | .X, m => !nb m.err 9999
def lb : Pt → M → Bool
 | .H, m => m.kind == 4 && m.epochs.length != m.ents.length
 | .A, m => m.kind == 12 && m.epochs.length != m.names.length
 | _, _ => false
structure TyM (m : M) : Prop where
 kind : 0 ≤ m.kind ∧ m.kind ≤ 255
 job : U64 m.job
 input : ∀ x ∈ m.input, I64 x
 fuel : I64 m.fuel
 fn : I64 m.task.fn
 args : ∀ x ∈ m.task.args, I64 x
 tfuel : I64 m.task.fuel
 epoch : U64 m.epoch
 ents : ∀ e ∈ m.ents, U64 e.nm.job ∧ I64 e.kids ∧ I64 e.res.val ∧ I64 e.res.err
 epochs : ∀ x ∈ m.epochs, U64 x
 names : ∀ n ∈ m.names, U64 n.job
 codes : ∀ x ∈ m.codes, I64 x
 state : 0 ≤ m.state ∧ m.state ≤ 255
 res : I64 m.res.val ∧ I64 m.res.err
 err : I64 m.err
theorem nb_false {x m : Int} : nb x m = false ↔ 0 ≤ x ∧ x ≤ m := by
 unfold nb
 rw [Bool.or_eq_false_iff, decide_eq_false_iff_not, decide_eq_false_iff_not]
 omega
theorem pathB_size {s : ByteArray} (h : pathB s = true) : s.size ≤ 12 := by
 unfold pathB at h
 rw [Bool.and_eq_true, decide_eq_true_eq] at h
 exact h.1
theorem u64_nb {x : Int} (h : U64 x) : nb x 18446744073709551615 = false := nb_false.2 h
theorem path_W (s : ByteArray) : (decide (12 < s.size) || !pathB s) = !pathB s := by
 cases h : pathB s with
 | false => simp
 | true => have := pathB_size h; simp; omega
theorem any_not {α : Type} {l : List α} {f g : α → Bool} (h : ∀ x ∈ l, f x = !g x) : l.any f = !l.all g := by
 induction l with
 | nil => rfl
 | cons a l ih => rw [List.any_cons, List.all_cons, h a List.mem_cons_self, ih (fun x hx => h x (List.mem_cons_of_mem _ hx)), Bool.not_and]
theorem len_not (n k : Nat) : decide (k < n) = !decide (n ≤ k) := by
 by_cases h : n ≤ k
 ·rw [decide_eq_true h, decide_eq_false (by omega)]; rfl
 ·rw [decide_eq_false h, decide_eq_true (by omega)]; rfl
theorem u_not {x k : Int} (h : 0 ≤ x) : nb x k = !decide (x ≤ k) := by
 unfold nb
 rw [decide_eq_false (show ¬ x < 0 by omega), Bool.false_or]
 by_cases h2 : x ≤ k
 ·rw [decide_eq_true h2, decide_eq_false (by omega)]; rfl
 ·rw [decide_eq_false h2, decide_eq_true (by omega)]; rfl
theorem rsW_eq (r : Rs) : rsW r = !(!nb r.err 9999 && resB r) := by unfold rsW; rw [Bool.not_and, Bool.not_not]
theorem nmW_eq {n : Nm} (h : U64 n.job) : nmW n = !pathB n.path := by unfold nmW; rw [u64_nb h, Bool.false_or, path_W]
theorem enW_eq {e : En} (h : U64 e.nm.job) : enW e = !(pathB e.nm.path && (!nb e.kids 16 && (!nb e.res.err 9999 && resB e.res))) := by
 unfold enW; rw [nmW_eq h, rsW_eq]; simp only [Bool.not_and, Bool.not_not]
theorem wbad_eq {m : M} (t : TyM m) (p : Pt) : wbad p m = (!bp p m || lb p m) := by
 cases p
 case J => show nb m.job _ = _; rw [u64_nb t.job]; rfl
 case T => show decide (32 < m.tok.size) = (!decide (m.tok.size ≤ 32) || false); rw [len_not, Bool.or_false]
 case P => show decide (16384 < m.prog.size) = (!decide (m.prog.size ≤ 16384) || false); rw [len_not, Bool.or_false]
 case I => show decide (16 < m.input.length) = (!decide (m.input.length ≤ 16) || false); rw [len_not, Bool.or_false]
 case F => show nb m.fuel _ = (!!nb m.fuel _ || false); rw [Bool.not_not, Bool.or_false]
 case K =>
  show ((decide (12 < m.task.path.size) || !pathB m.task.path) || (nb m.task.fn 15 || (decide (16 < m.task.args.length) || nb m.task.fuel 65536))) = (!(pathB m.task.path && (!nb m.task.fn 15 && (decide (m.task.args.length ≤ 16) && !nb m.task.fuel 65536))) || false)
  rw [path_W, len_not]; simp only [Bool.not_and, Bool.not_not, Bool.or_false]
 case E => show nb m.epoch _ = (!decide (m.epoch ≤ _) || false); rw [u_not t.epoch.1, Bool.or_false]
 case N =>
  show (decide (128 < m.ents.length) || m.ents.any enW) = (!(decide (m.ents.length ≤ 128) && m.ents.all fun e => pathB e.nm.path && (!nb e.kids 16 && (!nb e.res.err 9999 && resB e.res))) || false)
  rw [len_not, any_not (fun e he => enW_eq (t.ents e he).1), Bool.not_and, Bool.or_false]
 case H =>
  show ((decide (128 < m.epochs.length) || m.epochs.any fun x => nb x 281474976710656) || (m.kind == 4 && m.epochs.length != m.ents.length)) = (!(decide (m.epochs.length ≤ 128) && m.epochs.all fun x => decide (x ≤ 281474976710656)) || (m.kind == 4 && m.epochs.length != m.ents.length))
  rw [len_not, any_not (fun x hx => u_not (t.epochs x hx).1), Bool.not_and]
 case A =>
  show ((decide (128 < m.names.length) || m.names.any nmW) || (m.kind == 12 && m.epochs.length != m.names.length)) = (!(decide (m.names.length ≤ 128) && m.names.all fun n => pathB n.path) || (m.kind == 12 && m.epochs.length != m.names.length))
  rw [len_not, any_not (fun x hx => nmW_eq (t.names x hx)), Bool.not_and]
 case C =>
  show (decide (128 < m.codes.length) || m.codes.any fun x => nb x 9999) = (!(decide (m.codes.length ≤ 128) && m.codes.all fun x => !nb x 9999) || false)
  rw [len_not, any_not (g := fun x => !nb x 9999) (fun x hx => by rw [Bool.not_not]), Bool.not_and, Bool.or_false]
 case S => show nb m.state _ = (!decide (m.state ≤ _) || false); rw [u_not t.state.1, Bool.or_false]
 case R => show rsW m.res = (!(!nb m.res.err 9999 && resB m.res) || false); rw [rsW_eq, Bool.or_false]
 case X => show nb m.err _ = (!!nb m.err _ || false); rw [Bool.not_not, Bool.or_false]
theorem all_true {α : Type} {l : List α} {g : α → Bool} (h : ∀ x ∈ l, g x = true) : l.all g = true := List.all_eq_true.2 h
theorem rbad_eq {m : M} {p : Pt} (o : okp p m) : rbad p m = (!bp p m || lb p m) := by
 cases p
 case J => rfl
 case T => have h : m.tok.size ≤ 32 := by unfold okp at o; omega
           show false = (!decide (m.tok.size ≤ 32) || false); rw [decide_eq_true h]; rfl
 case P => have h : m.prog.size ≤ 16384 := by unfold okp at o; omega
           show false = (!decide (m.prog.size ≤ 16384) || false); rw [decide_eq_true h]; rfl
 case I => have h : m.input.length ≤ 16 := by have := o.1; omega
           show false = (!decide (m.input.length ≤ 16) || false); rw [decide_eq_true h]; rfl
 case F => show false = (!!nb m.fuel _ || false); rw [nb_false.2 o]; rfl
 case K =>
  have o' : okTk m.task := o
  obtain ⟨h1, h2, h3, h4⟩ := o'
  show (!pathB m.task.path) = (!(pathB m.task.path && (!nb m.task.fn 15 && (decide (m.task.args.length ≤ 16) && !nb m.task.fuel 65536))) || false)
  rw [nb_false.2 h2, nb_false.2 h4, decide_eq_true (show m.task.args.length ≤ 16 by have := h3.1; omega)]; simp
 case E => have h : m.epoch ≤ 281474976710656 := o.2
           show false = (!decide (m.epoch ≤ 281474976710656) || false); rw [decide_eq_true h]; rfl
 case N =>
  have h : m.ents.length ≤ 128 := by have := o.1; omega
  show (m.ents.any fun e => !pathB e.nm.path || !resB e.res) = (!(decide (m.ents.length ≤ 128) && m.ents.all fun e => pathB e.nm.path && (!nb e.kids 16 && (!nb e.res.err 9999 && resB e.res))) || false)
  rw [decide_eq_true h, Bool.true_and, Bool.or_false]
  refine any_not fun e he => ?_
  obtain ⟨_, h2, h3⟩ := o.2 e he
  rw [nb_false.2 h2, nb_false.2 h3.2]; simp
 case H =>
  have h : m.epochs.length ≤ 128 := by have := o.1; omega
  show (m.kind == 4 && m.epochs.length != m.ents.length) = (!(decide (m.epochs.length ≤ 128) && m.epochs.all fun x => decide (x ≤ 281474976710656)) || (m.kind == 4 && m.epochs.length != m.ents.length))
  rw [decide_eq_true h, all_true (fun x hx => decide_eq_true (o.2 x hx).2)]; rfl
 case A =>
  have h : m.names.length ≤ 128 := by have := o.1; omega
  show ((m.names.any fun n => !pathB n.path) || (m.kind == 12 && m.epochs.length != m.names.length)) = (!(decide (m.names.length ≤ 128) && m.names.all fun n => pathB n.path) || (m.kind == 12 && m.epochs.length != m.names.length))
  rw [decide_eq_true h, Bool.true_and, any_not (fun _ _ => rfl)]
 case C =>
  have h : m.codes.length ≤ 128 := by have := o.1; omega
  show false = (!(decide (m.codes.length ≤ 128) && m.codes.all fun x => !nb x 9999) || false)
  rw [decide_eq_true h, all_true (fun x hx => by rw [nb_false.2 (o.2 x hx)]; rfl)]; rfl
 case S => have h : m.state ≤ 3 := o.2
           show false = (!decide (m.state ≤ 3) || false); rw [decide_eq_true h]; rfl
 case R =>
  have o' : okRs m.res := o
  show (!resB m.res) = (!(!nb m.res.err 9999 && resB m.res) || false)
  rw [nb_false.2 o'.2]; simp
 case X => show false = (!!nb m.err _ || false); rw [nb_false.2 o]; rfl
theorem bp_ok {m : M} (t : TyM m) {p : Pt} (h : bp p m = true) : okp p m := by
 cases p
 case J => exact t.job
 case T => have h' : decide (m.tok.size ≤ 32) = true := h
           have := of_decide_eq_true h'; show (m.tok.size : Int) ≤ 32; omega
 case P => have h' : decide (m.prog.size ≤ 16384) = true := h
           have := of_decide_eq_true h'; show (m.prog.size : Int) ≤ 16384; omega
 case I => have h' : decide (m.input.length ≤ 16) = true := h
           have := of_decide_eq_true h'; exact ⟨by omega, t.input⟩
 case F => have h' : (!nb m.fuel 65536) = true := h
           rw [Bool.not_eq_true'] at h'; exact nb_false.1 h'
 case K =>
  have h' : (pathB m.task.path && (!nb m.task.fn 15 && (decide (m.task.args.length ≤ 16) && !nb m.task.fuel 65536))) = true := h
  simp only [Bool.and_eq_true, Bool.not_eq_true', decide_eq_true_eq] at h'
  obtain ⟨h1, h2, h3, h4⟩ := h'
  exact ⟨by have := pathB_size h1; omega, nb_false.1 h2, ⟨by omega, t.args⟩, nb_false.1 h4⟩
 case E => have h' : decide (m.epoch ≤ 281474976710656) = true := h
           exact ⟨t.epoch.1, of_decide_eq_true h'⟩
 case N =>
  have h' : (decide (m.ents.length ≤ 128) && m.ents.all fun e => pathB e.nm.path && (!nb e.kids 16 && (!nb e.res.err 9999 && resB e.res))) = true := h
  rw [Bool.and_eq_true, decide_eq_true_eq, List.all_eq_true] at h'
  refine ⟨by have := h'.1; omega, fun e he => ?_⟩
  have h2 := h'.2 e he
  simp only [Bool.and_eq_true, Bool.not_eq_true'] at h2
  exact ⟨⟨(t.ents e he).1, by have := pathB_size h2.1; omega⟩, nb_false.1 h2.2.1, (t.ents e he).2.2.1, nb_false.1 h2.2.2.1⟩
 case H =>
  have h' : (decide (m.epochs.length ≤ 128) && m.epochs.all fun x => decide (x ≤ 281474976710656)) = true := h
  rw [Bool.and_eq_true, decide_eq_true_eq, List.all_eq_true] at h'
  exact ⟨by have := h'.1; omega, fun x hx => ⟨(t.epochs x hx).1, of_decide_eq_true (h'.2 x hx)⟩⟩
 case A =>
  have h' : (decide (m.names.length ≤ 128) && m.names.all fun n => pathB n.path) = true := h
  rw [Bool.and_eq_true, decide_eq_true_eq, List.all_eq_true] at h'
  exact ⟨by have := h'.1; omega, fun x hx => ⟨t.names x hx, by have := pathB_size (h'.2 x hx); omega⟩⟩
 case C =>
  have h' : (decide (m.codes.length ≤ 128) && m.codes.all fun x => !nb x 9999) = true := h
  rw [Bool.and_eq_true, decide_eq_true_eq, List.all_eq_true] at h'
  exact ⟨by have := h'.1; omega, fun x hx => by have h2 := h'.2 x hx; rw [Bool.not_eq_true'] at h2; exact nb_false.1 h2⟩
 case S => have h' : decide (m.state ≤ 3) = true := h
           exact ⟨t.state.1, of_decide_eq_true h'⟩
 case R =>
  have h' : (!nb m.res.err 9999 && resB m.res) = true := h
  rw [Bool.and_eq_true, Bool.not_eq_true'] at h'
  exact ⟨t.res.1, nb_false.1 h'.1⟩
 case X => have h' : (!nb m.err 9999) = true := h
           rw [Bool.not_eq_true'] at h'; exact nb_false.1 h'
end Ms
end Go.Proofs.YtghbjknpffiaiaaGreat
