
/- The walks of the document's reader of bricks. No condition but that numbers fit their kinds. -/
import Derived.Test.YtbpakckiglgjfaaWireL
namespace Go.Proofs.Ytbpakckiglgjfaa
open Go.RowKit Wire
set_option linter.unusedVariables false
/-- The document's reader lies in block c. -/
structure RR (w : World) (c : Nat) (s : ByteArray) (e : Int) : Prop where
  blk : Blk w c 67 #[.string s, .int .i64 e]
  sz : s.size ≤ maxLen
theorem RR.c0 {w : World} {b : Nat} {s : ByteArray} {e : Int} (h : RR w b s e) : w.cell? ⟨b, 0, none⟩ = some (.string s) := h.blk.cell 0
theorem RR.c1 {w : World} {b : Nat} {s : ByteArray} {e : Int} (h : RR w b s e) : w.cell? ⟨b, 1, none⟩ = some (.int .i64 e) := h.blk.cell 1
theorem RR.frozen {w : World} {b : Nat} {s : ByteArray} {e : Int} (h : RR w b s e) (o : Nat) : w.frozen? ⟨b, o, none⟩ = false := h.blk.frozen o
theorem RR.alloc {w : World} {b : Nat} {s : ByteArray} {e : Int} (h : RR w b s e) (o : Obj) : RR (w.alloc o) b s e := ⟨h.blk.alloc o, h.sz⟩
theorem RR.only {S : Nat → Prop} {w w' : World} {b : Nat} {s : ByteArray} {e : Int} (h : RR w b s e) (ho : Only S w w') (hs : ¬ S b) : RR w' b s e := ⟨h.blk.only ho hs, h.sz⟩
theorem RR.below {w w' : World} {b : Nat} {s : ByteArray} {e : Int} (h : RR w b s e) (ho : Below w.heap.size w w') : RR w' b s e := ⟨h.blk.below ho, h.sz⟩
theorem RR.drew {w : World} {b : Nat} {s : ByteArray} {e : Int} (h : RR w b s e) : RR w.drew b s e := ⟨h.blk.drew, h.sz⟩
theorem RR.setE {w : World} {b : Nat} {s : ByteArray} {e : Int} (h : RR w b s e) (e' : Int) : RR (w.setCell ⟨b, 1, none⟩ (.int .i64 e')) b s e' := ⟨h.blk.set 1 _, h.sz⟩
theorem RR.setS {w : World} {b : Nat} {s : ByteArray} {e : Int} (h : RR w b s e) (s' : ByteArray) (hs : s'.size ≤ maxLen) : RR (w.setCell ⟨b, 0, none⟩ (.string s')) b s' e := ⟨h.blk.set 0 _, hs⟩
def RNumPost (b : Nat) (w : World) (v : Int) (s' : ByteArray) (e' : Int) (e : Ending) (w' : World) : Prop := e = .returned (.int .u64 v) ∧ RR w' b s' e' ∧ Only (· = b) w w'
def RIntPost (b : Nat) (w : World) (v : Int) (s' : ByteArray) (e' : Int) (e : Ending) (w' : World) : Prop := e = .returned (.int .i64 v) ∧ RR w' b s' e' ∧ Only (· = b) w w'
def RBoolPost (b : Nat) (w : World) (v : Bool) (s' : ByteArray) (e' : Int) (e : Ending) (w' : World) : Prop := e = .returned (.bool v) ∧ RR w' b s' e' ∧ Only (· = b) w w'
def RTextPost (b : Nat) (w : World) (v : ByteArray) (s' : ByteArray) (e' : Int) (e : Ending) (w' : World) : Prop := e = .returned (.string v) ∧ RR w' b s' e' ∧ Only (· = b) w w'
theorem Only.cellq {S : Nat → Prop} {w w' : World} {g o : Nat} {v : Value} (ho : Only S w w') (hc : w.cell? ⟨g, o, none⟩ = some v) (hne : ¬ S g) : w'.cell? ⟨g, o, none⟩ = some v := by
  have hlt : g < w.heap.size := by
    rcases Nat.lt_or_ge g w.heap.size with h | h
    · exact h
    · simp [World.cell?, Array.getElem?_eq_none h] at hc
  rw [← hc]; simp only [World.cell?]; rw [ho.block g hlt hne]
theorem ba_eq {s t : ByteArray} (h : s.data.toList = t.data.toList) : s = t := by
  cases s; cases t; congr; exact Array.toList_inj.1 h
set_option maxHeartbeats 400000 in
theorem rfail_any {b : Nat} {s : ByteArray} {e0 : Int} {w : World} (h : RR w b s e0) (e : Int) : Calls Try.prog 64 #[.pointer (some ⟨b, 0, none⟩), .int .i64 e] w fun x w' => x = .returned (.tuple #[]) ∧ w' = w.setCell ⟨b, 1, none⟩ (.int .i64 e) := by
  have c1 := h.c1
  have hf : ∀ o, w.frozen? ⟨b, o, none⟩ = false := h.frozen
  clear h
  go_enter Try.func64, Try.ntmps64
  go_wp2
  go_end0
  exact ⟨rfl, rfl⟩
set_option maxHeartbeats 1000000 in
theorem ruintm_any {b : Nat} {s : ByteArray} {e0 : Int} {w : World} (h : RR w b s e0) (most : Int) :
    Calls Try.prog 38 #[.pointer (some ⟨b, 0, none⟩), .int .u64 most] w (RNumPost b w (numV s e0 (uC s most)) (numS s e0 (uC s most)) (numE s e0 (uC s most))) := by
  have HH := Lib.hid h
  have c0 := h.c0
  have c1 := h.c1
  have hsz := h.sz
  unfold maxLen at hsz
  clear h
  by_cases he : e0 = 0
  · subst he
    by_cases hr : (rdS s).2.2 = 0
    · have r1 : ((((rdS s).2.2 : Nat) : Int) == 0) = true := by simp [hr]
      have r2 : ((((rdS s).2.2 : Nat) : Int) != 0) = false := by simp [hr]
      by_cases hm : most < xI s
      · have ev : numV s 0 (uC s most) = 0 := by simp [numV, uC, hm]
        have es : numS s 0 (uC s most) = s := by simp [numS, uC, hm]
        have ee : numE s 0 (uC s most) = 9 := by simp [numE, uC, hm, hr]
        rw [ev, es, ee]
        unfold xI at hm
        clear ev es ee hr
        go_enter Try.func38, Try.ntmps38
        go_wp2_with (first | (go_at_call 63; ((with_reducible refine (rread_raw s HH.out.sz _).mono ?_); rintro e w1 ⟨rfl, b1⟩; have H1 := Lib.hid (HH.out.below b1); have d0 := H1.out.c0; have d1 := H1.out.c1; have hf1 : ∀ o, w1.frozen? ⟨b, o, none⟩ = false := H1.out.frozen)) | (go_at_call 64; ((with_reducible refine (rfail_any H1.out 9).mono ?_); rintro e w2 ⟨rfl, rfl⟩)))
        go_ret
        exact ⟨rfl, H1.out.setE 9, ((Only.refl _ _).step b1).set1⟩
      · have ev : numV s 0 (uC s most) = xI s := by simp [numV, uC, hm, hr]; rfl
        have es : numS s 0 (uC s most) = tl s (rdS s).2.1 := by simp [numS, uC, hm, hr]
        have ee : numE s 0 (uC s most) = 0 := by simp [numE, uC, hm, hr]
        rw [ev, es, ee]
        have hle := rd_le hr
        unfold xI at hm ⊢
        have hm' : (((rdS s).1 : Nat) : Int) ≤ most := by omega
        clear ev es ee hr hm
        go_enter Try.func38, Try.ntmps38
        go_wp2_with (first | (go_at_call 63; ((with_reducible refine (rread_raw s HH.out.sz _).mono ?_); rintro e w1 ⟨rfl, b1⟩; have H1 := Lib.hid (HH.out.below b1); have d0 := H1.out.c0; have d1 := H1.out.c1; have hf1 : ∀ o, w1.frozen? ⟨b, o, none⟩ = false := H1.out.frozen)))
        go_ret
        exact ⟨rfl, H1.out.setS _ (Nat.le_trans (tl_size s _) HH.out.sz), ((Only.refl _ _).step b1).set1⟩
    · have r1 : ((((rdS s).2.2 : Nat) : Int) == 0) = false := by simp [hr]
      have r2 : ((((rdS s).2.2 : Nat) : Int) != 0) = true := by simp [hr]
      have ev : numV s 0 (uC s most) = 0 := by simp [numV, hr]
      have es : numS s 0 (uC s most) = s := by simp [numS, hr]
      have ee : numE s 0 (uC s most) = ((rdS s).2.2 : Nat) := by simp [numE, hr]
      rw [ev, es, ee]
      clear ev es ee hr
      go_enter Try.func38, Try.ntmps38
      go_wp2_with (first | (go_at_call 63; ((with_reducible refine (rread_raw s HH.out.sz _).mono ?_); rintro e w1 ⟨rfl, b1⟩; have H1 := Lib.hid (HH.out.below b1); have d0 := H1.out.c0; have d1 := H1.out.c1; have hf1 : ∀ o, w1.frozen? ⟨b, o, none⟩ = false := H1.out.frozen)) | (go_at_call 64; ((with_reducible refine (rfail_any H1.out ((rdS s).2.2 : Nat)).mono ?_); rintro e w2 ⟨rfl, rfl⟩)))
      go_ret
      exact ⟨rfl, H1.out.setE _, ((Only.refl _ _).step b1).set1⟩
  · have ev : numV s e0 (uC s most) = 0 := by simp [numV, he]
    have es : numS s e0 (uC s most) = s := by simp [numS, he]
    have ee : numE s e0 (uC s most) = e0 := by simp [numE, he]
    rw [ev, es, ee]
    have he' : (e0 != 0) = true := by simpa using he
    clear ev es ee he
    go_enter Try.func38, Try.ntmps38
    go_wp2
    go_ret
    exact ⟨rfl, HH.out, Only.refl _ _⟩
theorem zag0 : Num.zag 0 = 0 := rfl
set_option maxHeartbeats 1000000 in
theorem rintm_any {b : Nat} {s : ByteArray} {e0 : Int} {w : World} (h : RR w b s e0) (lo hi : Int) :
    Calls Try.prog 65 #[.pointer (some ⟨b, 0, none⟩), .int .i64 lo, .int .i64 hi] w (RIntPost b w (Num.zag (numV s e0 (iC s lo hi))) (numS s e0 (iC s lo hi)) (numE s e0 (iC s lo hi))) := by
  have HH := Lib.hid h
  have c0 := h.c0
  have c1 := h.c1
  have hsz := h.sz
  unfold maxLen at hsz
  clear h
  by_cases he : e0 = 0
  · subst he
    by_cases hr : (rdS s).2.2 = 0
    · have r1 : ((((rdS s).2.2 : Nat) : Int) == 0) = true := by simp [hr]
      have r2 : ((((rdS s).2.2 : Nat) : Int) != 0) = false := by simp [hr]
      by_cases hm : Num.zag (xI s) < lo ∨ hi < Num.zag (xI s)
      · have ev : numV s 0 (iC s lo hi) = 0 := by simp [numV, iC, hm]
        have es : numS s 0 (iC s lo hi) = s := by simp [numS, iC, hm]
        have ee : numE s 0 (iC s lo hi) = 9 := by simp [numE, iC, hm, hr]
        rw [ev, es, ee, zag0]
        have hm2 : Num.zag (xI s) < lo ∨ (lo ≤ Num.zag (xI s) ∧ hi < Num.zag (xI s)) := by omega
        unfold xI at hm2
        clear ev es ee hr hm
        rcases hm2 with hm | ⟨hm, hm2⟩
        · go_enter Try.func65, Try.ntmps65
          go_wp2_with (first | (go_at_call 80; ((with_reducible refine (rread_int_any s HH.out.sz _).mono ?_); unfold readIntV; rintro e w1 ⟨rfl, b1⟩; have H1 := Lib.hid (HH.out.below b1); have d0 := H1.out.c0; have d1 := H1.out.c1; have hf1 : ∀ o, w1.frozen? ⟨b, o, none⟩ = false := H1.out.frozen)) | (go_at_call 64; ((with_reducible refine (rfail_any H1.out 9).mono ?_); rintro e w2 ⟨rfl, rfl⟩)))
          go_ret
          exact ⟨rfl, H1.out.setE 9, ((Only.refl _ _).step b1).set1⟩
        · go_enter Try.func65, Try.ntmps65
          go_wp2_with (first | (go_at_call 80; ((with_reducible refine (rread_int_any s HH.out.sz _).mono ?_); unfold readIntV; rintro e w1 ⟨rfl, b1⟩; have H1 := Lib.hid (HH.out.below b1); have d0 := H1.out.c0; have d1 := H1.out.c1; have hf1 : ∀ o, w1.frozen? ⟨b, o, none⟩ = false := H1.out.frozen)) | (go_at_call 64; ((with_reducible refine (rfail_any H1.out 9).mono ?_); rintro e w2 ⟨rfl, rfl⟩)))
          go_ret
          exact ⟨rfl, H1.out.setE 9, ((Only.refl _ _).step b1).set1⟩
      · have ev : numV s 0 (iC s lo hi) = xI s := by simp [numV, iC, hm, hr]; rfl
        have es : numS s 0 (iC s lo hi) = tl s (rdS s).2.1 := by simp [numS, iC, hm, hr]
        have ee : numE s 0 (iC s lo hi) = 0 := by simp [numE, iC, hm, hr]
        rw [ev, es, ee]
        have hle := rd_le hr
        have hm1 : lo ≤ Num.zag (xI s) := by omega
        have hm2 : Num.zag (xI s) ≤ hi := by omega
        unfold xI at hm1 hm2 ⊢
        clear ev es ee hr hm
        go_enter Try.func65, Try.ntmps65
        go_wp2_with (first | (go_at_call 80; ((with_reducible refine (rread_int_any s HH.out.sz _).mono ?_); unfold readIntV; rintro e w1 ⟨rfl, b1⟩; have H1 := Lib.hid (HH.out.below b1); have d0 := H1.out.c0; have d1 := H1.out.c1; have hf1 : ∀ o, w1.frozen? ⟨b, o, none⟩ = false := H1.out.frozen)))
        go_ret
        exact ⟨rfl, H1.out.setS _ (Nat.le_trans (tl_size s _) HH.out.sz), ((Only.refl _ _).step b1).set1⟩
    · have r1 : ((((rdS s).2.2 : Nat) : Int) == 0) = false := by simp [hr]
      have r2 : ((((rdS s).2.2 : Nat) : Int) != 0) = true := by simp [hr]
      have ev : numV s 0 (iC s lo hi) = 0 := by simp [numV, hr]
      have es : numS s 0 (iC s lo hi) = s := by simp [numS, hr]
      have ee : numE s 0 (iC s lo hi) = ((rdS s).2.2 : Nat) := by simp [numE, hr]
      rw [ev, es, ee, zag0]
      clear ev es ee hr
      go_enter Try.func65, Try.ntmps65
      go_wp2_with (first | (go_at_call 80; ((with_reducible refine (rread_int_any s HH.out.sz _).mono ?_); unfold readIntV; rintro e w1 ⟨rfl, b1⟩; have H1 := Lib.hid (HH.out.below b1); have d0 := H1.out.c0; have d1 := H1.out.c1; have hf1 : ∀ o, w1.frozen? ⟨b, o, none⟩ = false := H1.out.frozen)) | (go_at_call 64; ((with_reducible refine (rfail_any H1.out ((rdS s).2.2 : Nat)).mono ?_); rintro e w2 ⟨rfl, rfl⟩)))
      go_ret
      exact ⟨rfl, H1.out.setE _, ((Only.refl _ _).step b1).set1⟩
  · have ev : numV s e0 (iC s lo hi) = 0 := by simp [numV, he]
    have es : numS s e0 (iC s lo hi) = s := by simp [numS, he]
    have ee : numE s e0 (iC s lo hi) = e0 := by simp [numE, he]
    rw [ev, es, ee, zag0]
    have he' : (e0 != 0) = true := by simpa using he
    clear ev es ee he
    go_enter Try.func65, Try.ntmps65
    go_wp2
    go_ret
    exact ⟨rfl, HH.out, Only.refl _ _⟩
end Go.Proofs.Ytbpakckiglgjfaa
