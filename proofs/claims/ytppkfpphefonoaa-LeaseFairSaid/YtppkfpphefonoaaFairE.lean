/- Those that a time takes: plain laws. No condition. -/
import Derived.Test.YtppkfpphefonoaaFairX
namespace Go.Proofs.Ytppkfpphefonoaa
open Go.RowKit Lea Go.Maps
set_option linter.unusedVariables false
namespace Lea
theorem expI_sorted (l : List Seat) (now : Int) (i : Nat) : (expI l now i).Pairwise (· < ·) := by
  unfold expI; exact List.Pairwise.filter _ List.pairwise_lt_range
theorem expI_mem {l : List Seat} {now : Int} {i x : Nat} (h : x ∈ expI l now i) : x < i ∧ dueS now (sat l x) = true := by
  unfold expI at h
  have := List.mem_filter.1 h
  exact ⟨List.mem_range.1 this.1, this.2⟩
theorem offL_sat {l : List Seat} (x : Nat) (hx : okW (x : Int) = true) : ∀ (ys : List Nat) (l : List Seat), l.length = 33 → x ∉ ys → sat (offL l ys) x = sat l x := by
  intro ys
  induction ys with
  | nil => intro l _ _; rfl
  | cons y ys ih =>
    intro l hn hm
    have h1 : x ≠ y := fun e => hm (by rw [e]; exact List.mem_cons_self)
    have h2 : x ∉ ys := fun e => hm (List.mem_cons_of_mem _ e)
    have hl : (leave1 l (y : Int)).length = 33 := by unfold leave1; split <;> simp [hn]
    show sat (offL (leave1 l (y : Int)) ys) x = sat l x
    rw [ih _ hl h2]
    by_cases hq : (okW (y : Int) && (sat l (y : Int)).alive) = true
    · rw [(leave_yes hq).1, sat_set hn (by simp only [Bool.and_eq_true] at hq; exact hq.1) hx, if_neg (by omega)]
    · rw [(leave_no (by simpa using hq)).1]
/-- The j-th of them, when those ahead of it are off. -/
theorem exp_at {l : List Seat} (hn : l.length = 33) (ho : OwnNo l) (now : Int) {j : Nat} (hj : j < (expI l now 33).length) :
    onQ (offL l ((expI l now 33).take j)) ((expI l now 33)[j] : Nat) = true ∧ (sat (offL l ((expI l now 33).take j)) ((expI l now 33)[j] : Nat)).til ≤ now ∧ (Lit.int .i64 ((expI l now 33)[j] : Nat)).wf = true := by
  have hm := expI_mem (List.getElem_mem hj)
  have hs := expI_sorted l now 33
  generalize hxs : expI l now 33 = xs at *
  generalize hx : xs[j] = x at *
  have hd := hm.2
  unfold dueS at hd
  simp only [Bool.and_eq_true, decide_eq_true_eq] at hd
  have hlt : x < l.length := by omega
  have hw := (ho x (sat l x) (by rw [sat_k hn hm.1, List.getElem?_eq_getElem hlt]) hd.1).2
  have hok : okW (x : Int) = true := by unfold okW; simp; omega
  have hnm : x ∉ xs.take j := by
    intro hmem
    obtain ⟨i, hi, e⟩ := List.getElem_of_mem hmem
    rw [List.length_take] at hi
    have h1 : xs[i]'(by omega) < xs[j] := List.pairwise_iff_getElem.1 hs i j (by omega) hj (by omega)
    rw [List.getElem_take] at e
    omega
  have e := offL_sat (l := l) x hok (xs.take j) l hn hnm
  refine ⟨?_, by rw [e]; exact hd.2, WalkArith.wf_i64 (by omega)⟩
  unfold onQ
  rw [e, hok, hd.1]; rfl
theorem exp_up {l : List Seat} {now : Int} {j : Nat} (h0 : 0 < j) (hj : j < (expI l now 33).length) : (expI l now 33)[j - 1]'(by omega) < (expI l now 33)[j] :=
  List.pairwise_iff_getElem.1 (expI_sorted l now 33) (j - 1) j (by omega) hj (by omega)
/-- Who is alive behind it holds longer. -/
theorem exp_left {l : List Seat} (hn : l.length = 33) (now : Int) {x : Int} (h : onQ (expL l now 33) x = true) : now < (sat (expL l now 33) x).til := by
  obtain ⟨hw, ha⟩ := onQ_ok h
  obtain ⟨k, rfl, hk, _⟩ := okW_nat hw
  have hl : (expL l now 33).length = 33 := by rw [expL_len]; exact hn
  rw [sat_k hl hk] at ha ⊢
  simp only [expL, List.getElem_mapIdx] at ha ⊢
  split at ha
  · cases ha
  · rename_i hd
    rw [if_neg hd]
    have h2 : ¬ (dueS now l[k] = true) := fun e => hd ⟨hk, e⟩
    unfold dueS at h2
    rw [ha] at h2
    simp at h2
    omega
end Lea
def XRel (W w2 : World) (b h : Nat) (l : List Seat) (now : Int) (N : Nat) (MS MI : DU) (u : Value) (wq : World) : Prop :=
  ∃ (j : Nat) (D : DU), j ≤ (expI l now 33).length ∧ u = .int .i64 j ∧ FX W wq b h (h + 1) (h + 2) N D MS MI ∧ LFair (offL l ((expI l now 33).take j)) D MS MI ∧ Only (· = h) w2 wq
theorem FX.other {W wr w1 : World} {b h s i r : Nat} {N : Nat} {MH MS MI : DU} (f : FX W wr b h s i N MH MS MI) (ho : Only (· = r) wr w1) (hr : i < r) : FX W w1 b h s i N MH MS MI := by
  have hap := f.ap
  refine ⟨f.oh.kept ho.grown ?_, f.os.kept ho.grown ?_, f.oi.kept ho.grown ?_, below_only f.bel ho (by have := f.hb; omega) (Nat.le_refl _), f.ap, f.hb⟩
  all_goals (intro e; injection e with e; omega)
theorem below_of_grown {w w' : World} (h : w.grownBy w' none) : Below w.heap.size w w' := ⟨h.os, h.tape, h.output, h.size, fun i hi => h.block i hi (by simp)⟩
def YRel (w3 : World) (mh r : Nat) (l : List Seat) (N : Nat) (D : DU) (wq : World) : Prop :=
  ∃ (left : Lit → Bool) (cnt : Nat), wq.ranges Try.prog 3 (plainElem Try.prog 2) mh r N D left cnt ∧ (∀ x, left (KI x) = true → onQ l x = true) ∧ Only (· = r) w3 wq
theorem till_of {l : List Seat} {MH MS MI : DU} (F : LFair l MH MS MI) {x c : Int} (hq : onQ l x = true) (h : ∀ zd, MH.atKey (KI x) zd = .lit (.int .i64 c)) : (sat l x).til = c :=
  lit_inj ((F.hAt x (vT 0) hq).symm.trans (h (vT 0)))
theorem FX.grow2 {W wr w1 : World} {b h s i : Nat} {N : Nat} {MH MS MI : DU} (f : FX W wr b h s i N MH MS MI) (n : Nat) : FX W (wr.drewN n) b h s i N MH MS MI := f.grow (drewN_below _ _)
theorem only_drewN {S : Nat → Prop} {a w : World} (h : Only S a w) (n : Nat) : Only S a (w.drewN n) := ⟨h.os, h.tape, h.output, h.size, h.block⟩
end Go.Proofs.Ytppkfpphefonoaa
