import Derived.Test.YtghbjknpffiaiaaGreatMgd
import Derived.Test.YtghbjknpffiaiaaGreatMgb
import Derived.WalkKit
import Derived.Laws.OwnMore
import Derived.Deep.RegionLaw
import Derived.BigQuiet
import Derived.Lib.ConvBytes
namespace Go.Proofs.YtghbjknpffiaiaaGreat
open Go.RowKit Wire
set_option linter.unusedVariables false
set_option linter.unusedSimpArgs false
namespace Ms
def kB (k : Int) : Bool := decide (1 ≤ k) && decide (k ≤ 17)
def all14 : List Pt := [.J, .T, .P, .I, .F, .K, .E, .N, .H, .A, .C, .S, .R, .X]
theorem all_mem (p : Pt) : p ∈ all14 := by cases p <;> decide
def hasK (k : Int) (p : Pt) : Bool := decide (p ∈ kp k)
theorem ff_ite {c : Prop} [Decidable c] {a b : List Pt} (ha : all14.filter (fun p => decide (p ∈ a)) = a) (hb : all14.filter (fun p => decide (p ∈ b)) = b) : all14.filter (fun p => decide (p ∈ (if c then a else b))) = (if c then a else b) := by
 by_cases h : c
 ·rw [if_pos h]; exact ha
 ·rw [if_neg h]; exact hb
theorem kp_filter (k : Int) : all14.filter (hasK k) = kp k := by
 show all14.filter (fun p => decide (p ∈ kp k)) = kp k
 unfold kp
 repeat refine ff_ite (by decide) ?_
 decide
theorem kp_far {k : Int} (h : kB k = false) : kp k = [] := by
 unfold kB at h
 have h' : k < 1 ∨ 17 < k := by
  rw [Bool.and_eq_false_iff, decide_eq_false_iff_not, decide_eq_false_iff_not] at h
  omega
 unfold kp
 repeat rw [if_neg (by omega)]
def mayM (m : M) : Bool := kB m.kind && (m == onlyM m && (all14.all (fun p => bp p m && !lb p m) && decide ((raw m).length ≤ 8192)))
def badW (m : M) : Bool := !kB m.kind || (kp m.kind).any fun p => wbad p m
def badR (m : M) : Bool := !kB m.kind || (kp m.kind).any fun p => rbad p m
def rdOk (s : ByteArray) : Bool := (endE (readM ⟨s, 0⟩).2.s (readM ⟨s, 0⟩).2.e == 0) && (!badR (readM ⟨s, 0⟩).1 && decide (s.size ≤ 8192))
def decS (s : ByteArray) : M × Int := if rdOk s then ((readM ⟨s, 0⟩).1, 0) else (m0, 8)
def rawS (m : M) : ByteArray := ⟨(raw m).toArray⟩
theorem bl_rawS (m : M) : bl (rawS m) = raw m := by unfold bl rawS; simp
theorem rawS_size (m : M) : (rawS m).size = (raw m).length := by rw [← bl_len, bl_rawS]
def encS (m : M) : ByteArray × Int := if badW m then (⟨#[]⟩, 2) else if (decS (rawS m)).2 = 0 ∧ (decS (rawS m)).1 = m then (rawS m, 0) else (⟨#[]⟩, 2)
theorem bp_ne {p p' : Pt} (h : p ≠ p') (x y : M) : bp p (cp p' x y) = bp p y := by
 cases p <;> cases p' <;> first | exact absurd rfl h | rfl
theorem bp_cps_ne : ∀ (l : List Pt) (p : Pt) (_ : p ∉ l) (x y : M), bp p (cps l x y) = bp p y := by
 intro l
 induction l with
 | nil => intro p _ x y; rfl
 | cons p' l ih =>
  intro p hp x y
  unfold cps
  rw [ih p (fun h => hp (List.mem_cons_of_mem _ h)), bp_ne (fun e => hp (by rw [e]; exact List.mem_cons_self))]
theorem kp_H {k : Int} : (Pt.H ∈ kp k → k = 4 ∨ k = 12) ∧ (k = 4 → kp k = [.N, .H]) ∧ (k = 12 → kp k = [.H, .A]) := by
 refine ⟨fun h => ?_, fun h => by subst h; rfl, fun h => by subst h; rfl⟩
 by_cases h4 : k = 4
 ·exact .inl h4
 ·by_cases h12 : k = 12
  ·exact .inr h12
  ·exfalso
   have key : ∀ {c : Prop} [Decidable c] {a b : List Pt}, (c → Pt.H ∉ a) → Pt.H ∉ b → Pt.H ∉ (if c then a else b) := by
    intro c _ a b h1 h2
    by_cases h : c
    ·rw [if_pos h]; exact h1 h
    ·rw [if_neg h]; exact h2
   revert h
   unfold kp
   refine key (fun _ => by decide) (key (fun h => absurd h h4) (key (fun _ => by decide) (key (fun _ => by decide) (key (fun _ => by decide) (key (fun _ => by decide) (key (fun _ => by decide) (key (fun _ => by decide) (key (fun h => absurd h h12) ?_))))))))
   repeat refine key (fun _ => by decide) ?_
   decide
theorem lb_out {m : M} {p : Pt} (h : p ∉ kp m.kind) : lb p m = false := by
 cases p <;> try rfl
 ·show (m.kind == 4 && _) = false
  by_cases h4 : m.kind = 4
  ·rw [h4] at h; exact absurd (by decide) h
  ·rw [beq_false_of_ne h4]; rfl
 ·show (m.kind == 12 && _) = false
  by_cases h4 : m.kind = 12
  ·rw [h4] at h; exact absurd (by decide) h
  ·rw [beq_false_of_ne h4]; rfl
theorem bp_zero (p : Pt) (k : Int) : bp p { m0 with kind := k } = true := by
 cases p <;> first | rfl | (unfold bp; decide)
theorem bounds_eq {m : M} (h : m = onlyM m) : all14.all (fun p => bp p m && !lb p m) = !(kp m.kind).any fun p => !bp p m || lb p m := by
 rw [Bool.eq_iff_iff, List.all_eq_true, Bool.not_eq_true', List.any_eq_false]
 constructor
 ·intro ha p hp
  have := ha p (all_mem p)
  simp only [Bool.and_eq_true, Bool.not_eq_true'] at this
  simp [this.1, this.2]
 ·intro ha p _
  by_cases hp : p ∈ kp m.kind
  ·have := ha p hp
   simp only [Bool.or_eq_true, Bool.not_eq_true', not_or, Bool.not_eq_true, Bool.not_eq_false] at this
   simp [this.1, this.2]
  ·rw [lb_out hp]
   have hb : bp p m = bp p { m0 with kind := m.kind } := by
    have h2 := bp_cps_ne (kp m.kind) p hp m { m0 with kind := m.kind }
    have h3 : cps (kp m.kind) m { m0 with kind := m.kind } = m := h.symm
    rw [h3] at h2
    exact h2
   rw [hb, bp_zero]; rfl
theorem any_congr {α : Type} {l : List α} {f g : α → Bool} (h : ∀ x ∈ l, f x = g x) : l.any f = l.any g := by
 induction l with
 | nil => rfl
 | cons a l ih => rw [List.any_cons, List.any_cons, h a List.mem_cons_self, ih (fun x hx => h x (List.mem_cons_of_mem _ hx))]
theorem badW_eq {m : M} (t : TyM m) : badW m = (!kB m.kind || (kp m.kind).any fun p => !bp p m || lb p m) := by
 unfold badW
 rw [any_congr (fun p _ => wbad_eq t p)]
theorem badR_eq {m : M} (h : ∀ p ∈ kp m.kind, okp p m) : badR m = (!kB m.kind || (kp m.kind).any fun p => !bp p m || lb p m) := by
 unfold badR
 rw [any_congr (fun p hp => rbad_eq (h p hp))]
theorem may_parts {m : M} (h : m = onlyM m) : mayM m = (!(!kB m.kind || (kp m.kind).any fun p => !bp p m || lb p m) && decide ((raw m).length ≤ 8192)) := by
 unfold mayM
 rw [bounds_eq h, show (m == onlyM m) = true from beq_iff_eq.2 h, Bool.true_and, Bool.not_or, Bool.not_not, Bool.and_assoc]
theorem endE_zero {s : ByteArray} {e : Int} : endE s e = 0 ↔ e = 0 ∧ bl s = [] := by
 unfold endE
 have hs : bl s = [] ↔ s.size = 0 := by rw [← bl_len]; exact List.length_eq_zero_iff.symm
 rw [hs]
 split
 ·rename_i h; omega
 ·rename_i h
  constructor
  ·intro h2; exact ⟨h2, by omega⟩
  ·intro h2; exact h2.1
theorem read_raw {m : M} (hk : kB m.kind = true) (hx : ∀ p ∈ kp m.kind, okp p m) {s : ByteArray} {R : Ls} (hs : bl s = raw m ++ R) : (readM ⟨s, 0⟩).1 = onlyM m ∧ (readM ⟨s, 0⟩).2.e = 0 ∧ bl (readM ⟨s, 0⟩).2.s = R := by
 unfold kB at hk
 rw [Bool.and_eq_true, decide_eq_true_eq, decide_eq_true_eq] at hk
 exact readM_fwd (by omega) hx rfl hs
theorem dec_raw {m : M} (t : TyM m) (h : mayM m = true) : decS (rawS m) = (m, 0) := by
 have h' := h
 unfold mayM at h'
 simp only [Bool.and_eq_true, beq_iff_eq, decide_eq_true_eq] at h'
 obtain ⟨h1, h2, h3, h4⟩ := h'
 rw [List.all_eq_true] at h3
 have hx : ∀ p ∈ kp m.kind, okp p m := fun p hp => bp_ok t (by have := h3 p (all_mem p); simp only [Bool.and_eq_true] at this; exact this.1)
 obtain ⟨a1, a2, a3⟩ := read_raw h1 hx (s := rawS m) (R := []) (by rw [bl_rawS, List.append_nil])
 have hr : rdOk (rawS m) = true := by
  unfold rdOk
  rw [a1, ← h2, badR_eq hx]
  have hm := may_parts h2
  rw [h] at hm
  have hm2 := hm.symm
  rw [Bool.and_eq_true] at hm2
  rw [hm2.1, Bool.true_and, rawS_size, hm2.2, Bool.and_true, beq_iff_eq]
  exact endE_zero.2 ⟨a2, a3⟩
 unfold decS
 rw [if_pos hr, a1, ← h2]
theorem enc_eq {m : M} (t : TyM m) : encS m = if mayM m = true then (rawS m, 0) else (⟨#[]⟩, 2) := by
 cases h : mayM m with
 | true =>
  have hd := dec_raw t h
  have h' := h
  have h2 : m = onlyM m := by unfold mayM at h'; simp only [Bool.and_eq_true, beq_iff_eq] at h'; exact h'.2.1
  rw [may_parts h2, Bool.and_eq_true, ← badW_eq t, Bool.not_eq_true'] at h'
  unfold encS
  rw [h'.1, hd]
  simp
 | false =>
  simp only [Bool.false_eq_true, if_false]
  unfold encS
  cases hb : badW m with
  | true => rfl
  | false =>
   simp only [Bool.false_eq_true, if_false]
   refine if_neg fun hd => ?_
   have hb' := hb
   rw [badW_eq t, Bool.or_eq_false_iff, Bool.not_eq_false', List.any_eq_false] at hb'
   have hx : ∀ p ∈ kp m.kind, okp p m := fun p hp => bp_ok t (by have := hb'.2 p hp; simp only [Bool.or_eq_true, Bool.not_eq_true', not_or, Bool.not_eq_false] at this; exact this.1)
   obtain ⟨a1, a2, a3⟩ := read_raw hb'.1 hx (s := rawS m) (R := []) (by rw [bl_rawS, List.append_nil])
   have hr : rdOk (rawS m) = true := by
    cases hr : rdOk (rawS m) with
    | true => rfl
    | false => have := hd.1; unfold decS at this; rw [hr] at this; simp at this
   have ho : m = onlyM m := by have := hd.2; unfold decS at this; rw [if_pos hr] at this; rw [← a1]; exact this.symm
   have hm := may_parts ho
   rw [h, ← badW_eq t, hb] at hm
   unfold rdOk at hr
   simp only [Bool.and_eq_true, decide_eq_true_eq] at hr
   have := hr.2.2
   rw [rawS_size] at this
   rw [decide_eq_true this] at hm
   cases hm
def readD (q : RS) : M × RS := rps (kp (uV 17 q)) { m0 with kind := uV 17 q } (uS 17 q)
def rdD (s : ByteArray) : Bool := (endE (readD ⟨s, 0⟩).2.s (readD ⟨s, 0⟩).2.e == 0) && mayM (readD ⟨s, 0⟩).1
def decD (s : ByteArray) : M × Int := if rdD s then ((readD ⟨s, 0⟩).1, 0) else (m0, 8)
theorem uV_le (m : Int) (q : RS) (he : (uS m q).e = 0) : 0 ≤ uV m q ∧ uV m q ≤ m ∧ uV m q = xI q.s := by
 obtain ⟨h1, h2, h3, h4, h5⟩ := numb he
 refine ⟨h3.1, ?_, h4⟩
 show numV q.s q.e _ ≤ m
 rw [h4]
 unfold uC at h2
 split at h2 <;> omega
theorem readD_eq {s : ByteArray} (h : uV 255 ⟨s, 0⟩ ≤ 17) (he : (uS 255 ⟨s, 0⟩).e = 0) : readD ⟨s, 0⟩ = readM ⟨s, 0⟩ := by
 have hx := (uV_le 255 ⟨s, 0⟩ he).2.2
 have hc : uC s 17 = uC s 255 := by
  have h2 : xI s ≤ 17 := by rw [← hx]; exact h
  unfold uC
  rw [if_neg (by omega), if_neg (by omega)]
 have e1 : uV 17 ⟨s, 0⟩ = uV 255 ⟨s, 0⟩ := by unfold uV; dsimp only; rw [hc]
 have e2 : uS 17 ⟨s, 0⟩ = uS 255 ⟨s, 0⟩ := by unfold uS; dsimp only; rw [hc]
 unfold readD readM
 rw [e1, e2]
theorem rps_dead (l : List Pt) (hl : l.Nodup) (t : M) (q : RS) (h : (rps l t q).2.e = 0) : q.e = 0 := (rps_bwd l hl t q h).1
theorem dec_eq (s : ByteArray) : decD s = decS s := by
 have key : rdD s = rdOk s ∧ (rdOk s = true → (readD ⟨s, 0⟩).1 = (readM ⟨s, 0⟩).1) := by
  by_cases he : (uS 255 ⟨s, 0⟩).e = 0
  ·by_cases h17 : uV 255 ⟨s, 0⟩ ≤ 17
   ·have hd := readD_eq h17 he
    refine ⟨?_, fun _ => by rw [hd]⟩
    unfold rdD rdOk
    rw [hd]
    by_cases hend : endE (readM ⟨s, 0⟩).2.s (readM ⟨s, 0⟩).2.e = 0
    ·obtain ⟨h1, h2⟩ := endE_zero.1 hend
     obtain ⟨b1, b2, b3, b4, b5⟩ := readM_bwd h1
     have hsz : s.size = (raw (readM ⟨s, 0⟩).1).length := by rw [← bl_len]; show (bl (RS.mk s 0).s).length = _; rw [b4, h2, List.append_nil]
     rw [may_parts b5.symm, badR_eq b3, hsz]
    ·rw [beq_false_of_ne hend]; rfl
   ·have h1 : rdD s = false := by
     have : (readD ⟨s, 0⟩).2.e ≠ 0 := fun h => by
      have h2 := rps_dead _ (kp_nodup _) _ _ h
      have h3 := uV_le 17 ⟨s, 0⟩ h2
      have h4 := uV_le 255 ⟨s, 0⟩ he
      have h5 := h3.2.2.symm.trans rfl
      have e1 := h3.2.2
      have e2 := h4.2.2
      rw [e2] at h17
      rw [e1] at h3
      exact h17 h3.2.1
     unfold rdD
     rw [beq_false_of_ne (fun h => this (endE_zero.1 h).1)]; rfl
    have h2 : rdOk s = false := by
     unfold rdOk badR
     rw [readM_kind]
     have hk : kB (uV 255 ⟨s, 0⟩) = false := by unfold kB; rw [decide_eq_false h17, Bool.and_false]
     rw [hk]; simp
    rw [h1, h2]
    exact ⟨rfl, fun h => by cases h⟩
  ·have h1 : rdD s = false := by
    have : (readD ⟨s, 0⟩).2.e ≠ 0 := fun h => by
     have h2 := rps_dead _ (kp_nodup _) _ _ h
     obtain ⟨_, k2, k3, k4, _⟩ := numb (show numE s 0 (uC s 17) = 0 from h2)
     apply he
     show numE s 0 (uC s 255) = 0
     have hc : uC s 255 = 0 := by
      have k2' : uC s 17 = 0 := k2
      unfold uC at k2' ⊢
      split at k2'
      ·omega
      ·rw [if_neg (by omega)]
     have k2' : uC s 17 = 0 := k2
     have h2' : numE s 0 (uC s 17) = 0 := h2
     rw [k2'] at h2'
     rw [hc]
     exact h2'
    unfold rdD
    rw [beq_false_of_ne (fun h => this (endE_zero.1 h).1)]; rfl
   have h2 : rdOk s = false := by
    have : (readM ⟨s, 0⟩).2.e ≠ 0 := fun h => he (rps_dead _ (kp_nodup _) _ _ h)
    unfold rdOk
    rw [beq_false_of_ne (fun h => this (endE_zero.1 h).1)]; rfl
   rw [h1, h2]
   exact ⟨rfl, fun h => by cases h⟩
 unfold decD decS
 rw [key.1]
 split
 ·rename_i h; rw [key.2 h]
 ·rfl
end Ms
end Go.Proofs.YtghbjknpffiaiaaGreat

namespace Go.Proofs.YtghbjknpffiaiaaGreat
open Go.RowKit Wire
set_option linter.unusedVariables false
set_option linter.unusedSimpArgs false
namespace Ms
theorem uV_rg {m : Int} (hm : 0 ≤ m) (q : RS) : 0 ≤ uV m q ∧ uV m q ≤ m := by
 by_cases h : (uS m q).e = 0
 ·have := uV_le m q h; exact ⟨this.1, this.2.1⟩
 ·have : uV m q = 0 := numV_zero h
  omega
theorem iV_rg (q : RS) : I64 (iV q) := by
 have h := numV_U64 q.s q.e (iC q.s (-9223372036854775808) 9223372036854775807)
 have := Num.zag_range _ h.1 h.2
 unfold iV I64
 omega
theorem rdL_all {α : Type} {r : RS → α × RS} {P : α → Prop} (h : ∀ q, P (r q).1) : ∀ (n : Nat) (q : RS), ∀ x ∈ (rdL r n q).1, P x := by
 intro n
 induction n with
 | zero => intro q x hx; cases hx
 | succ n ih =>
  intro q x hx
  unfold rdL at hx
  by_cases hq : q.e ≠ 0
  ·rw [if_pos hq] at hx; cases hx
  ·rw [if_neg hq] at hx
   rcases List.mem_cons.1 hx with e | e
   ·subst e; exact h q
   ·exact ih _ x e
theorem rL_all {α : Type} {r : RS → α × RS} {P : α → Prop} (h : ∀ q, P (r q).1) (m : Int) (q : RS) : ∀ x ∈ (rL m r q).1, P x := rdL_all h _ _
theorem u64_rg {m : Int} (hm : 0 ≤ m ∧ m ≤ 18446744073709551615) (q : RS) : U64 (uV m q) := by have := uV_rg hm.1 q; unfold U64; omega
theorem i64_rg {m : Int} (hm : 0 ≤ m ∧ m ≤ 9223372036854775807) (q : RS) : I64 (uV m q) := by have := uV_rg hm.1 q; unfold I64; omega
theorem u0 : U64 0 := by unfold U64; decide
theorem i0 : I64 0 := by unfold I64; decide
theorem ty0 {k : Int} (h : 0 ≤ k ∧ k ≤ 255) : TyM { m0 with kind := k } :=
 ⟨h, u0, (fun x hx => by cases hx), i0, i0, (fun x hx => by cases hx), i0, u0, (fun x hx => by cases hx), (fun x hx => by cases hx), (fun x hx => by cases hx), (fun x hx => by cases hx), (show (0 : Int) ≤ 0 ∧ (0 : Int) ≤ 255 by decide), ⟨i0, i0⟩, i0⟩
theorem ty_rp (p : Pt) {t : M} (h : TyM t) (q : RS) : TyM (rp p t q).1 := by
 cases p
 case J => exact { h with job := u64_rg (by omega) q }
 case T => exact { h with }
 case P => exact { h with }
 case I => exact { h with input := rL_all iV_rg _ _ }
 case F => exact { h with fuel := i64_rg (by omega) q }
 case K => exact { h with fn := i64_rg (by omega) _, args := rL_all iV_rg _ _, tfuel := i64_rg (by omega) _ }
 case E => exact { h with epoch := u64_rg (by omega) q }
 case N => exact { h with ents := rL_all (P := fun e : En => U64 e.nm.job ∧ I64 e.kids ∧ I64 e.res.val ∧ I64 e.res.err) (fun q => ⟨u64_rg (m := 18446744073709551615) (by omega) q, i64_rg (m := 16) (by omega) _, iV_rg _, i64_rg (m := 9999) (by omega) _⟩) _ _ }
 case H => exact { h with epochs := rL_all (P := U64) (fun q => u64_rg (m := 281474976710656) (by omega) q) _ _ }
 case A => exact { h with names := rL_all (P := fun n : Nm => U64 n.job) (fun q => u64_rg (m := 18446744073709551615) (by omega) q) _ _ }
 case C => exact { h with codes := rL_all (P := I64) (fun q => i64_rg (m := 9999) (by omega) q) _ _ }
 case S => exact { h with state := by have := uV_rg (m := 3) (by omega) q; exact ⟨this.1, by have := this.2; show uV 3 q ≤ 255; omega⟩ }
 case R => exact { h with res := ⟨iV_rg _, i64_rg (by omega) _⟩ }
 case X => exact { h with err := i64_rg (by omega) q }
theorem ty_rps : ∀ (l : List Pt) {t : M} (_ : TyM t) (q : RS), TyM (rps l t q).1 := by
 intro l
 induction l with
 | nil => intro t h q; exact h
 | cons p l ih => intro t h q; exact ih (ty_rp p h q) _
theorem ty_read (q : RS) : TyM (readM q).1 := ty_rps _ (ty0 (uV_rg (by omega) q)) _
theorem dec_back {s : ByteArray} (h : (decS s).2 = 0) : mayM (decS s).1 = true ∧ rawS (decS s).1 = s ∧ encS (decS s).1 = (s, 0) := by
 have hr : rdOk s = true := by
  cases hr : rdOk s with
  | true => rfl
  | false => unfold decS at h; rw [hr] at h; simp at h
 have hd : (decS s).1 = (readM ⟨s, 0⟩).1 := by unfold decS; rw [if_pos hr]
 rw [hd]
 unfold rdOk at hr
 simp only [Bool.and_eq_true, beq_iff_eq, decide_eq_true_eq] at hr
 obtain ⟨h1, h2⟩ := endE_zero.1 hr.1
 obtain ⟨b1, b2, b3, b4, b5⟩ := readM_bwd h1
 have hb : bl s = raw (readM ⟨s, 0⟩).1 := by
  have b4' : bl s = raw (readM ⟨s, 0⟩).1 ++ bl (readM ⟨s, 0⟩).2.s := b4
  rw [b4', h2, List.append_nil]
 have hm : mayM (readM ⟨s, 0⟩).1 = true := by
  rw [may_parts b5.symm, ← badR_eq b3, hr.2.1, Bool.true_and, ← hb, bl_len]
  exact decide_eq_true hr.2.2
 have hs : rawS (readM ⟨s, 0⟩).1 = s := bl_inj (by rw [bl_rawS, hb])
 refine ⟨hm, hs, ?_⟩
 rw [enc_eq (ty_read _), if_pos hm, hs]
theorem dec_more {m : M} (t : TyM m) (h : mayM m = true) : decS (rawS m ++ ⟨#[0]⟩) = (m0, 8) := by
 have h' := h
 unfold mayM at h'
 simp only [Bool.and_eq_true, beq_iff_eq, decide_eq_true_eq] at h'
 obtain ⟨h1, h2, h3, h4⟩ := h'
 rw [List.all_eq_true] at h3
 have hx : ∀ p ∈ kp m.kind, okp p m := fun p hp => bp_ok t (by have := h3 p (all_mem p); simp only [Bool.and_eq_true] at this; exact this.1)
 obtain ⟨a1, a2, a3⟩ := read_raw h1 hx (s := rawS m ++ ⟨#[0]⟩) (R := [0]) (by rw [bl_app, bl_rawS]; rfl)
 have hr : rdOk (rawS m ++ ⟨#[0]⟩) = false := by
  unfold rdOk
  rw [beq_false_of_ne (fun h => by have := (endE_zero.1 h).2; rw [a3] at this; cases this)]; rfl
 unfold decS
 rw [hr]
 rfl
def long0 (n : Nat) : M := { m0 with kind := 8, codes := List.replicate n 0 }
def long1 (n : Nat) : M := { m0 with kind := 12, names := List.replicate n ⟨0, ⟨#[]⟩⟩, epochs := List.replicate n 0 }
def long2 (s : ByteArray) : M := { m0 with kind := 13, prog := s }
theorem sz0 : (⟨#[]⟩ : ByteArray).size = 0 := rfl
theorem leb1 {x : Nat} (h : x < 128) : (Num.leb x).length = 1 := by rw [Num.leb_lt x h]; rfl
theorem leb2 {x : Nat} (h : 128 ≤ x) (h2 : x < 16384) : (Num.leb x).length = 2 := by rw [Num.leb_ge x h, List.length_cons, leb1 (by omega)]
theorem leb_small {x : Nat} (h : x < 16384) : (Num.leb x).length ≤ 2 := by
 by_cases h1 : x < 128
 ·rw [leb1 h1]; omega
 ·rw [leb2 (by omega) h]; omega
theorem wL_rep {α : Type} (w : α → Ls) (a : α) (n : Nat) : (wL w (List.replicate n a)).length = n * (w a).length := by
 unfold wL
 induction n with
 | zero => simp
 | succ n ih => rw [List.replicate_succ, List.flatMap_cons, List.length_append, ih, Nat.succ_mul]; omega
theorem may_long {m : M} (hk : kB m.kind = true) (ho : onlyM m = m) : mayM m = (all14.all (fun p => bp p m && !lb p m) && decide ((raw m).length ≤ 8192)) := by
 unfold mayM; rw [hk, show (m == onlyM m) = true from beq_iff_eq.2 ho.symm]; rfl
theorem all_rep {α : Type} {f : α → Bool} {a : α} (h : f a = true) (n : Nat) : (List.replicate n a).all f = true := by
 rw [List.all_eq_true]; intro x hx; rw [List.eq_of_mem_replicate hx]; exact h
theorem may_long0 (n : Nat) (hn : n ≤ 1000) : mayM (long0 n) = decide (n ≤ 128) := by
 rw [may_long rfl rfl]
 have h1 : all14.all (fun p => bp p (long0 n) && !lb p (long0 n)) = decide (n ≤ 128) := by
  have hC : bp .C (long0 n) = decide (n ≤ 128) := by
   show (decide ((List.replicate n (0 : Int)).length ≤ 128) && (List.replicate n (0 : Int)).all fun x => !nb x 9999) = _
   rw [List.length_replicate, all_rep (by rfl), Bool.and_true]
  unfold all14
  simp only [List.all_cons, List.all_nil, hC]
  simp [bp, lb, long0, m0, t0, nb, pathB, resB, bl, sz0]
 have h2 : (raw (long0 n)).length ≤ 8192 := by
  show (wU 8 ++ wps [.C] (long0 n)).length ≤ 8192
  have e : wps [.C] (long0 n) = wLs wU (List.replicate n 0) ++ [] := rfl
  rw [List.length_append, e, List.append_nil]
  unfold wLs
  rw [List.length_append, List.length_replicate, wL_rep]
  have h3 : (wU 8).length = 1 := leb1 (by decide)
  have h4 : (wU 0).length = 1 := leb1 (by decide)
  have h5 := leb_small (x := n) (by omega)
  rw [h3, h4]
  omega
 rw [h1, decide_eq_true h2, Bool.and_true]
theorem may_long1 (n : Nat) (hn : n ≤ 1000) : mayM (long1 n) = decide (n ≤ 128) := by
 rw [may_long rfl rfl]
 have h1 : all14.all (fun p => bp p (long1 n) && !lb p (long1 n)) = decide (n ≤ 128) := by
  have hH : bp .H (long1 n) = decide (n ≤ 128) := by
   show (decide ((List.replicate n (0 : Int)).length ≤ 128) && (List.replicate n (0 : Int)).all fun x => decide (x ≤ 281474976710656)) = _
   rw [List.length_replicate, all_rep (by rfl), Bool.and_true]
  have hA : bp .A (long1 n) = decide (n ≤ 128) := by
   show (decide ((List.replicate n (⟨0, ⟨#[]⟩⟩ : Nm)).length ≤ 128) && (List.replicate n (⟨0, ⟨#[]⟩⟩ : Nm)).all fun n => pathB n.path) = _
   rw [List.length_replicate, all_rep (by rfl), Bool.and_true]
  have lH : lb .H (long1 n) = false := rfl
  have lA : lb .A (long1 n) = false := by
   show ((12 : Int) == 12 && (List.replicate n (0 : Int)).length != (List.replicate n (⟨0, ⟨#[]⟩⟩ : Nm)).length) = false
   rw [List.length_replicate, List.length_replicate]; simp
  unfold all14
  simp only [List.all_cons, List.all_nil, hH, hA, lH, lA]
  simp [bp, lb, long1, m0, t0, nb, pathB, resB, bl, sz0]
 have h2 : (raw (long1 n)).length ≤ 8192 := by
  show (wU 12 ++ wps [.H, .A] (long1 n)).length ≤ 8192
  have e : wps [.H, .A] (long1 n) = wLs wU (List.replicate n 0) ++ (wLs wNm (List.replicate n ⟨0, ⟨#[]⟩⟩) ++ []) := rfl
  rw [List.length_append, e, List.append_nil, List.length_append]
  unfold wLs
  rw [List.length_append, List.length_replicate, wL_rep, List.length_append, List.length_replicate, wL_rep]
  have h3 : (wU 12).length = 1 := leb1 (by decide)
  have h4 : (wU 0).length = 1 := leb1 (by decide)
  have h6 : (wNm ⟨0, ⟨#[]⟩⟩).length = 2 := by
   unfold wNm wT
   rw [List.length_append, List.length_append, h4]
   rw [show (bl (⟨#[]⟩ : ByteArray)).length = 0 from rfl, leb1 (by decide)]
  have h5 := leb_small (x := n) (by omega)
  rw [h3, h4, h6]
  omega
 rw [h1, decide_eq_true h2, Bool.and_true]
theorem may_long2 (s : ByteArray) (h0 : 128 ≤ s.size) (hn : s.size ≤ 9000) : mayM (long2 s) = decide (s.size + 6 ≤ 8192) := by
 rw [may_long rfl rfl]
 have h1 : all14.all (fun p => bp p (long2 s) && !lb p (long2 s)) = true := by
  have hP : bp .P (long2 s) = true := by
   show decide (s.size ≤ 16384) = true
   exact decide_eq_true (by omega)
  unfold all14
  simp only [List.all_cons, List.all_nil, hP]
  simp [bp, lb, long2, m0, t0, nb, pathB, resB, bl, sz0]
 have h2 : (raw (long2 s)).length = s.size + 6 := by
  show (wU 13 ++ wps [.T, .P, .I, .F] (long2 s)).length = _
  have e : wps [.T, .P, .I, .F] (long2 s) = wT ⟨#[]⟩ ++ (wT s ++ (wLs wI [] ++ (wU 0 ++ []))) := rfl
  rw [e]
  have h3 : (wU 13).length = 1 := leb1 (by decide)
  have h4 : (wU 0).length = 1 := leb1 (by decide)
  have h5 : (Num.leb s.size).length = 2 := leb2 h0 (by omega)
  have h6 : (Num.leb 0).length = 1 := leb1 (by decide)
  unfold wLs wT
  simp only [List.length_append, bl_len, sz0, List.length_nil, h5, h6, h3, h4, show (wL wI []).length = 0 from rfl]
  omega
 rw [h1, h2, Bool.true_and]
theorem ty_long0 (n : Nat) : TyM (long0 n) := { ty0 (k := 8) (by decide) with codes := fun x hx => by rw [List.eq_of_mem_replicate hx]; exact i0 }
theorem ty_long1 (n : Nat) : TyM (long1 n) := { ty0 (k := 12) (by decide) with
 names := fun x hx => by rw [List.eq_of_mem_replicate hx]; exact u0
 epochs := fun x hx => by rw [List.eq_of_mem_replicate hx]; exact u0 }
theorem ty_long2 (s : ByteArray) : TyM (long2 s) := { ty0 (k := 13) (by decide) with }
end Ms
end Go.Proofs.YtghbjknpffiaiaaGreat

namespace Go.Proofs.YtghbjknpffiaiaaGreat
open Go.RowKit
set_option linter.unusedVariables false
section
variable {P : Program} {ops : Array Oper} {rest : List Oper} {o : Oper} {a : Act} {Q : Exit → Act → World → Prop}
theorem wpl_append_row2 {w0 : World} {ys : List Value} {e' : TypeId} {s x : Operand} {t e : TypeId} {z : Value} {size bytes : Nat} {base : Nat} {v : Value} {n : Nat} {xs : List Value} {nb : Nat}
  (hgd : o.guard = none) (ho : o.op = .call { callee := .builtin .append, args := #[s, x], argTypes := #[t, t] })
  (hx : a.eval x = .slice (some ⟨nb, 0, none⟩) 1 1) (hs : a.eval s = v)
  (ht : P.underlying t = some (.slice e)) (hi : Info P e z size bytes) (hz : z.cells.size = size) (hy : ys.all (·.oneCell') = true) (hl : ys.length = 1 * size) (hsz : 0 < size) (hb : bytes ≤ 1024)
  (hown : w0.ownsRow base e size v n xs) (hn : n < 2147483648) (hbase : base ≤ w0.heap.size) (hnb : nb = w0.heap.size)
  (h : ∀ v' w', w'.ownsRow base e size v' (n + 1) (xs ++ ys) → Only (fun k => v.ownBlock = some k) w0 w' → wpList P ops Q rest (a.put o.dst v') w') :
  wpList P ops Q (o :: rest) a (w0.alloc (.cells ys.toArray e')) := by
 subst hnb
 obtain ⟨i, hi1, hi2, hi3, hi4⟩ := info_parts hi
 refine wpList_append_own _ hgd s x t ho base e i z size bytes ht hi1 hi2 hi3 hi4 hz hsz v n xs hs (hown.alloc _) _ 1 1 ys hx hl ?_ (fun u hu => List.all_eq_true.1 hy u hu)
  (by unfold maxLen; omega) (by have : (n + 1) * bytes ≤ 2147483648 * 1024 := Nat.mul_le_mul (by omega) hb; omega) (by simp; omega) ?_
 ·intro j u hj
  have : (⟨w0.heap.size, 0, none⟩ : Addr).add j = ⟨w0.heap.size, j, none⟩ := by unfold Addr.add; split <;> simp_all
  rw [this, (Blk.new w0 e' ys.toArray).cell j]; simpa using hj
 intro v' w' h1 h2 _
 exact h v' w' h1 ⟨h2.os, h2.tape, h2.output, by have := h2.size; simp at this; omega, fun k hk hne => (h2.block k (by simp; omega) (fun e => hne e.symm)).trans (Below.heap_alloc _ _ _ hk)⟩
end
section
variable {P : Program} {ops : Array Oper} {rest : List Oper} {o : Oper} {a : Act} {Q : Exit → Act → World → Prop}
end
theorem owns_only {S : Nat → Prop} {w w' : World} {base size : Nat} {e : TypeId} {v : Value} {n : Nat} {xs : List Value} (h : w.ownsRow base e size v n xs) (ho : Only S w w') (hS : ∀ g, v.ownBlock = some g → ¬ S g) : w'.ownsRow base e size v n xs := by
 obtain ⟨hl, h | ⟨g, cap, cur, rfl, hb, hg, h1, h2, h3, h4⟩⟩ := h
 ·exact ⟨hl, .inl h⟩
 ·exact ⟨hl, .inr ⟨g, cap, cur, rfl, hb, by rw [ho.block g (Array.getElem?_eq_some_iff.1 hg).1 (hS g rfl)]; exact hg, h1, h2, h3, h4⟩⟩
theorem owns_type {w : World} {base size : Nat} {e : TypeId} {v : Value} {n : Nat} {xs : List Value} (h : w.ownsRow base e size v n xs) {g : Nat} (hv : v.ownBlock = some g) : ∃ cur, w.heap[g]? = some (.cells cur e (0, 0)) ∧ base ≤ g ∧ g < w.heap.size := by
 obtain ⟨hl, ⟨rfl, _⟩ | ⟨g', cap, cur, rfl, hb, hg, _⟩⟩ := h
 ·cases hv
 ·cases hv; exact ⟨cur, hg, hb, (Array.getElem?_eq_some_iff.1 hg).1⟩
theorem owns_ne {w : World} {base size : Nat} {e T : TypeId} {v : Value} {n : Nat} {xs : List Value} (h : w.ownsRow base e size v n xs) {b : Nat} {A : Array Value} (hb : Blk w b T A) (hT : T ≠ e) : ∀ g, v.ownBlock = some g → g ≠ b := by
 intro g hg e'
 subst e'
 obtain ⟨cur, h1, _, _⟩ := owns_type h hg
 unfold Blk at hb
 rw [hb] at h1
 injection h1 with h1
 injection h1 with _ h1
 exact hT h1
theorem owns_below {w w' : World} {base size : Nat} {e : TypeId} {v : Value} {n : Nat} {xs : List Value} (h : w.ownsRow base e size v n xs) (hb : Below w.heap.size w w') : w'.ownsRow base e size v n xs := owns_only h (Only.of_below (S := fun _ => False) hb) (fun _ _ h => h)
theorem owns_slice {w : World} {base size : Nat} {e : TypeId} {v : Value} {n : Nat} {xs : List Value} (h : w.ownsRow base e size v n xs) : ∃ p cap, v = .slice p n cap := by
 obtain ⟨hl, ⟨rfl, h0⟩ | ⟨g, cap, cur, rfl, _⟩⟩ := h
 ·exact ⟨none, 0, by rw [h0]⟩
 ·exact ⟨_, _, rfl⟩
theorem owns_cells {w : World} {base size : Nat} {e : TypeId} {v : Value} {n : Nat} {xs : List Value} (h : w.ownsRow base e size v n xs) (hn : 0 < n) : ∃ g cap, v = .slice (some ⟨g, 0, none⟩) n cap ∧ base ≤ g ∧ g < w.heap.size ∧ (∀ o, w.frozen? ⟨g, o, none⟩ = false) ∧ ∀ j, j < n * size → w.cell? ⟨g, j, none⟩ = xs[j]? := by
 obtain ⟨hl, ⟨rfl, h0⟩ | ⟨g, cap, cur, rfl, hb, hg, h1, h2, h3, h4⟩⟩ := h
 ·omega
 ·refine ⟨g, cap, rfl, hb, (Array.getElem?_eq_some_iff.1 hg).1, fun o => Blk.frozen (T := e) (A := cur) hg o, fun j hj => ?_⟩
  rw [(show Blk w g e cur from hg).cell j, ← Array.getElem?_toList, ← h4, List.getElem?_take, if_pos hj]
section
variable {P : Program} {ops : Array Oper} {o : Oper} {a : Act} {K : Act → World → Prop} {Q : Exit → Act → World → Prop} {E : Prop}
theorem step_append_row2 {w0 : World} {ys : List Value} {e' : TypeId} {s x : Operand} {t e : TypeId} {z : Value} {size bytes : Nat} {base : Nat} {v : Value} {n : Nat} {xs : List Value} {nb : Nat}
  (hgd : o.guard = none) (ho : o.op = .call { callee := .builtin .append, args := #[s, x], argTypes := #[t, t] })
  (hx : a.eval x = .slice (some ⟨nb, 0, none⟩) 1 1) (hs : a.eval s = v)
  (ht : P.underlying t = some (.slice e)) (hi : Info P e z size bytes) (hz : z.cells.size = size) (hy : ys.all (·.oneCell') = true) (hl : ys.length = 1 * size) (hsz : 0 < size) (hb : bytes ≤ 1024)
  (hown : w0.ownsRow base e size v n xs) (hn : n < 2147483648) (hbase : base ≤ w0.heap.size) (hnb : nb = w0.heap.size)
  (h : ∀ v' w', w'.ownsRow base e size v' (n + 1) (xs ++ ys) → Only (fun k => v.ownBlock = some k) w0 w' → K (a.put o.dst v') w') :
  if Region.wanted o (yielded ops a.tmps) = true then Oper.wp P o a (w0.alloc (.cells ys.toArray e')) K Q else E := by
 rw [if_pos (by simp [Region.wanted, hgd])]
 subst hnb
 obtain ⟨i, hi1, hi2, hi3, hi4⟩ := info_parts hi
 refine wp_append_own _ s x t ho base e i z size bytes ht hi1 hi2 hi3 hi4 hz hsz v n xs hs (hown.alloc _) _ 1 1 ys hx hl ?_ (fun u hu => List.all_eq_true.1 hy u hu)
  (by unfold maxLen; omega) (by have : (n + 1) * bytes ≤ 2147483648 * 1024 := Nat.mul_le_mul (by omega) hb; omega) (by simp; omega) ?_
 ·intro j u hj
  have : (⟨w0.heap.size, 0, none⟩ : Addr).add j = ⟨w0.heap.size, j, none⟩ := by unfold Addr.add; split <;> simp_all
  rw [this, (Blk.new w0 e' ys.toArray).cell j]; simpa using hj
 intro v' w' h1 h2 _
 exact h v' w' h1 ⟨h2.os, h2.tape, h2.output, by have := h2.size; simp at this; omega, fun k hk hne => (h2.block k (by simp; omega) (fun e => hne e.symm)).trans (Below.heap_alloc _ _ _ hk)⟩
end
theorem flat_at {α β : Type} (f : α → List β) (m : Nat) (hf : ∀ x, (f x).length = m) : ∀ (l : List α) (i j : Nat) (hi : i < l.length), j < m → (l.flatMap f)[i * m + j]? = (f l[i])[j]? := by
 intro l
 induction l with
 | nil => intro i j hi; simp at hi
 | cons x l ih =>
  intro i j hi hj
  rw [List.flatMap_cons]
  cases i with
  | zero => rw [Nat.zero_mul, Nat.zero_add, List.getElem?_append_left (by rw [hf]; exact hj)]; rfl
  | succ i =>
   rw [List.getElem?_append_right (by rw [hf, Nat.succ_mul]; omega), hf, show (i + 1) * m + j - m = i * m + j by rw [Nat.succ_mul]; omega]
   exact ih i j (by simpa using hi) hj
end Go.Proofs.YtghbjknpffiaiaaGreat

namespace Go.Proofs.YtghbjknpffiaiaaGreat
open Go.RowKit Wire Ms
set_option linter.unusedVariables false
set_option linter.unusedSimpArgs false
theorem wr64 {x : Int} {n : Nat} (h : x = (n : Int)) (hb : n ≤ 4611686018427387904) : wrap64 x = (n : Int) := by subst h; unfold wrap64; omega
def oddB (c : UInt8) : Bool := decide (c.toNat < 1) || decide (16 < c.toNat)
theorem pathB_odd (s : ByteArray) : pathB s = (decide (s.size ≤ 12) && !(Ms.bl s).any oddB) := by
 unfold pathB
 congr 1
 induction Ms.bl s with
 | nil => rfl
 | cons a l ih =>
  rw [List.all_cons, List.any_cons, ih, Bool.not_or]
  congr 1
  unfold oddB
  rw [Bool.not_or]
  congr 1
  ·rw [Bool.eq_iff_iff]; simp; omega
  ·rw [Bool.eq_iff_iff]; simp
set_option maxRecDepth 100000 in
theorem odd_any (c : UInt8) (w : World) : Calls Tryz.prog 126 #[.int .u8 (c.toNat : Int)] w fun e w' => e = .returned (.bool (oddB c)) ∧ w' = w := by
 have h1 : (decide ((c.toNat : Int) < 1) || decide ((16 : Int) < (c.toNat : Int))) = oddB c := by
  unfold oddB
  congr 1
  ·rw [Bool.eq_iff_iff]; simp; omega
  ·rw [Bool.eq_iff_iff]; simp; omega
 rw [← h1]
 generalize (c.toNat : Int) = x
 clear h1
 by_cases hx : x < 1
 ·have hx' : decide (x < 1) = true := decide_eq_true hx
  go_enter Tryz.func126, Tryz.ntmps126
  go_wp2_with fail
  go_ret
  simp [hx]
 ·have hx' : decide (x < 1) = false := decide_eq_false hx
  go_enter Tryz.func126, Tryz.ntmps126
  go_wp2_with fail
  go_ret
  simp [hx]
def IxPost (b : Bool) (w : World) (e : Ending) (w' : World) : Prop := (∃ x : Int, e = .returned (.int .i64 x) ∧ (0 ≤ x ↔ b = true)) ∧ w' = w
def BlPost (b : Bool) (w : World) (e : Ending) (w' : World) : Prop := e = .returned (.bool b) ∧ w' = w
def BytesAt (w : World) (v : Value) (s : ByteArray) : Prop := ∃ p cap, v = .slice p s.size cap ∧ (0 < s.size → ∃ g off, p = some ⟨g, off, none⟩ ∧ ∀ i (h : i < (Ms.bl s).length), w.cell? ⟨g, off + i, none⟩ = some (.int .u8 ((Ms.bl s)[i].toNat : Int)))
set_option maxRecDepth 100000 in
set_option maxHeartbeats 1000000 in
theorem index_odd {w : World} {v : Value} {s : ByteArray} (h : BytesAt w v s) (hs : s.size ≤ 1000) : Calls Tryz.prog 129 #[v, .func (.func 126) #[] #[]] w (IxPost ((Ms.bl s).any oddB) w) := by
 obtain ⟨p, cap, rfl, h⟩ := h
 have HH := Lib.hid h
 have HS := Lib.hid hs
 clear h hs
 go_enter Tryz.func129, Tryz.ntmps129
 go_wp2_with fail
 go_loopw [8] (fun u wr => ∃ i : Nat, u = .int .i64 i ∧ i ≤ s.size ∧ ((Ms.bl s).take i).any oddB = false ∧ wr = w) (fun u _ => ((s.size : Int) - intOf u).toNat)
 case atStart => exact ⟨0, rfl, Nat.zero_le _, rfl, rfl⟩
 case round =>
  obtain ⟨i, rfl, hi, hno, hwr⟩ := hrel
  have hwr := hwr.symm
  subst hwr
  have HI := Lib.hid hi
  have HNO := Lib.hid hno
  clear hi hno
  by_cases hil : i < s.size
  ·have hil' : (i : Int) < (s.size : Int) := by omega
   have hi0 : (0 : Int) ≤ (i : Int) := by omega
   obtain ⟨g, off, rfl, hc⟩ := HH.out (by omega)
   have hbi : i < (Ms.bl s).length := by rw [bl_len]; exact hil
   have x0 := hc i hbi
   have HE : Hid (wrap64 ((i : Int) + 1) = ((i + 1 : Nat) : Int)) := Lib.hid (wr64 rfl (by have := HS.out; omega))
   have HT : Hid (((Ms.bl s).take (i + 1)).any oddB = oddB (Ms.bl s)[i]) := Lib.hid (by rw [List.take_succ_eq_append_getElem hbi, List.any_append, HNO.out]; simp)
   have HM : Hid (oddB (Ms.bl s)[i] = true → (Ms.bl s).any oddB = true) := Lib.hid fun h => List.any_eq_true.2 ⟨_, List.getElem_mem hbi, h⟩
   have HIL := Lib.hid hil
   have HOD := Lib.hid (odd_any (Ms.bl s)[i] w)
   clear hc hil
   generalize (Ms.bl s)[i] = c at *
   cases hod : oddB c with
   | true =>
    rw [hod] at HOD
    have HF := Lib.hid (HM.out hod)
    clear HM HT hod
    go_wp2_with (go_at_call 126; ((with_reducible refine HOD.out.mono ?_); rintro e w9 ⟨rfl, hw9⟩; have hw9 := hw9.symm; subst hw9))
    go_ret
    exact ⟨⟨_, rfl, by rw [HF.out]; exact ⟨fun _ => rfl, fun _ => by omega⟩⟩, rfl⟩
   | false =>
    rw [hod] at HOD HT
    clear HM hod
    go_wp2_with (go_at_call 126; ((with_reducible refine HOD.out.mono ?_); rintro e w9 ⟨rfl, hw9⟩; have hw9 := hw9.symm; subst hw9))
    go_roundw
    case rel => rw [HE.out]; exact ⟨i + 1, rfl, HIL.out, HT.out, by first | rfl | trivial⟩
    case measure => have := HIL.out; rw [HE.out]; simp [intOf]; omega
  ·obtain rfl : i = s.size := by have := HI.out; omega
   have hil' : ¬ ((s.size : Nat) : Int) < (s.size : Int) := by omega
   have HN : Hid ((Ms.bl s).any oddB = false) := Lib.hid (by have := HNO.out; rwa [← bl_len, List.take_length] at this)
   clear hil
   go_wp2_with fail
   go_ret
   exact ⟨⟨_, rfl, by rw [HN.out]; exact ⟨fun h => absurd h (by decide), fun h => by cases h⟩⟩, rfl⟩
set_option maxRecDepth 100000 in
theorem contains_odd {w : World} {v : Value} {s : ByteArray} (h : BytesAt w v s) (hs : s.size ≤ 1000) : Calls Tryz.prog 127 #[v, .func (.func 126) #[] #[]] w (BlPost ((Ms.bl s).any oddB) w) := by
 have HX := Lib.hid (index_odd h hs)
 obtain ⟨p, cap, rfl, h⟩ := h
 clear h hs
 generalize (Ms.bl s).any oddB = b at *
 cases b with
 | true =>
  go_enter Tryz.func127, Tryz.ntmps127
  go_wp2_with (go_at_call 129; ((with_reducible refine HX.out.mono ?_); rintro e w9 ⟨⟨x, rfl, hx⟩, hw9⟩; have hw9 := hw9.symm; subst hw9; have hx' := hx.2 rfl; clear hx))
  go_ret
  exact ⟨rfl, rfl⟩
 | false =>
  go_enter Tryz.func127, Tryz.ntmps127
  go_wp2_with (go_at_call 129; ((with_reducible refine HX.out.mono ?_); rintro e w9 ⟨⟨x, rfl, hx⟩, hw9⟩; have hw9 := hw9.symm; subst hw9; have hx' : ¬ 0 ≤ x := fun h => by { have := hx.1 h; cases this }; clear hx))
  go_ret
  first | exact ⟨rfl, rfl⟩ | exact ⟨congrArg (fun z => Ending.returned (Value.bool z)) (decide_eq_false (by omega)), rfl⟩ | (refine ⟨?_, rfl⟩; simp; omega)
theorem bytes_below (w : World) (e : TypeId) (s : ByteArray) : Below w.heap.size w (Lib.bytesWorld w e s) := by
 refine ⟨?_, ?_, ?_, by rw [Lib.bytesWorld_size]; omega, fun k hk => Lib.bytesWorld_at_old w e s k hk⟩
 all_goals simp [Lib.bytesWorld, World.freeze, World.alloc, World.drew, -World.alloc_eq, -World.drew_eq]
theorem bytes_at (w : World) (e : TypeId) (s : ByteArray) (c : Nat) : BytesAt (Lib.bytesWorld w e s) (.slice (some ⟨w.heap.size, 0, none⟩) s.size c) s := by
 refine ⟨_, _, rfl, fun _ => ⟨_, _, rfl, fun i h => ?_⟩⟩
 rw [Nat.zero_add, Lib.bytesWorld_cell w e s i (by rw [← Ms.bl_len]; exact h)]
 congr 3
 unfold Ms.bl at h ⊢
 simp only [List.getD, List.getElem?_eq_getElem h, Option.getD_some]
set_option maxRecDepth 100000 in
set_option maxHeartbeats 1000000 in
theorem pmay_any (s : ByteArray) (w : World) : Calls Tryz.prog 119 #[.string s] w fun e w' => e = .returned (.bool (pathB s)) ∧ Below w.heap.size w w' := by
 rw [pathB_odd]
 by_cases hs : s.size ≤ 12
 ·have hs' : ((s.size : Int) ≤ 12) := by omega
  rw [decide_eq_true hs, Bool.true_and]
  have hcv := fun w => Lib.run_convert_string_bytes (P := Tryz.prog) w 163 48 5 s Tryz.underlying163 Tryz.underlying48 Tryz.underlying5
  have HC := Lib.hid (fun c => contains_odd (bytes_at w 5 s c) (by omega))
  have HB := Lib.hid (bytes_below w 5 s)
  clear hs
  generalize (Ms.bl s).any oddB = b at *
  go_enter Tryz.func119, Tryz.ntmps119
  go_wp2_with (go_at_call 127; ((with_reducible refine (HC.out _).mono ?_); rintro e w9 ⟨rfl, hw9⟩; have hw9 := hw9.symm; subst hw9))
  go_ret
  exact ⟨rfl, HB.out⟩
 ·have hs' : ¬ ((s.size : Int) ≤ 12) := by omega
  rw [decide_eq_false hs, Bool.false_and]
  clear hs
  go_enter Tryz.func119, Tryz.ntmps119
  go_wp2_with fail
  go_ret
  exact ⟨rfl, Below.refl _ _⟩
set_option maxRecDepth 100000 in
theorem bmay_any (s : ByteArray) (w : World) : Calls Tryz.prog 112 #[.string s] w fun e w' => e = .returned (.bool (pathB s)) ∧ Below w.heap.size w w' := by
 have HP := Lib.hid (pmay_any s w)
 generalize pathB s = b at *
 go_enter Tryz.func112, Tryz.ntmps112
 go_wp2_with (go_at_call 119; ((with_reducible refine HP.out.mono ?_); rintro e w1 ⟨rfl, hb1⟩))
 go_ret
 exact ⟨rfl, hb1⟩
theorem odd_cases (c : UInt8) : oddB c = (decide ((c.toNat : Int) < 1) || decide ((16 : Int) < (c.toNat : Int))) := by
 unfold oddB
 congr 1
 ·rw [Bool.eq_iff_iff]; simp; omega
 ·rw [Bool.eq_iff_iff]; simp; omega
set_option maxRecDepth 100000 in
set_option maxHeartbeats 1000000 in
theorem rmay12_any (s : ByteArray) (hs : s.size ≤ 1073741824) (w : World) : Calls Tryz.prog 53 #[.string s] w (BlPost (pathB s) w) := by
 have HS := Lib.hid hs
 rw [pathB_odd]
 clear hs
 go_enter Tryz.func53, Tryz.ntmps53
 go_wp2_with fail
 go_loopw [3] (fun u wr => ∃ i : Nat, u = .int .i64 i ∧ i ≤ s.size ∧ ((Ms.bl s).take i).any oddB = false ∧ wr = w) (fun u _ => ((s.size : Int) - intOf u).toNat)
 case atStart => exact ⟨0, rfl, Nat.zero_le _, rfl, rfl⟩
 case round =>
  obtain ⟨i, rfl, hi, hno, hwr⟩ := hrel
  have hwr := hwr.symm
  subst hwr
  have HI := Lib.hid hi
  have HNO := Lib.hid hno
  clear hi hno
  by_cases hil : i < s.size
  ·have hil' : (i : Int) < (s.size : Int) := by omega
   have hi0 : (0 : Int) ≤ (i : Int) := by omega
   have hbi : i < (Ms.bl s).length := by rw [Ms.bl_len]; exact hil
   have HE : Hid (wrap64 ((i : Int) + 1) = ((i + 1 : Nat) : Int)) := Lib.hid (wr64 rfl (by have := HS.out; omega))
   have HT : Hid (((Ms.bl s).take (i + 1)).any oddB = oddB (s[i]'hil)) := Lib.hid (by show _ = oddB (Ms.bl s)[i]; rw [List.take_succ_eq_append_getElem hbi, List.any_append, HNO.out]; simp)
   have HM : Hid (oddB (s[i]'hil) = true → (Ms.bl s).any oddB = true) := Lib.hid fun h => List.any_eq_true.2 ⟨_, List.getElem_mem hbi, h⟩
   have HIL := Lib.hid hil
   by_cases h1 : ((s[i]'hil).toNat : Int) < 1
   ·have HF := Lib.hid (HM.out (by rw [odd_cases, decide_eq_true h1]; rfl))
    clear HM HT
    go_wp2_with fail
    go_ret
    rw [HF.out]
    exact ⟨by simp, rfl⟩
   ·by_cases h2 : (16 : Int) < ((s[i]'hil).toNat : Int)
    ·have HF := Lib.hid (HM.out (by rw [odd_cases, decide_eq_true h2, Bool.or_true]))
     clear HM HT
     go_wp2_with fail
     go_ret
     rw [HF.out]
     exact ⟨by simp, rfl⟩
    ·have HT2 := Lib.hid (HT.out.trans (by rw [odd_cases, decide_eq_false h1, decide_eq_false h2]))
     clear HM HT
     go_wp2_with fail
     go_roundw
     case rel => rw [HE.out]; exact ⟨i + 1, rfl, HIL.out, HT2.out, by first | rfl | trivial⟩
     case measure => have := HIL.out; rw [HE.out]; simp [intOf]; omega
  ·obtain rfl : i = s.size := by have := HI.out; omega
   have hil' : ¬ ((s.size : Nat) : Int) < (s.size : Int) := by omega
   have HN : Hid ((Ms.bl s).any oddB = false) := Lib.hid (by have := HNO.out; rwa [← Ms.bl_len, List.take_length] at this)
   clear hil
   by_cases h12 : s.size ≤ 12
   ·have h12' : (s.size : Int) ≤ 12 := by omega
    go_wp2_with fail
    go_ret
    rw [HN.out]
    exact ⟨rfl, rfl⟩
   ·have h12' : ¬ (s.size : Int) ≤ 12 := by omega
    have h13 : (12 : Int) < (s.size : Int) := by omega
    go_wp2_with fail
    go_ret
    exact ⟨rfl, rfl⟩
end Go.Proofs.YtghbjknpffiaiaaGreat

namespace Go.Proofs.YtghbjknpffiaiaaGreat
namespace Reg
open Go.RowKit
set_option linter.unusedVariables false
section
variable {P : Program} {ops : Array Oper} {I : World → Prop} {a0 : Act} {R : Act → World → Prop} {o : Oper} {rest : List Oper} {K : List (Option Tmp × Spec)} {Gs : List (World → World → Prop)} {Js : List (World → Prop)} {w0 : World}
theorem looksG {j : Nat} {b : Bool} {g : Tmp} (hg : o.guard = some (j, b)) (hd : ((ops[j]?).bind (·.dst)) = some g) : g ∈ o.looksAt ops := by
 unfold Oper.looksAt
 rw [hg]
 simp [hd]
theorem rely_plain (c : Value) (hg : o.guard = none)
  (hrun : ∀ (a : Act) (w : World), I w → (∀ t ∈ o.looksAt ops, Fact K a0 t (a.tmps.getD t undef) w) → (execOp a.eval o).run P w = .ok (.value c) w)
  (hr : Rely P ops I w0 a0 R rest ((o.dst, Is c) :: K) Gs Js) : Rely P ops I w0 a0 R (o :: rest) K Gs Js :=
 rely_is c (fun a w hI hF => det_plain hg (hrun a w hI hF)) hr
end
end Reg
end Go.Proofs.YtghbjknpffiaiaaGreat

namespace Go.Proofs.YtghbjknpffiaiaaGreat
namespace Reg
open Go.RowKit
set_option linter.unusedVariables false
def near (md : Region.Mode) (ops : Array Oper) (j i : Nat) : Bool :=
 match ops[i]? with
 | some o => o.after.any fun e => Region.binds md e && e.on == j
 | none => false
def aheadQ (md : Region.Mode) (ops : Array Oper) (j i : Nat) : Bool := near md ops j i || ahead md ops ops.size j i
theorem aheadQ_imp {md : Region.Mode} {ops : Array Oper} {j i : Nat} (h : aheadQ md ops j i = true) : ahead md ops ops.size j i = true := by
 unfold aheadQ at h
 rw [Bool.or_eq_true] at h
 rcases h with h | h
 ·unfold near at h
  cases ho : ops[i]? with
  | none => rw [ho] at h; cases h
  | some o =>
   rw [ho] at h
   simp only at h
   have hlt : i < ops.size := (Array.getElem?_eq_some_iff.1 ho).1
   obtain ⟨k, hk⟩ : ∃ k, ops.size = k + 1 := ⟨ops.size - 1, by omega⟩
   rw [hk]
   unfold ahead
   rw [ho]
   simp only
   rw [Array.any_eq_true] at h ⊢
   obtain ⟨x, hx, h2⟩ := h
   refine ⟨x, hx, ?_⟩
   rw [Bool.and_eq_true] at h2 ⊢
   exact ⟨h2.1, by rw [h2.2]; rfl⟩
 ·exact h
def readsOkQ (md : Region.Mode) (ops : Array Oper) (n : Nat) (i : Nat) : Bool :=
 match ops[i]? with
 | some oi => (oi.looksAt ops).all fun t => (List.range n).all fun j =>
  (match ops[j]? with | some oj => oj.dst != some t || (decide (j < i) && aheadQ md ops j i) || (decide (i < j) && aheadQ md ops i j) | none => true)
 | none => false
def relyOkQ (P : Program) (md : Region.Mode) (ops : Array Oper) (n m : Nat) : Bool :=
 textOk P md ops n && decide (n ≤ ops.size) && (List.range n).all fun i => readsOkQ md ops n i && distOk ops n i &&
  ((List.range ops.size).all fun t => decide (t < n) || aheadQ md ops i t) &&
  (match (ops[i]?).bind (·.dst) with | some d => decide (d < m) | none => true)
theorem relyOk_of {P : Program} {md : Region.Mode} {ops : Array Oper} {n m : Nat} (h : relyOkQ P md ops n m = true) : relyOk P md ops n m = true := by
 unfold relyOkQ at h
 unfold relyOk
 rw [Bool.and_eq_true] at h ⊢
 refine ⟨h.1, ?_⟩
 have h2 := h.2
 rw [List.all_eq_true] at h2 ⊢
 intro i hi
 have h3 := h2 i hi
 rw [Bool.and_eq_true, Bool.and_eq_true, Bool.and_eq_true] at h3 ⊢
 obtain ⟨⟨⟨a, b⟩, c⟩, d⟩ := h3
 refine ⟨⟨⟨?_, b⟩, ?_⟩, d⟩
 ·unfold readsOkQ at a
  unfold readsOk
  cases ho : ops[i]? with
  | none => rw [ho] at a; cases a
  | some oi =>
   rw [ho] at a
   simp only at a ⊢
   rw [List.all_eq_true] at a ⊢
   intro t ht
   have a1 := a t ht
   rw [List.all_eq_true] at a1 ⊢
   intro j hj
   have a2 := a1 j hj
   cases hj2 : ops[j]? with
   | none => rfl
   | some oj =>
    rw [hj2] at a2
    simp only [Bool.or_eq_true, Bool.and_eq_true] at a2 ⊢
    rcases a2 with (a2 | a2) | a2
    ·exact .inl (.inl a2)
    ·exact .inl (.inr ⟨a2.1, aheadQ_imp a2.2⟩)
    ·exact .inr ⟨a2.1, aheadQ_imp a2.2⟩
 ·rw [List.all_eq_true] at c ⊢
  intro t ht
  have c1 := c t ht
  rw [Bool.or_eq_true] at c1 ⊢
  exact c1.imp id aheadQ_imp
end Reg
end Go.Proofs.YtghbjknpffiaiaaGreat
