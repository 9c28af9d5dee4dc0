import Derived.Test.YtghbjknpffiaiaaGreatMsZ
import Derived.Test.YtghbjknpffiaiaaGreatMgf
import Derived.Test.YtghbjknpffiaiaaGreatMge
import Derived.Test.YtghbjknpffiaiaaGreatMgi
import Derived.Deep.QuietTactic
import Derived.BigQuiet
namespace Go.Proofs.YtghbjknpffiaiaaGreat
open Go.RowKit Wire Ms
set_option linter.unusedVariables false
set_option linter.unusedSimpArgs false
theorem pw_all (K : Int) (p : Pt) {w : World} {B k g L : Nat} {m : M} {v : VS} {out : Ls} {bad : Bool} (hk : m.kind = K) (c : KWb w B k out bad L) (hB : B ≤ w.heap.size) (hL : L ≤ 400000000) (h : MB w B g m v) (t : TyM m) (l : Lite m) :
  Calls Tryz.prog (pf K p) #[.pointer (some ⟨k, 0, none⟩), .pointer (some ⟨g, 0, none⟩)] w (WrP w B k (out ++ wp p m) (bad || wbad p m) (L + 6000000)) := by
 cases p
 case J => exact pw_job w B k g L m v out bad c hB hL h t l
 case T => exact pw_token w B k g L m v out bad c hB hL h t l
 case P => exact pw_program w B k g L m v out bad c hB hL h t l
 case I => exact pw_input w B k g L m v out bad c hB hL h t l
 case F => exact pw_fuel w B k g L m v out bad c hB hL h t l
 case K => exact pw_task w B k g L m v out bad c hB hL h t l
 case E => exact pw_epoch w B k g L m v out bad c hB hL h t l
 case N => exact pw_entries w B k g L m v out bad c hB hL h t l
 case H => exact pw_epochs w B k g L m v out bad c hB hL h t l
 case A =>
  by_cases h12 : K = 12
  ·have e : pf K .A = 75 := if_pos h12
   rw [e]
   exact Calls.mono (pw_dropped w B k g L m v out bad c hB hL h t l) fun e w' h => WrP.mono h (Nat.le_refl _) rfl (by
    show (bad || ((decide (128 < m.names.length) || m.names.any nmW) || m.epochs.length != m.names.length)) = (bad || ((decide (128 < m.names.length) || m.names.any nmW) || (m.kind == 12 && m.epochs.length != m.names.length)))
    rw [hk, h12]; rfl)
  ·have e : pf K .A = 73 := if_neg h12
   rw [e]
   exact Calls.mono (pw_names w B k g L m v out bad c hB hL h t l) fun e w' h => WrP.mono h (Nat.le_refl _) rfl (by
    show (bad || (decide (128 < m.names.length) || m.names.any nmW)) = (bad || ((decide (128 < m.names.length) || m.names.any nmW) || (m.kind == 12 && m.epochs.length != m.names.length)))
    rw [hk, show (K == 12) = false from beq_false_of_ne h12, Bool.false_and, Bool.or_false])
 case C => exact pw_codes w B k g L m v out bad c hB hL h t l
 case S => exact pw_state w B k g L m v out bad c hB hL h t l
 case R => exact pw_result w B k g L m v out bad c hB hL h t l
 case X => exact pw_err w B k g L m v out bad c hB hL h t l
theorem kp_len (K : Int) : (kp K).length ≤ 6 := by
 have h : ∀ c : Prop, ∀ [Decidable c], ∀ a b : List Pt, a.length ≤ 6 → b.length ≤ 6 → (if c then a else b).length ≤ 6 := fun c _ a b ha hb => by split <;> assumption
 unfold kp
 repeat refine h _ _ _ (by decide) ?_
 decide
theorem KWb.kblk {w : World} {B k L : Nat} {out : Ls} {bad : Bool} (c : KWb w B k out bad L) : ∃ A, Blk w k 58 A := by
 obtain ⟨out', ⟨vO, hk, _, _⟩, _, _⟩ := c
 exact ⟨_, hk⟩
def RW (w : World) (B k : Nat) (m : M) (wS : World) (i : Nat) (w' : World) : Prop :=
 KWb w' B k (wU m.kind ++ wps ((kp m.kind).take i) m) (!kB m.kind || ((kp m.kind).take i).any fun p => wbad p m) (10 + i * 6000000) ∧ OnW B k w w' ∧ OnW B k wS w' ∧ ∃ A, Blk wS k 58 A
theorem msgw_any {w : World} {B k g : Nat} {m : M} {v : VS} (c : KWb w B k [] false 0) (hB : B ≤ w.heap.size) (h : MB w B g m v) (t : TyM m) (l : Lite m) :
  Calls Tryz.prog 17 #[.pointer (some ⟨k, 0, none⟩), .pointer (some ⟨g, 0, none⟩)] w (WrP w B k (raw m) (badW m) 40000000) := by
 have hn := kp_len m.kind
 refine Calls.mono (msg_any (K := m.kind) (b1 := nb m.kind 255) (Q0 := fun w1 => KWb w1 B k ([] ++ wU m.kind) (false || nb m.kind 255) (0 + 10) ∧ OnW B k w w1) (R := RW w B k m) t.kind h.1.lt
  (numw_u8 c hB (by omega) (h.cell 0) (h.away c) t.kind) (fun w1 q => ?_) (fun w1 w2 q hb => ?_) (fun wS i w' j A r hj => ?_) (fun w1 q w2 hb A hA => ?_) (fun wS i w' hi r => ?_)) fun e w' hh => ?_
 ·have h1 := h.on c hB q.2
  exact ⟨h1.1.lt, q.1.lt, h1.cell 0, q.1.c2, fun w2 hb => (q.1.below hb).fz 2⟩
 ·have c2 := (q.1.below hb).flag (nb m.kind 255 || !kB m.kind) (fun e => by rw [Bool.false_or]; exact (Bool.or_eq_false_iff.1 e).1)
  have e0 : nb m.kind 255 = false := nb_false.2 t.kind
  rw [e0, Bool.false_or] at c2 ⊢
  refine ⟨?_, (q.2.step hb).trans c2.2, OnW.refl _ _ _, c2.1.kblk⟩
  rw [List.take_zero]
  have e1 : wps ([] : List Pt) m = [] := rfl
  rw [e1, List.append_nil, List.any_nil, Bool.or_false]
  exact c2.1
 ·obtain ⟨_, _, o, A', hA'⟩ := r
  exact o.blk hj (fun e => by rw [e] at hj; exact absurd (blk_ne hj hA') (by decide)) (by decide)
 ·obtain ⟨A', hA'⟩ := (q.1.below hb).kblk
  exact absurd (blk_ne hA hA') (by decide)
 ·obtain ⟨c1, o1, o2, hA⟩ := r
  have h1 := h.on c hB o1
  have hp := pw_all m.kind (kp m.kind)[i] rfl c1 (Nat.le_trans hB o1.size) (by omega) h1 t l
  refine Calls.mono hp fun e w2 hw => ?_
  have c3 := hw.2.1.mono (show 10 + i * 6000000 + 6000000 ≤ 10 + (i + 1) * 6000000 by omega)
  refine ⟨hw.1, ?_, o1.trans hw.2.2, o2.trans hw.2.2, hA⟩
  rw [List.take_succ_eq_append_getElem hi, List.any_append]
  have e1 : wps ((kp m.kind).take i ++ [(kp m.kind)[i]]) m = wps ((kp m.kind).take i) m ++ wp (kp m.kind)[i] m := by unfold wps; rw [List.flatMap_append]; simp
  rw [e1, ← List.append_assoc]
  simp only [List.any_cons, List.any_nil, Bool.or_false]
  rw [← Bool.or_assoc]
  exact c3
 ·obtain ⟨h1, wS, c1, o1, _⟩ := hh
  rw [List.take_length] at c1
  exact ⟨h1, c1.mono (by omega), o1⟩
theorem pr_all (K : Int) (p : Pt) {w : World} {k rb g D : Nat} {t : M} {v : VS} {q : RS} {bad : Bool} (hk : t.kind = K) (s : RdSt w k rb g D t v q bad) (hv : vp p v = nilV) :
  Calls Tryz.prog (pf K p) #[.pointer (some ⟨k, 0, none⟩), .pointer (some ⟨g, 0, none⟩)] w (fun e w' => e = .returned (.tuple #[]) ∧ ∃ v', RdSt w' k rb g D (rp p t q).1 v' (rp p t q).2 (bad || rbad p (rp p t q).1) ∧ OnRd k rb g w w' ∧ ∀ p' : Pt, p' ≠ p → vp p' v' = vp p' v) := by
 cases p
 case J => exact pr_job w k rb g D t v q bad s hv
 case T => exact pr_token w k rb g D t v q bad s hv
 case P => exact pr_program w k rb g D t v q bad s hv
 case I => exact pr_input w k rb g D t v q bad s hv
 case F => exact pr_fuel w k rb g D t v q bad s hv
 case K => exact pr_task w k rb g D t v q bad s hv
 case E => exact pr_epoch w k rb g D t v q bad s hv
 case N => exact pr_entries w k rb g D t v q bad s hv
 case H => exact pr_epochs w k rb g D t v q bad s hv
 case A =>
  have hk' : (rp .A t q).1.kind = K := (rp_kind .A t q).trans hk
  by_cases h12 : K = 12
  ·have e : pf K .A = 75 := if_pos h12
   rw [e]
   have e2 : rbad .A (rp .A t q).1 = (((rp .A t q).1.names.any fun n => !pathB n.path) || (rp .A t q).1.epochs.length != (rp .A t q).1.names.length) := by
    show (((rp .A t q).1.names.any fun n => !pathB n.path) || ((rp .A t q).1.kind == 12 && (rp .A t q).1.epochs.length != (rp .A t q).1.names.length)) = _
    rw [hk', h12]; rfl
   rw [e2]
   exact pr_dropped w k rb g D t v q bad s hv
  ·have e : pf K .A = 73 := if_neg h12
   rw [e]
   have e2 : rbad .A (rp .A t q).1 = ((rp .A t q).1.names.any fun n => !pathB n.path) := by
    show (((rp .A t q).1.names.any fun n => !pathB n.path) || ((rp .A t q).1.kind == 12 && (rp .A t q).1.epochs.length != (rp .A t q).1.names.length)) = _
    rw [hk', show (K == 12) = false from beq_false_of_ne h12, Bool.false_and, Bool.or_false]
   rw [e2]
   exact pr_names w k rb g D t v q bad s hv
 case C => exact pr_codes w k rb g D t v q bad s hv
 case S => exact pr_state w k rb g D t v q bad s hv
 case R => exact pr_result w k rb g D t v q bad s hv
 case X => exact pr_err w k rb g D t v q bad s hv
def accB : List Pt → M → RS → Bool
 | [], _, _ => false
 | p :: l, t, q => rbad p (rp p t q).1 || accB l (rp p t q).1 (rp p t q).2
theorem rps_snoc : ∀ (l : List Pt) (p : Pt) (t : M) (q : RS), rps (l ++ [p]) t q = rp p (rps l t q).1 (rps l t q).2 := by
 intro l
 induction l with
 | nil => intro p t q; rfl
 | cons a l ih => intro p t q; exact ih p _ _
theorem accB_snoc : ∀ (l : List Pt) (p : Pt) (t : M) (q : RS), accB (l ++ [p]) t q = (accB l t q || rbad p (rps (l ++ [p]) t q).1) := by
 intro l
 induction l with
 | nil => intro p t q; show (rbad p (rp p t q).1 || false) = (false || _); rw [Bool.or_false, Bool.false_or]; rfl
 | cons a l ih =>
  intro p t q
  show (rbad a (rp a t q).1 || accB (l ++ [p]) (rp a t q).1 (rp a t q).2) = ((rbad a (rp a t q).1 || accB l (rp a t q).1 (rp a t q).2) || _)
  rw [ih, Bool.or_assoc]; rfl
def indep (p p' : Pt) : Bool := decide (p ≠ p') && (!(decide (p = .H) && decide (p' = .N)) && !(decide (p = .A) && decide (p' = .H)))
theorem rbad_rp {p p' : Pt} (h : indep p p' = true) (t : M) (q : RS) : rbad p (rp p' t q).1 = rbad p t := by
 cases p <;> cases p' <;> first | rfl | exact absurd h (by decide)
theorem rbad_rps : ∀ (l : List Pt) (p : Pt) (_ : ∀ p' ∈ l, indep p p' = true) (t : M) (q : RS), rbad p (rps l t q).1 = rbad p t := by
 intro l
 induction l with
 | nil => intro p _ t q; rfl
 | cons a l ih =>
  intro p h t q
  show rbad p (rps l (rp a t q).1 (rp a t q).2).1 = _
  rw [ih p (fun p' hp => h p' (List.mem_cons_of_mem _ hp)), rbad_rp (h a List.mem_cons_self)]
theorem accB_any : ∀ (l : List Pt) (_ : l.Pairwise (fun p p' => indep p p' = true)) (t : M) (q : RS), accB l t q = l.any fun p => rbad p (rps l t q).1 := by
 intro l
 induction l with
 | nil => intro _ t q; rfl
 | cons a l ih =>
  intro h t q
  obtain ⟨h1, h2⟩ := List.pairwise_cons.1 h
  show (rbad a (rp a t q).1 || accB l (rp a t q).1 (rp a t q).2) = (rbad a (rps l (rp a t q).1 (rp a t q).2).1 || l.any fun p => rbad p (rps l (rp a t q).1 (rp a t q).2).1)
  rw [ih h2, rbad_rps l a h1]
theorem kp_indep (K : Int) : (kp K).Pairwise (fun p p' => indep p p' = true) := by
 have h : ∀ c : Prop, ∀ [Decidable c], ∀ a b : List Pt, a.Pairwise (fun p p' => indep p p' = true) → b.Pairwise (fun p p' => indep p p' = true) → (if c then a else b).Pairwise (fun p p' => indep p p' = true) := fun c _ a b ha hb => by split <;> assumption
 unfold kp
 repeat refine h _ _ _ (by decide) ?_
 exact List.Pairwise.nil
def nilVS : VS := ⟨nilV, nilV, nilV, nilV, nilV, nilV⟩
theorem nil_vp (p : Pt) : vp p nilVS = nilV := by cases p <;> rfl
def mK (K : Int) : M := { m0 with kind := K }
def RR26 (k rb g D : Nat) (K : Int) (q1 : RS) (wS : World) (i : Nat) (w' : World) : Prop :=
 (∃ v', RdSt w' k rb g D (rps ((kp K).take i) (mK K) q1).1 v' (rps ((kp K).take i) (mK K) q1).2 (!kB K || accB ((kp K).take i) (mK K) q1) ∧ ∀ p ∈ (kp K).drop i, vp p v' = nilV) ∧ OnRd k rb g wS w' ∧ ∀ j A, Blk wS j 92 A → j ≠ k ∧ j ≠ rb ∧ j ≠ g
theorem RdSt.noFT {w : World} {k rb g D : Nat} {t : M} {v : VS} {q : RS} {bad : Bool} (s : RdSt w k rb g D t v q bad) : ∀ j A, Blk w j 92 A → j ≠ k ∧ j ≠ rb ∧ j ≠ g := fun j A h =>
 ⟨fun e => by rw [e] at h; exact absurd (blk_ne h s.kr.1) (by decide), fun e => by rw [e] at h; exact absurd (blk_ne h s.kr.2.blk) (by decide), fun e => by rw [e] at h; exact absurd (blk_ne h s.blk) (by decide)⟩
theorem msgr_any {w : World} {k rb g D : Nat} {q : RS} (s : RdSt w k rb g D m0 nilVS q false) :
  Calls Tryz.prog 17 #[.pointer (some ⟨k, 0, none⟩), .pointer (some ⟨g, 0, none⟩)] w (fun e w' => e = .returned (.tuple #[]) ∧ ∃ v', RdSt w' k rb g D (readM q).1 v' (readM q).2 (badR (readM q).1) ∧ OnRd k rb g w w') := by
 have hK := uV_rg (m := 255) (by decide) q
 have hR : readM q = rps (kp (uV 255 q)) (mK (uV 255 q)) (uS 255 q) := rfl
 generalize hk : uV 255 q = K at *
 refine Calls.mono (msg_any (K := K) (b1 := false) (Q0 := fun w1 => RdSt w1 k rb g D (mK K) nilVS (uS 255 q) false ∧ OnRd k rb g w w1) (R := fun wS i w' => RR26 k rb g D K (uS 255 q) wS i w' ∧ OnRd k rb g w w') hK s.blk.lt
  (Calls.mono (numr_u8 s.kr s.blk (mlt (by decide)) s.gk s.gr (by decide)) fun e w' h => ?_) (fun w1 q1 => ?_) (fun w1 w2 q1 hb => ?_) (fun wS i w' j A r hj => ?_) (fun w1 q1 w2 hb A hA => ?_) (fun wS i w' hi r => ?_)) fun e w' hh => ?_
 ·rw [hk] at h
  refine ⟨h.1, s.next h.2.1 h.2.2.1 h.2.2.2 ?_, h.2.2.2⟩
  have r := s.rows.on h.2.2.2 s.lt
  exact ⟨r.ri, r.ra, r.rn, r.rh, r.rm, r.rc⟩
 ·obtain ⟨s1, o1⟩ := q1
  exact ⟨s1.blk.lt, s1.kr.lt.1, s1.blk.cell 0, s1.kr.c2, fun w2 hb => (s1.below hb).kr.fz 2⟩
 ·obtain ⟨s1, o1⟩ := q1
  have c2 := (s1.below hb).flag (false || !kB K)
  refine ⟨⟨⟨nilVS, ?_, fun p _ => nil_vp p⟩, Only.refl _ _, c2.1.noFT⟩, (o1.trans (.of_below hb)).trans c2.2⟩
  rw [Bool.false_or, List.take_zero] at *
  show RdSt _ k rb g D (mK K) nilVS (uS 255 q) (!kB K || false)
  rw [Bool.or_false]
  exact c2.1
 ·obtain ⟨⟨_, o, hn⟩, _⟩ := r
  have := hn j A hj
  exact hj.only o (fun e => by rcases e with e | e | e <;> omega)
 ·exact absurd rfl ((q1.1.below hb).noFT k A hA).1
 ·obtain ⟨⟨⟨v', s1, hn⟩, o, hf⟩, o0⟩ := r
  have hd := List.drop_eq_getElem_cons hi
  have hkk : (rps ((kp K).take i) (mK K) (uS 255 q)).1.kind = K := rps_kind _ _ _
  refine Calls.mono (pr_all K (kp K)[i] hkk s1 (hn _ (by rw [hd]; exact List.mem_cons_self))) fun e w2 h => ?_
  obtain ⟨h1, v2, s2, o2, hv2⟩ := h
  refine ⟨h1, ⟨⟨v2, ?_, fun p hp => ?_⟩, o.trans o2, hf⟩, o0.trans o2⟩
  ·rw [List.take_succ_eq_append_getElem hi, accB_snoc, rps_snoc, ← Bool.or_assoc]
   exact s2
  ·have hnd : ((kp K).drop i).Nodup := (kp_nodup K).sublist (List.drop_sublist _ _)
   rw [hd, List.nodup_cons] at hnd
   rw [hv2 p (fun e => hnd.1 (by rw [← e]; exact hp))]
   exact hn p (by rw [hd]; exact List.mem_cons_of_mem _ hp)
 ·obtain ⟨h1, wS, ⟨⟨v', s1, _⟩, _, _⟩, o1⟩ := hh
  rw [List.take_length] at s1
  have hb : badR (readM q).1 = (!kB K || accB (kp K) (mK K) (uS 255 q)) := by
   unfold badR
   rw [readM_kind, hk, accB_any _ (kp_indep K), hR]
  rw [hb, hR]
  exact ⟨h1, v', s1, o1⟩
end Go.Proofs.YtghbjknpffiaiaaGreat

namespace Go.Proofs.YtghbjknpffiaiaaGreat
open Go.RowKit Wire Ms
set_option linter.unusedVariables false
set_option linter.unusedSimpArgs false
theorem m19 {w : World} {g : Nat} {m : M} {v : VS} (h : Blk w g 34 (mcells m v)) :
  w.cell? ⟨g, 0, none⟩ = some (.int .u8 m.kind) ∧ w.cell? ⟨g, 1, none⟩ = some (.int .u64 m.job) ∧ w.cell? ⟨g, 2, none⟩ = some (.string m.tok) ∧ w.cell? ⟨g, 3, none⟩ = some (.string m.prog) ∧ w.cell? ⟨g, 4, none⟩ = some v.i ∧ w.cell? ⟨g, 5, none⟩ = some (.int .i64 m.fuel) ∧
  w.cell? ⟨g, 6, none⟩ = some (.string m.task.path) ∧ w.cell? ⟨g, 7, none⟩ = some (.int .i64 m.task.fn) ∧ w.cell? ⟨g, 8, none⟩ = some v.a ∧ w.cell? ⟨g, 9, none⟩ = some (.int .i64 m.task.fuel) ∧ w.cell? ⟨g, 10, none⟩ = some (.int .u64 m.epoch) ∧ w.cell? ⟨g, 11, none⟩ = some v.n ∧
  w.cell? ⟨g, 12, none⟩ = some v.h ∧ w.cell? ⟨g, 13, none⟩ = some v.m ∧ w.cell? ⟨g, 14, none⟩ = some v.c ∧ w.cell? ⟨g, 15, none⟩ = some (.int .u8 m.state) ∧ w.cell? ⟨g, 16, none⟩ = some (.int .i64 m.res.val) ∧ w.cell? ⟨g, 17, none⟩ = some (.int .i64 m.res.err) ∧ w.cell? ⟨g, 18, none⟩ = some (.int .i64 m.err) :=
 ⟨h.cell 0, h.cell 1, h.cell 2, h.cell 3, h.cell 4, h.cell 5, h.cell 6, h.cell 7, h.cell 8, h.cell 9, h.cell 10, h.cell 11, h.cell 12, h.cell 13, h.cell 14, h.cell 15, h.cell 16, h.cell 17, h.cell 18⟩
theorem mr_nil (w : World) (B : Nat) : MR w B m0 nilVS :=
 ⟨⟨none, 0, rfl, fun h => absurd h (Nat.lt_irrefl _)⟩, ⟨none, 0, rfl, fun h => absurd h (Nat.lt_irrefl _)⟩, ⟨none, 0, rfl, fun h => absurd h (Nat.lt_irrefl _)⟩, ⟨none, 0, rfl, fun h => absurd h (Nat.lt_irrefl _)⟩, ⟨none, 0, rfl, fun h => absurd h (Nat.lt_irrefl _)⟩, ⟨none, 0, rfl, fun h => absurd h (Nat.lt_irrefl _)⟩⟩
theorem mrd_nil (w : World) (D : Nat) (K : Int) : MRD w D (mK K) nilVS := ⟨RwD.nil, RwD.nil, RwD.nil, RwD.nil, RwD.nil, RwD.nil⟩
def DecP (W : World) (m : M) (c : Int) (e : Ending) (w' : World) : Prop := ∃ v, e = .returned (.tuple #[.agg (mcells m v), .int .i64 c]) ∧ MR w' w'.heap.size m v ∧ Below W.heap.size W w'
theorem dec_start {W w1 : World} {s : ByteArray} (hp : PR w1 (W.heap.size + 1) s 0) (hb : Below (W.alloc (.cells #[.int .u8 0, .int .u64 0, .string ⟨#[]⟩, .string ⟨#[]⟩, .slice none 0 0, .int .i64 0, .string ⟨#[]⟩, .int .i64 0, .slice none 0 0, .int .i64 0, .int .u64 0, .slice none 0 0, .slice none 0 0, .slice none 0 0, .slice none 0 0, .int .u8 0, .int .i64 0, .int .i64 0, .int .i64 0] 34)).heap.size (W.alloc (.cells #[.int .u8 0, .int .u64 0, .string ⟨#[]⟩, .string ⟨#[]⟩, .slice none 0 0, .int .i64 0, .string ⟨#[]⟩, .int .i64 0, .slice none 0 0, .int .i64 0, .int .u64 0, .slice none 0 0, .slice none 0 0, .slice none 0 0, .slice none 0 0, .int .u8 0, .int .i64 0, .int .i64 0, .int .i64 0] 34)) w1) :
  RdSt (w1.alloc (.cells #[.pointer (some ⟨W.heap.size + 1, 0, none⟩), .slice none 0 0, .bool false] 58)) w1.heap.size (W.heap.size + 1) W.heap.size (w1.heap.size + 1) m0 nilVS ⟨s, 0⟩ false ∧ Below W.heap.size W (w1.alloc (.cells #[.pointer (some ⟨W.heap.size + 1, 0, none⟩), .slice none 0 0, .bool false] 58)) := by
 have h1 : (W.alloc (.cells #[.int .u8 0, .int .u64 0, .string ⟨#[]⟩, .string ⟨#[]⟩, .slice none 0 0, .int .i64 0, .string ⟨#[]⟩, .int .i64 0, .slice none 0 0, .int .i64 0, .int .u64 0, .slice none 0 0, .slice none 0 0, .slice none 0 0, .slice none 0 0, .int .u8 0, .int .i64 0, .int .i64 0, .int .i64 0] 34)).heap.size = W.heap.size + 1 := by simp
 have h2 := hb.size
 have h3 : (w1.alloc (.cells #[.pointer (some ⟨W.heap.size + 1, 0, none⟩), .slice none 0 0, .bool false] 58)).heap.size = w1.heap.size + 1 := by simp
 have h4 := hp.blk.lt
 refine ⟨⟨⟨Blk.new w1 _ _, ⟨hp.blk.alloc _, hp.sz⟩⟩, ((Blk.new W 34 (mcells m0 nilVS)).below hb).alloc _, mrd_nil _ _ 0, by omega, by omega, by omega, by omega⟩, ?_⟩
 exact (((Below.refl _ W).alloc (Nat.le_refl _) _).trans (hb.mono (by omega))).alloc (by omega) _
section
variable {P : Program} {ops : Array Oper} {rest : List Oper} {o : Oper} {a : Act} {Q : Exit → Act → World → Prop}
theorem wpl_load_blk {w : World} {g : Nat} {T : TypeId} {c : Array Value} (hb : Blk w g T c) (hgd : o.guard = none) (ty : TypeId) (x : Operand) (ho : o.op = .load ty x) (hx : a.eval x = .pointer (some ⟨g, 0, none⟩)) {d : TypeDesc}
  (hu : P.underlying ty = some d) (hd : (match d with | .struct _ | .array _ _ => true | _ => false) = true) (hi : (P.info? ty).map (·.size) = some c.size)
  (h : wpList P ops Q rest (a.put o.dst (.agg c)) w) : wpList P ops Q (o :: rest) a w :=
 wpList_plain hgd fun K hK => by
  unfold Oper.wp execOp
  simp only [ho, hx, Instr.loadAt, Instr.sureAddr, Sem.run_bind, Sem.run_pure, Result.andThen_ok, run_loadVar_row w g T ty c (0, 0) d hb hu hd hi]
  exact hK _ _ h
theorem wpList_want (hw : Region.wanted o (yielded ops a.tmps) = true) {w : World} (h : ∀ K : Act → World → Prop, (∀ A W, wpList P ops Q rest A W → K A W) → o.wp P a w K Q) : wpList P ops Q (o :: rest) a w := by
 show if Region.wanted o (yielded ops a.tmps) then _ ∨ _ else _
 rw [if_pos hw]
 exact .inl (h _ fun A W h => h)
theorem wpl_load_blkg {w : World} {g : Nat} {T : TypeId} {c : Array Value} (hb : Blk w g T c) (hw : Region.wanted o (yielded ops a.tmps) = true) (ty : TypeId) (x : Operand) (ho : o.op = .load ty x) (hx : a.eval x = .pointer (some ⟨g, 0, none⟩)) {d : TypeDesc}
  (hu : P.underlying ty = some d) (hd : (match d with | .struct _ | .array _ _ => true | _ => false) = true) (hi : (P.info? ty).map (·.size) = some c.size)
  (h : wpList P ops Q rest (a.put o.dst (.agg c)) w) : wpList P ops Q (o :: rest) a w :=
 wpList_want hw fun K hK => by
  unfold Oper.wp execOp
  simp only [ho, hx, Instr.loadAt, Instr.sureAddr, Sem.run_bind, Sem.run_pure, Result.andThen_ok, run_loadVar_row w g T ty c (0, 0) d hb hu hd hi]
  exact hK _ _ h
theorem wpl_store_blk {w : World} {g : Nat} {T : TypeId} {c c' : Array Value} (hb : Blk w g T c) (hgd : o.guard = none) (ty : TypeId) (x y : Operand) (ho : o.op = .store ty x y) (hx : a.eval x = .pointer (some ⟨g, 0, none⟩)) (hy : a.eval y = .agg c')
  (hi : (P.info? ty).map (·.size) = some c'.size) (hs : c.size = c'.size) (h1 : c'.all (·.oneCell') = true)
  (h : ∀ w', Blk w' g T c' → Only (· = g) w w' → wpList P ops Q rest (a.put o.dst undef) w') : wpList P ops Q (o :: rest) a w :=
 wpList_plain hgd fun K hK => by
  unfold Oper.wp execOp
  simp only [ho, hx, hy, Instr.storeAt, Instr.sureAddr, Sem.run_bind, Sem.run_pure, Result.andThen_ok, run_storeVar_row w g T ty c c' hb hi hs h1]
  refine hK _ _ (h _ ?_ ?_)
  ·unfold Blk World.setRow
   dsimp only
   rw [Array.getElem?_modify, if_pos rfl, show w.heap[g]? = some (.cells c T (0, 0)) from hb]
   rfl
  ·refine ⟨rfl, rfl, rfl, by unfold World.setRow; simp, fun k hk hne => ?_⟩
   unfold World.setRow
   dsimp only
   rw [Array.getElem?_modify, if_neg (fun e => hne e.symm)]
end
theorem mc_one {m : M} {p1 p2 p3 p4 p5 p6 : Option Addr} {n1 n2 n3 n4 n5 n6 c1 c2 c3 c4 c5 c6 : Nat} : (mcells m ⟨.slice p1 n1 c1, .slice p2 n2 c2, .slice p3 n3 c3, .slice p4 n4 c4, .slice p5 n5 c5, .slice p6 n6 c6⟩).all (·.oneCell') = true := by
 unfold mcells; simp [Value.oneCell']
theorem dec_mid {w3 w4 : World} {k rb g D : Nat} {m : M} {v : VS} {q : RS} {bad : Bool} (st : RdSt w3 k rb g D m v q bad) (ho : Only (· = rb) w3 w4) : w4.cell? ⟨k, 2, none⟩ = some (.bool bad) ∧ Blk w4 g 34 (mcells m v) ∧ MRD w4 D m v := by
 have hne : k ≠ rb := fun e => by have h1 := st.kr.1; rw [e] at h1; exact absurd (blk_ne h1 st.kr.2.blk) (by decide)
 exact ⟨Only.cellq ho st.kr.c2 hne, st.blk.only ho st.gr, st.rows.keep (fun b o x hb hx => Only.cellq ho hx fun e => by have := st.lt; have e' : b = rb := e; omega) ho.size⟩
theorem dec_end {W w2 w3 w4 w5 : World} {k rb g D : Nat} {m : M} {v : VS} (h0 : Below W.heap.size W w2) (h3 : OnRd k rb g w2 w3) (h4 : Only (· = rb) w3 w4) (h5 : Only (· = g) w4 w5) (hk : W.heap.size ≤ k ∧ W.heap.size ≤ rb ∧ W.heap.size ≤ g) (hr : MRD w4 D m v) (hg : g < D) : MR w5 w5.heap.size m v ∧ Below W.heap.size W w5 := by
 refine ⟨MRD.mr (hr.keep (fun b o x hb hx => Only.cellq h5 hx fun e => by have e' : b = g := e; omega) h5.size), ?_⟩
 have b3 := Only.below h3 h0.size fun j e => by rcases e with e | e | e <;> omega
 have b4 := Only.below h4 (Nat.le_trans h0.size h3.size) fun j e => by have e' : j = rb := e; omega
 have b5 := Only.below h5 (Nat.le_trans (Nat.le_trans h0.size h3.size) h4.size) fun j e => by have e' : j = g := e; omega
 exact ((h0.trans b3).trans b4).trans b5
theorem dec_fin {W w2 w3 w4 w5 : World} {k rb g D : Nat} {m : M} {v : VS} {c : Int} (h0 : Below W.heap.size W w2) (h3 : OnRd k rb g w2 w3) (h4 : Only (· = rb) w3 w4) (h5 : Only (· = g) w4 w5) (hk : W.heap.size ≤ k ∧ W.heap.size ≤ rb ∧ W.heap.size ≤ g) (hr : MRD w4 D m v) (hg : g < D) : DecP W m c (.returned (.tuple #[.agg (mcells m v), .int .i64 c])) w5 :=
 have HF := dec_end h0 h3 h4 h5 hk hr hg
 ⟨v, rfl, HF.1, HF.2⟩
theorem dec_none {W w2 w3 w4 w5 : World} {k rb g D : Nat} {m : M} {v : VS} {c : Int} (h0 : Below W.heap.size W w2) (h3 : OnRd k rb g w2 w3) (h4 : Only (· = rb) w3 w4) (h5 : Only (· = g) w4 w5) (hk : W.heap.size ≤ k ∧ W.heap.size ≤ rb ∧ W.heap.size ≤ g) (hr : MRD w4 D m v) (hg : g < D) : DecP W m0 c (.returned (.tuple #[.agg (mcells m0 nilVS), .int .i64 c])) w5 :=
 have HF := dec_end h0 h3 h4 h5 hk hr hg
 ⟨nilVS, rfl, mr_nil _ _, HF.2⟩
theorem MRD.vs {w : World} {D : Nat} {m : M} {v : VS} (h : MRD w D m v) : ∃ p1 c1 p2 c2 p3 c3 p4 c4 p5 c5 p6 c6, v = ⟨.slice p1 m.input.length c1, .slice p2 m.task.args.length c2, .slice p3 m.ents.length c3, .slice p4 m.epochs.length c4, .slice p5 m.names.length c5, .slice p6 m.codes.length c6⟩ := by
 obtain ⟨p1, c1, e1⟩ := h.ri.slice
 obtain ⟨p2, c2, e2⟩ := h.ra.slice
 obtain ⟨p3, c3, e3⟩ := h.rn.slice
 obtain ⟨p4, c4, e4⟩ := h.rh.slice
 obtain ⟨p5, c5, e5⟩ := h.rm.slice
 obtain ⟨p6, c6, e6⟩ := h.rc.slice
 refine ⟨p1, c1, p2, c2, p3, c3, p4, c4, p5, c5, p6, c6, ?_⟩
 obtain ⟨vi, va, vn, vh, vm, vc⟩ := v
 dsimp only at *
 subst e1 e2 e3 e4 e5 e6
 rfl
set_option maxRecDepth 100000 in
set_option maxHeartbeats 8000000 in
theorem dec_any (s : ByteArray) (hs : s.size ≤ maxLen) (W : World) : Calls Tryz.prog 14 #[.string s] W (DecP W (decS s).1 (decS s).2) := by
 have HS := Lib.hid hs
 have hd : decS s = if rdOk s then ((readM ⟨s, 0⟩).1, 0) else (m0, 8) := rfl
 have hr : rdOk s = ((endE (readM ⟨s, 0⟩).2.s (readM ⟨s, 0⟩).2.e == 0) && (!badR (readM ⟨s, 0⟩).1 && decide (s.size ≤ 8192))) := rfl
 rw [hr] at hd
 rw [hd]
 have HM := Lib.hid (fun w k rb g D (st : RdSt w k rb g D m0 nilVS ⟨s, 0⟩ false) => msgr_any st)
 clear hd hr hs
 generalize readM ⟨s, 0⟩ = mq at *
 obtain ⟨mm, q⟩ := mq
 dsimp only at *
 generalize hbad : badR mm = bad at *
 generalize hE : endE q.s q.e = E at *
 have HE := Lib.hid hE
 clear hbad hE
 cases hok : ((E == 0) && (!bad && decide (s.size ≤ 8192))) with
 | true =>
  rw [if_pos rfl]
  simp only [Bool.and_eq_true, Bool.not_eq_true', decide_eq_true_eq] at hok
  obtain ⟨h1, rfl, h3⟩ := hok
  have h1' : (E != 0) = false := by simpa using h1
  have h3' : ¬ (8192 : Int) < (s.size : Int) := by omega
  clear h1 h3
  go_enter Tryz.func14, Tryz.ntmps14
  go_upto_region 2 with (go_at_call 36; go_loud ((with_reducible refine (wnew_any s HS.out _).mono ?_); rintro e w1 ⟨rfl, hp, hb⟩; have HST := Lib.hid (dec_start (by simpa using hp) hb); clear hp hb))
  obtain ⟨hst, hb0⟩ := HST.out
  have HB0 := Lib.hid hb0
  have HM2 := Lib.hid (HM.out _ _ _ _ _ hst)
  have HKG : Hid (W.heap.size ≤ w1.heap.size ∧ W.heap.size ≤ W.heap.size + 1 ∧ W.heap.size ≤ W.heap.size) := Lib.hid (by have := hst.kr.lt; have := hst.lt; have h3 : (w1.alloc (.cells #[.pointer (some ⟨W.heap.size + 1, 0, none⟩), .slice none 0 0, .bool false] 58)).heap.size = w1.heap.size + 1 := (by simp); have := hb0.size; omega)
  clear hst hb0 HST HM
  generalize (w1.alloc (.cells #[.pointer (some ⟨W.heap.size + 1, 0, none⟩), .slice none 0 0, .bool false] 58)) = w2 at *
  generalize w1.heap.size = k at *
  go_upto_region 3 with (go_at_call 17; go_loud ((with_reducible refine HM2.out.mono ?_); rintro e w3 ⟨rfl, v', hst, ho⟩; have HST := Lib.hid hst; have HO := Lib.hid ho; clear hst ho))
  obtain ⟨p1, g1, p2, g2, p3, g3, p4, g4, p5, g5, p6, g6, rfl⟩ := HST.out.rows.vs
  have HEN := Lib.hid (pend_any HST.out.kr.2)
  rw [HE.out] at HEN
  have c0 := HST.out.kr.c0
  have HC2 := Lib.hid (fun w4 (ho : Only (· = W.heap.size + 1) w3 w4) => dec_mid HST.out ho)
  clear HST HM2
  go_upto_region 5 with (go_at_call 37; go_loud ((with_reducible refine HEN.out.mono ?_); rintro e w4 ⟨rfl, hp4, ho4⟩; obtain ⟨c4, hb4, hr4⟩ := HC2.out _ ho4; have HBK := Lib.hid hb4; have HRW := Lib.hid hr4; have HO4 := Lib.hid ho4; clear hp4 ho4 hb4 hr4))
  clear c0 c4 HC2 HEN h1' h3'
  go_wp2_with (first
   | (refine wpl_load_blk HBK.out rfl _ _ rfl rfl Tryz.underlying34 rfl (by kernel_rfl) ?_)
   | (refine wpl_store_blk HBK.out rfl _ _ _ rfl rfl rfl (by kernel_rfl) rfl mc_one ?_; intro w5 hb5 ho5; have HBF := Lib.hid hb5; have HOF := Lib.hid ho5; clear hb5 ho5))
  refine ret_pair (T := 34) rfl rfl rfl HBF.out Tryz.underlying34 rfl (by kernel_rfl) rfl ?_
  exact dec_fin HB0.out HO.out HO4.out HOF.out HKG.out HRW.out (by have := HKG.out; omega)
 | false =>
  rw [if_neg (by decide)]
  go_enter Tryz.func14, Tryz.ntmps14
  go_upto_region 2 with (go_at_call 36; go_loud ((with_reducible refine (wnew_any s HS.out _).mono ?_); rintro e w1 ⟨rfl, hp, hb⟩; have HST := Lib.hid (dec_start (by simpa using hp) hb); clear hp hb))
  obtain ⟨hst, hb0⟩ := HST.out
  have HB0 := Lib.hid hb0
  have HM2 := Lib.hid (HM.out _ _ _ _ _ hst)
  have HKG : Hid (W.heap.size ≤ w1.heap.size ∧ W.heap.size ≤ W.heap.size + 1 ∧ W.heap.size ≤ W.heap.size) := Lib.hid (by have := hst.kr.lt; have := hst.lt; have h3 : (w1.alloc (.cells #[.pointer (some ⟨W.heap.size + 1, 0, none⟩), .slice none 0 0, .bool false] 58)).heap.size = w1.heap.size + 1 := (by simp); have := hb0.size; omega)
  clear hst hb0 HST HM
  generalize (w1.alloc (.cells #[.pointer (some ⟨W.heap.size + 1, 0, none⟩), .slice none 0 0, .bool false] 58)) = w2 at *
  generalize w1.heap.size = k at *
  go_upto_region 3 with (go_at_call 17; go_loud ((with_reducible refine HM2.out.mono ?_); rintro e w3 ⟨rfl, v', hst, ho⟩; have HST := Lib.hid hst; have HO := Lib.hid ho; clear hst ho))
  obtain ⟨p1, g1, p2, g2, p3, g3, p4, g4, p5, g5, p6, g6, rfl⟩ := HST.out.rows.vs
  have HEN := Lib.hid (pend_any HST.out.kr.2)
  rw [HE.out] at HEN
  have c0 := HST.out.kr.c0
  have HC2 := Lib.hid (fun w4 (ho : Only (· = W.heap.size + 1) w3 w4) => dec_mid HST.out ho)
  clear HM2 HST
  go_upto_region 3 with fail
  go_cut [2, 27] (fun a b wc => a = .pointer (some ⟨W.heap.size, 0, none⟩) ∧ b = .bool true ∧ Only (· = W.heap.size + 1) w3 wc)
  case first =>
   by_cases h1 : E = 0
   ·have h1' : (E != 0) = false := by simpa using h1
    have h1q : (E == 0) = true := by simpa using h1
    cases bad with
    | true =>
     clear hok h1 h1q
     go_wp2_with (go_at_call 37; go_loud ((with_reducible refine HEN.out.mono ?_); rintro e w4 ⟨rfl, hp4, ho4⟩; obtain ⟨c4, hb4, hr4⟩ := HC2.out _ ho4; clear hb4 hr4))
     go_meet
     exact ⟨rfl, rfl, ho4⟩
    | false =>
     have h3' : (8192 : Int) < (s.size : Int) := by
      rw [h1q] at hok
      simp at hok
      omega
     clear hok h1 h1q
     go_wp2_with (go_at_call 37; go_loud ((with_reducible refine HEN.out.mono ?_); rintro e w4 ⟨rfl, hp4, ho4⟩; obtain ⟨c4, hb4, hr4⟩ := HC2.out _ ho4; clear hb4 hr4))
     go_meet
     exact ⟨rfl, rfl, ho4⟩
   ·have h1' : (E != 0) = true := by simpa using h1
    clear hok h1
    go_wp2_with (go_at_call 37; go_loud ((with_reducible refine HEN.out.mono ?_); rintro e w4 ⟨rfl, hp4, ho4⟩; obtain ⟨c4, hb4, hr4⟩ := HC2.out _ ho4; clear hb4 hr4))
    go_meet
    exact ⟨rfl, rfl, ho4⟩
  case rest =>
   obtain ⟨rfl, rfl, ho4⟩ := hcut
   obtain ⟨c4, hb4, hr4⟩ := HC2.out _ ho4
   have HBK := Lib.hid hb4
   have HRW := Lib.hid hr4
   have HO4 := Lib.hid ho4
   clear c0 c4 HC2 HEN hb4 hr4 ho4 hok HE
   go_wp2_with (refine wpl_store_blk (c' := mcells m0 nilVS) HBK.out rfl _ _ _ rfl rfl rfl (by kernel_rfl) rfl mc_one ?_; intro w5 hb5 ho5; have HBF := Lib.hid hb5; have HOF := Lib.hid ho5; clear hb5 ho5)
   try simp only [Exit.inBlock, Exit.then]
   refine ret_pair (cs := mcells m0 nilVS) (T := 34) rfl rfl rfl HBF.out Tryz.underlying34 rfl (by kernel_rfl) rfl ?_
   exact dec_none HB0.out HO.out HO4.out HOF.out HKG.out HRW.out (by have := HKG.out; omega)
end Go.Proofs.YtghbjknpffiaiaaGreat

namespace Go.Proofs.YtghbjknpffiaiaaGreat
open Go.RowKit Wire Ms
set_option linter.unusedVariables false
set_option linter.unusedSimpArgs false
def RQ (w : World) (b : Nat) (q : RS) : Prop := RR w b q.s q.e
theorem rU_any {b : Nat} {q : RS} {w : World} (h : RQ w b q) (most : Int) : Calls Tryz.prog 38 #[.pointer (some ⟨b, 0, none⟩), .int .u64 most] w (fun e w' => e = .returned (.int .u64 (uV most q)) ∧ RQ w' b (uS most q) ∧ Only (· = b) w w') := ruintm_any h most
theorem rI_any {b : Nat} {q : RS} {w : World} (h : RQ w b q) : Calls Tryz.prog 58 #[.pointer (some ⟨b, 0, none⟩), .int .i64 (-9223372036854775808), .int .i64 9223372036854775807] w (fun e w' => e = .returned (.int .i64 (iV q)) ∧ RQ w' b (iS q) ∧ Only (· = b) w w') := rintm_any h _ _
theorem rT_any {b : Nat} {q : RS} {w : World} (h : RQ w b q) (most : Int) (hm : I64 most) : Calls Tryz.prog 39 #[.pointer (some ⟨b, 0, none⟩), .int .i64 most] w (fun e w' => e = .returned (.string (tV most q)) ∧ RQ w' b (tS most q) ∧ Only (· = b) w w') := rtext_any h most hm
theorem rC_any {b : Nat} {q : RS} {w : World} (h : RQ w b q) (most : Int) (hm : I64 most) : Calls Tryz.prog 57 #[.pointer (some ⟨b, 0, none⟩), .int .i64 most] w (fun e w' => e = .returned (.int .i64 (cV most q)) ∧ RQ w' b (cS most q) ∧ Only (· = b) w w') := rcount_any h most hm
def RdV (w : World) (b : Nat) (v : Value) (q : RS) (e : Ending) (w' : World) : Prop := e = .returned v ∧ RQ w' b q ∧ Only (· = b) w w'
theorem rd_fin {b : Nat} {w w2 w5 : World} (h : Only (· = b) w w2) (h5 : Only (· = w.heap.size) w2 w5) : Only (· = b) w w5 :=
 h.stepB (Only.below (B := w.heap.size) h5 h.size fun k e => by have e' : k = w.heap.size := e; omega) (Nat.le_refl _)
set_option maxRecDepth 100000 in
set_option maxHeartbeats 2000000 in
theorem rdres_any {b : Nat} {q : RS} {w : World} (h : RQ w b q) : Calls Tryz.prog 42 #[.pointer (some ⟨b, 0, none⟩)] w (RdV w b (.agg #[.int .i64 (rRs q).1.val, .int .i64 (rRs q).1.err]) (rRs q).2) := by
 unfold rRs
 dsimp only
 have hlt : b < w.heap.size := h.blk.lt
 have HR := Lib.hid (h.alloc (.cells #[.int .i64 0, .int .i64 0] 32))
 have HT := Lib.hid (Blk.new w 32 #[.int .i64 0, .int .i64 0])
 have HO := Lib.hid ((Only.refl (· = b) w).alloc (.cells #[.int .i64 0, .int .i64 0] 32))
 have HI := Lib.hid (rI_any (q := q) HR.out)
 have HU := Lib.hid (fun w' (h : RQ w' b (iS q)) => rU_any h 9999)
 have HLT := Lib.hid hlt
 have hwr : IntKind.i64.wrap (uV 9999 (iS q)) = uV 9999 (iS q) := by have := uV_rg (m := 9999) (by decide) (iS q); rw [IntKind.wrap_i64]; omega
 clear h hlt
 generalize iV q = x at *
 generalize iS q = q1 at *
 generalize uV 9999 q1 = y at *
 generalize uS 9999 q1 = q2 at *
 go_enter Tryz.func42, Tryz.ntmps42
 go_upto_region 2 with (go_at_call 58; go_loud ((with_reducible refine HI.out.mono ?_); rintro e w1 ⟨rfl, hp, ho⟩; have HR1 := Lib.hid hp; have HT1 := Lib.hid (HT.out.only ho (by have := HLT.out; omega)); have HO1 := Lib.hid (HO.out.trans ho); clear hp ho))
 go_upto_region 3 with (go_at_call 38; go_loud ((with_reducible refine (HU.out _ HR1.out).mono ?_); rintro e w2 ⟨rfl, hp, ho⟩; have HR2 := Lib.hid hp; have HT2 := Lib.hid (HT1.out.only ho (by have := HLT.out; omega)); have HO2 := Lib.hid (HO1.out.trans ho); clear hp ho))
 go_wp2_with (refine wpl_store_blk HT2.out rfl _ _ _ rfl rfl rfl (by kernel_rfl) rfl (by simp [Value.oneCell']) ?_; go_loud (intro w5 hb5 ho5; have HBF := Lib.hid hb5; have HOF := Lib.hid ho5; clear hb5 ho5))
 exact ret_cell (T := 32) rfl rfl HBF.out Tryz.underlying32 rfl (by kernel_rfl) rfl ⟨rfl, RR.only HR2.out HOF.out (by have := HLT.out; omega), rd_fin HO2.out HOF.out⟩
set_option maxRecDepth 100000 in
set_option maxHeartbeats 2000000 in
theorem rdname_any {b : Nat} {q : RS} {w : World} (h : RQ w b q) : Calls Tryz.prog 59 #[.pointer (some ⟨b, 0, none⟩)] w (RdV w b (.agg #[.int .u64 (rNm q).1.job, .string (rNm q).1.path]) (rNm q).2) := by
 unfold rNm
 dsimp only
 have hlt : b < w.heap.size := h.blk.lt
 have HR := Lib.hid (h.alloc (.cells #[.int .u64 0, .string ⟨#[]⟩] 52))
 have HT := Lib.hid (Blk.new w 52 #[.int .u64 0, .string ⟨#[]⟩])
 have HO := Lib.hid ((Only.refl (· = b) w).alloc (.cells #[.int .u64 0, .string ⟨#[]⟩] 52))
 have HI := Lib.hid (rU_any (q := q) HR.out 18446744073709551615)
 have HU := Lib.hid (fun w' (h : RQ w' b (uS 18446744073709551615 q)) => rT_any h 12 (by unfold I64; decide))
 have HLT := Lib.hid hlt
 clear h hlt
 generalize uV 18446744073709551615 q = x at *
 generalize uS 18446744073709551615 q = q1 at *
 generalize tV 12 q1 = y at *
 generalize tS 12 q1 = q2 at *
 go_enter Tryz.func59, Tryz.ntmps59
 go_upto_region 2 with (go_at_call 38; go_loud ((with_reducible refine HI.out.mono ?_); rintro e w1 ⟨rfl, hp, ho⟩; have HR1 := Lib.hid hp; have HT1 := Lib.hid (HT.out.only ho (by have := HLT.out; omega)); have HO1 := Lib.hid (HO.out.trans ho); clear hp ho))
 go_upto_region 3 with (go_at_call 39; go_loud ((with_reducible refine (HU.out _ HR1.out).mono ?_); rintro e w2 ⟨rfl, hp, ho⟩; have HR2 := Lib.hid hp; have HT2 := Lib.hid (HT1.out.only ho (by have := HLT.out; omega)); have HO2 := Lib.hid (HO1.out.trans ho); clear hp ho))
 go_wp2_with (refine wpl_store_blk HT2.out rfl _ _ _ rfl rfl rfl (by kernel_rfl) rfl (by simp [Value.oneCell']) ?_; go_loud (intro w5 hb5 ho5; have HBF := Lib.hid hb5; have HOF := Lib.hid ho5; clear hb5 ho5))
 exact ret_cell (T := 52) rfl rfl HBF.out Tryz.underlying52 rfl (by kernel_rfl) rfl ⟨rfl, RR.only HR2.out HOF.out (by have := HLT.out; omega), rd_fin HO2.out HOF.out⟩
theorem r_stop {α : Type} {R : RS → α × RS} {q : RS} {m : Nat} (h : q.e ≠ 0) : rdL R m q = ([], q) := by
 cases m with
 | zero => rfl
 | succ m => unfold rdL; rw [if_pos h]
theorem r_step {α : Type} {R : RS → α × RS} {q : RS} {m : Nat} (h : q.e = 0) : rdL R (m + 1) q = ((R q).1 :: (rdL R m (R q).2).1, (rdL R m (R q).2).2) := by
 rw [rdL, if_neg (fun e => e h)]
structure RdI (w : World) (b : Nat) (n : Nat) (q1 : RS) (ys : List Int) (qi : RS) (v : Value) (wr : World) : Prop where
 rd : RQ wr b qi
 row : wr.ownsRow w.heap.size 2 1 v ys.length (ys.map fun x => .int .i64 x)
 on : Only (· = b) w wr
 eq : rdL rI n q1 = (ys ++ (rdL rI (n - ys.length) qi).1, (rdL rI (n - ys.length) qi).2)
 le : ys.length ≤ n
theorem rd_row {w wr w2 : World} {b n : Nat} {q1 qi : RS} {ys : List Int} {v : Value} (h : RdI w b n q1 ys qi v wr) (ho : Only (· = b) wr w2) (hb : b < w.heap.size) : w2.ownsRow w.heap.size 2 1 v ys.length (ys.map fun x => .int .i64 x) :=
 owns_only h.row ho (fun g hg e => by have h1 := (owns_type h.row hg).choose_spec.2.1; have e' : g = b := e; omega)
theorem RdI.next {w wr w2 w3 : World} {b n : Nat} {q1 qi : RS} {ys : List Int} {v v3 : Value} (h : RdI w b n q1 ys qi v wr) (hn : ys.length < n) (he : qi.e = 0) (hp : RQ w2 b (iS qi)) (ho : Only (· = b) wr w2) (hb : b < w.heap.size)
  (hr : w3.ownsRow w.heap.size 2 1 v3 (ys.length + 1) ((ys.map fun x => .int .i64 x) ++ [.int .i64 (iV qi)])) (h3 : Below w.heap.size w2 w3) : RdI w b n q1 (ys ++ [iV qi]) (iS qi) v3 w3 := by
 refine ⟨⟨hp.blk.belowB h3 hb, hp.sz⟩, by simpa using hr, (h.on.trans ho).stepB h3 (Nat.le_refl _), ?_, by simp; omega⟩
 rw [h.eq, show n - ys.length = (n - (ys.length + 1)) + 1 from by omega, r_step he]
 have e : n - (ys ++ [iV qi]).length = n - (ys.length + 1) := by simp
 rw [e]
 show (ys ++ (iV qi :: _), _) = _
 simp [rI]
theorem cV_nat (most : Int) (hm : I64 most) (hm2 : 0 ≤ most ∧ most ≤ 1000000) (q : RS) : ∃ n : Nat, cV most q = n ∧ n ≤ 1000000 := by
 have hr := cnt_range (s := q.s) (e := q.e) hm
 refine ⟨(cV most q).toNat, by unfold cV; omega, ?_⟩
 by_cases h0 : cV most q = 0
 ·omega
 ·have h1 := (cnt_ok (s := q.s) (e := q.e) (most := most) (.inl h0))
  have h2 : cV most q = xI q.s := h1.1
  have h3 := h1.2.2.2.1
  omega
theorem info_i64w : Info Tryz.prog 2 (.int .i64 0) 1 8 := by unfold Info; kernel_rfl
def RiP (w : World) (b : Nat) (q : RS) (e : Ending) (w' : World) : Prop := ∃ v, e = .returned v ∧ RQ w' b (rL 16 rI q).2 ∧ w'.ownsRow w.heap.size 2 1 v (rL 16 rI q).1.length ((rL 16 rI q).1.map fun x => .int .i64 x) ∧ Only (· = b) w w'
set_option maxRecDepth 100000 in
set_option maxHeartbeats 4000000 in
theorem rdints_any {b : Nat} {q : RS} {w : World} (h : RQ w b q) : Calls Tryz.prog 40 #[.pointer (some ⟨b, 0, none⟩)] w (RiP w b q) := by
 have hlt : b < w.heap.size := h.blk.lt
 obtain ⟨n, hn, hn2⟩ := cV_nat 16 (by unfold I64; decide) (by decide) q
 have HC := Lib.hid (rC_any h 16 (by unfold I64; decide))
 rw [hn] at HC
 have HRL : Hid (rL 16 rI q = rdL rI n (cS 16 q)) := Lib.hid (by unfold rL; rw [hn]; rfl)
 have HN2 := Lib.hid hn2
 have HLT := Lib.hid hlt
 unfold RiP
 rw [HRL.out]
 clear h hlt hn hn2 HRL
 generalize cS 16 q = q1 at *
 go_enter Tryz.func40, Tryz.ntmps40
 go_wp2_with (go_at_call 57; go_loud ((with_reducible refine HC.out.mono ?_); rintro e w1 ⟨rfl, hp, ho⟩; have HR1 := Lib.hid hp; have HO1 := Lib.hid ho; clear hp ho))
 go_loopw [4, 5] (fun v u wr => ∃ ys qi, u = .int .i64 (ys.length : Nat) ∧ RdI w b n q1 ys qi v wr) (fun v u _ => ((n : Int) - intOf u).toNat)
 case atStart => exact ⟨[], q1, rfl, ⟨HR1.out, ⟨rfl, .inl ⟨rfl, rfl⟩⟩, HO1.out, by simp, Nat.zero_le _⟩⟩
 case round =>
  obtain ⟨ys, qi, rfl, hR⟩ := hrel
  have HRI := Lib.hid hR
  have c1 : wr.cell? ⟨b, 1, none⟩ = some (.int .i64 qi.e) := hR.rd.c1
  obtain ⟨pv, cv, hv⟩ := owns_slice hR.row
  subst hv
  clear hR
  by_cases hi : ys.length < n
  ·have hi' : (ys.length : Int) < (n : Int) := by omega
   by_cases he : qi.e = 0
   ·have he' : (qi.e == 0) = true := by simpa using he
    have HIN := Lib.hid hi
    have HE0 := Lib.hid he
    have HI := Lib.hid (rI_any HRI.out.rd)
    have HE : Hid (wrap64 ((ys.length : Int) + 1) = ((ys.length + 1 : Nat) : Int)) := Lib.hid (wr64 rfl (by have := HN2.out; omega))
    clear he hi
    generalize hqe : qi.e = qe at *
    have HQE := Lib.hid hqe
    clear hqe
    go_upto_region 6 with fail
    clear c1 he' hi'
    generalize hyl : ys.length = yl at *
    have HYL := Lib.hid hyl
    clear hyl
    go_wp2_with (first
     | (go_at_call 58; go_loud ((with_reducible refine HI.out.mono ?_); rintro e w2 ⟨rfl, hp, ho⟩; have HR2 := Lib.hid hp; have HO2 := Lib.hid ho; have HROW := Lib.hid (rd_row HRI.out HO2.out HLT.out); clear hp ho))
     | (at_builtin; go_loud (refine wpl_append_one rfl rfl rfl rfl Tryz.underlying23 info_i64w rfl rfl (HYL.out ▸ HROW.out) (by have := HN2.out; have := HIN.out; omega) (by decide) (by have := HRI.out.on.size; have := HO2.out.size; omega) ?_; intro v3 w3 hr3 hb3; have HNX := Lib.hid (HRI.out.next (by have := HYL.out; have := HIN.out; omega) (HQE.out.trans (by have := HE0.out; omega)) HR2.out HO2.out HLT.out (by rw [HYL.out]; exact hr3) hb3); clear hr3 hb3)))
    refine ⟨⟨ys ++ [iV qi], iS qi, by rw [HE.out, List.length_append, HYL.out]; rfl, HNX.out⟩, ?_⟩
    rw [HE.out]
    have h1 := HYL.out
    have h2 := HIN.out
    simp [intOf]
    omega
   ·have he' : (qi.e == 0) = false := by simpa using he
    have HF : Hid (rdL rI n q1 = (ys, qi)) := Lib.hid (by rw [HRI.out.eq, r_stop he]; simp)
    clear he hi
    generalize hqe : qi.e = qe at *
    clear hqe
    go_wp2_with fail
    go_ret
    rw [HF.out]
    exact ⟨_, rfl, HRI.out.rd, HRI.out.row, HRI.out.on⟩
  ·have hi' : ¬ (ys.length : Int) < (n : Int) := by omega
   have HF : Hid (rdL rI n q1 = (ys, qi)) := Lib.hid (by rw [HRI.out.eq, show n - ys.length = 0 by have := HRI.out.le; omega]; simp [rdL])
   clear hi
   generalize hqe : qi.e = qe at *
   clear hqe
   go_wp2_with fail
   go_ret
   rw [HF.out]
   exact ⟨_, rfl, HRI.out.rd, HRI.out.row, HRI.out.on⟩
end Go.Proofs.YtghbjknpffiaiaaGreat

namespace Go.Proofs.YtghbjknpffiaiaaGreat
open Go.RowKit Wire Ms
set_option linter.unusedVariables false
set_option linter.unusedSimpArgs false
theorem eq_take_succ {α : Type} {a b : List α} {i : Nat} (ha : i < a.length) (hb : i < b.length) (h : a.take i = b.take i) (e : a[i] = b[i]) : a.take (i + 1) = b.take (i + 1) := by
 rw [List.take_succ_eq_append_getElem ha, List.take_succ_eq_append_getElem hb, h, e]
theorem eq_ne_at {α : Type} {a b : List α} {i : Nat} (ha : i < a.length) (hb : i < b.length) (e : ¬ a[i] = b[i]) : ¬ a = b := fun h => by subst h; exact e rfl
theorem eq_of_tk {α : Type} {a b : List α} (hl : a.length = b.length) (h : a.take a.length = b.take a.length) : a = b := by
 rw [List.take_length, hl, List.take_length] at h; exact h
def EqRl {α : Type} (a b : List α) (w : World) (u : Value) (wr : World) : Prop := ∃ i : Nat, i ≤ a.length ∧ u = .int .i64 i ∧ a.take i = b.take i ∧ Below w.heap.size w wr
def EqP (b : Bool) (w : World) (e : Ending) (w' : World) : Prop := e = .returned (.bool b) ∧ Below w.heap.size w w'
theorem drewN_bl (w : World) (n : Nat) : Below w.heap.size w (w.drewN n) := ⟨rfl, rfl, rfl, Nat.le_refl _, fun _ _ => rfl⟩
theorem Rw.ptr {α : Type} {sz : Nat} {LAY : α → List Value} {w : World} {B : Nat} {p : Option Addr} {c n : Nat} {l : List α} (h : Rw sz LAY w B (.slice p n c) l) {i : Nat} (hi : i < l.length) :
  ∃ b off, p = some ⟨b, off, none⟩ ∧ b < B ∧ ∀ j x, (LAY l[i])[j]? = some x → w.cell? ⟨b, off + i * sz + j, none⟩ = some x := by
 obtain ⟨p', c', h1, h2⟩ := h
 injection h1 with h1 _ _
 subst h1
 obtain ⟨b, off, h3, h4, h5⟩ := h2 (by omega)
 exact ⟨b, off, h3, h4, fun j x hx => h5 i hi j x hx⟩
set_option maxRecDepth 100000 in
set_option maxHeartbeats 4000000 in
theorem eq_int {l m : List Int} {w : World} {B : Nat} {v u : Value} (hv : Rw 1 lI w B v l) (hu : Rw 1 lI w B u m) (hB : B ≤ w.heap.size) (hn : l.length ≤ 140737488355328) :
  Calls Tryz.prog 24 #[v, u] w (EqP (decide (l = m)) w) := by
 have hvv := hv
 have huu := hu
 obtain ⟨p1, c1, rfl, _⟩ := hvv
 obtain ⟨p2, c2, rfl, _⟩ := huu
 have HS1 := Lib.hid hv
 have HS2 := Lib.hid hu
 have HBB := Lib.hid hB
 clear hv hu hB
 by_cases hlen : l.length = m.length
 ·have hlen' : ((l.length : Int) == (m.length : Int)) = true := by simp [hlen]
  have HLEN := Lib.hid hlen
  clear hlen
  go_enter Tryz.func24, Tryz.ntmps24
  go_wp2
  clear hlen'
  go_loopw [13] (fun u wr => EqRl l m w u wr) (fun u _ => ((l.length : Int) - intOf u).toNat)
  case atStart => exact ⟨0, by omega, rfl, rfl, Below.refl _ _⟩
  case round =>
   obtain ⟨k, hk1, rfl, htk, hb⟩ := hrel
   by_cases hk : k < l.length
   ·have hk2 : k < m.length := by have := HLEN.out; omega
    obtain ⟨g1, o1, rfl, hg1, hx⟩ := HS1.out.ptr hk
    obtain ⟨g2, o2, rfl, hg2, hy⟩ := HS2.out.ptr hk2
    have hBB := HBB.out
    have x0 := Below.cellq hb (by omega) (hx 0 _ rfl)
    have y0 := Below.cellq hb (by omega) (hy 0 _ rfl)
    have hne := fun e => eq_ne_at (a := l) (b := m) hk hk2 e
    have heq := fun e => eq_take_succ (a := l) (b := m) hk hk2 htk e
    have hki : (k : Int) < (m.length : Int) := by omega
    have HE : Hid (wrap64 ((k : Int) + 1) = ((k + 1 : Nat) : Int)) := Lib.hid (wr64 rfl (by omega))
    have HB := Lib.hid hb
    clear hx hy hb htk hBB
    generalize l[k] = oa at *
    generalize m[k] = ob at *
    obtain ⟨a0, ha0⟩ : ∃ a0, a0 = oa := ⟨_, rfl⟩
    subst ha0
    obtain ⟨b0, hb0⟩ : ∃ b0, b0 = ob := ⟨_, rfl⟩
    subst hb0
    simp only [Nat.mul_one, Nat.add_zero] at x0 y0
    have HNE := Lib.hid hne
    have HEQ := Lib.hid heq
    clear hne heq
    by_cases e0 : a0 = b0
    ·subst e0
     have hn := Lib.hid (HEQ.out rfl)
     clear HEQ HNE
     go_wp2
     go_quiet (fail)
     go_wp2
     go_roundw
     case rel => (try rw [HE.out]); exact ⟨k + 1, by omega, rfl, hn.out, HB.out.trans ((drewN_bl wr _).mono HB.out.size)⟩
     case measure => (try rw [HE.out]); simp [intOf]; omega
    ·have hn := Lib.hid (HNE.out (fun h => e0 (congrArg (fun x => x) h)))
     have hb' : (a0 == b0) = false := by simpa using e0
     clear HEQ HNE e0
     go_wp2
     go_quiet (fail)
     go_wp2
     go_ret
     exact ⟨(congrArg (fun z => Ending.returned (Value.bool z)) (decide_eq_false hn.out)).symm, HB.out.trans ((drewN_bl wr _).mono HB.out.size)⟩
   ·have : k = l.length := by omega
    subst this
    have HE := Lib.hid (eq_of_tk HLEN.out htk)
    clear htk
    go_wp2
    go_ret
    exact ⟨(congrArg (fun z => Ending.returned (Value.bool z)) (decide_eq_true HE.out)).symm, hb⟩
 ·have hlen' : ((l.length : Int) == (m.length : Int)) = false := by simpa using fun e => hlen (by omega)
  have HN := Lib.hid (show ¬ l = m from fun e => hlen (by rw [e]))
  clear hlen
  go_enter Tryz.func24, Tryz.ntmps24
  go_wp2
  go_ret
  exact ⟨(congrArg (fun z => Ending.returned (Value.bool z)) (decide_eq_false HN.out)).symm, Below.refl _ _⟩
set_option maxRecDepth 100000 in
set_option maxHeartbeats 4000000 in
theorem eq_u64 {l m : List Int} {w : World} {B : Nat} {v u : Value} (hv : Rw 1 lU w B v l) (hu : Rw 1 lU w B u m) (hB : B ≤ w.heap.size) (hn : l.length ≤ 140737488355328) :
  Calls Tryz.prog 27 #[v, u] w (EqP (decide (l = m)) w) := by
 have hvv := hv
 have huu := hu
 obtain ⟨p1, c1, rfl, _⟩ := hvv
 obtain ⟨p2, c2, rfl, _⟩ := huu
 have HS1 := Lib.hid hv
 have HS2 := Lib.hid hu
 have HBB := Lib.hid hB
 clear hv hu hB
 by_cases hlen : l.length = m.length
 ·have hlen' : ((l.length : Int) == (m.length : Int)) = true := by simp [hlen]
  have HLEN := Lib.hid hlen
  clear hlen
  go_enter Tryz.func27, Tryz.ntmps27
  go_wp2
  clear hlen'
  go_loopw [13] (fun u wr => EqRl l m w u wr) (fun u _ => ((l.length : Int) - intOf u).toNat)
  case atStart => exact ⟨0, by omega, rfl, rfl, Below.refl _ _⟩
  case round =>
   obtain ⟨k, hk1, rfl, htk, hb⟩ := hrel
   by_cases hk : k < l.length
   ·have hk2 : k < m.length := by have := HLEN.out; omega
    obtain ⟨g1, o1, rfl, hg1, hx⟩ := HS1.out.ptr hk
    obtain ⟨g2, o2, rfl, hg2, hy⟩ := HS2.out.ptr hk2
    have hBB := HBB.out
    have x0 := Below.cellq hb (by omega) (hx 0 _ rfl)
    have y0 := Below.cellq hb (by omega) (hy 0 _ rfl)
    have hne := fun e => eq_ne_at (a := l) (b := m) hk hk2 e
    have heq := fun e => eq_take_succ (a := l) (b := m) hk hk2 htk e
    have hki : (k : Int) < (m.length : Int) := by omega
    have HE : Hid (wrap64 ((k : Int) + 1) = ((k + 1 : Nat) : Int)) := Lib.hid (wr64 rfl (by omega))
    have HB := Lib.hid hb
    clear hx hy hb htk hBB
    generalize l[k] = oa at *
    generalize m[k] = ob at *
    obtain ⟨a0, ha0⟩ : ∃ a0, a0 = oa := ⟨_, rfl⟩
    subst ha0
    obtain ⟨b0, hb0⟩ : ∃ b0, b0 = ob := ⟨_, rfl⟩
    subst hb0
    simp only [Nat.mul_one, Nat.add_zero] at x0 y0
    have HNE := Lib.hid hne
    have HEQ := Lib.hid heq
    clear hne heq
    by_cases e0 : a0 = b0
    ·subst e0
     have hn := Lib.hid (HEQ.out rfl)
     clear HEQ HNE
     go_wp2
     go_quiet (fail)
     go_wp2
     go_roundw
     case rel => (try rw [HE.out]); exact ⟨k + 1, by omega, rfl, hn.out, HB.out.trans ((drewN_bl wr _).mono HB.out.size)⟩
     case measure => (try rw [HE.out]); simp [intOf]; omega
    ·have hn := Lib.hid (HNE.out (fun h => e0 (congrArg (fun x => x) h)))
     have hb' : (a0 == b0) = false := by simpa using e0
     clear HEQ HNE e0
     go_wp2
     go_quiet (fail)
     go_wp2
     go_ret
     exact ⟨(congrArg (fun z => Ending.returned (Value.bool z)) (decide_eq_false hn.out)).symm, HB.out.trans ((drewN_bl wr _).mono HB.out.size)⟩
   ·have : k = l.length := by omega
    subst this
    have HE := Lib.hid (eq_of_tk HLEN.out htk)
    clear htk
    go_wp2
    go_ret
    exact ⟨(congrArg (fun z => Ending.returned (Value.bool z)) (decide_eq_true HE.out)).symm, hb⟩
 ·have hlen' : ((l.length : Int) == (m.length : Int)) = false := by simpa using fun e => hlen (by omega)
  have HN := Lib.hid (show ¬ l = m from fun e => hlen (by rw [e]))
  clear hlen
  go_enter Tryz.func27, Tryz.ntmps27
  go_wp2
  go_ret
  exact ⟨(congrArg (fun z => Ending.returned (Value.bool z)) (decide_eq_false HN.out)).symm, Below.refl _ _⟩
set_option maxRecDepth 100000 in
set_option maxHeartbeats 4000000 in
theorem eq_nm {l m : List Nm} {w : World} {B : Nat} {v u : Value} (hv : Rw 2 lN w B v l) (hu : Rw 2 lN w B u m) (hB : B ≤ w.heap.size) (hn : l.length ≤ 140737488355328) :
  Calls Tryz.prog 28 #[v, u] w (EqP (decide (l = m)) w) := by
 have hvv := hv
 have huu := hu
 obtain ⟨p1, c1, rfl, _⟩ := hvv
 obtain ⟨p2, c2, rfl, _⟩ := huu
 have HS1 := Lib.hid hv
 have HS2 := Lib.hid hu
 have HBB := Lib.hid hB
 clear hv hu hB
 by_cases hlen : l.length = m.length
 ·have hlen' : ((l.length : Int) == (m.length : Int)) = true := by simp [hlen]
  have HLEN := Lib.hid hlen
  clear hlen
  go_enter Tryz.func28, Tryz.ntmps28
  go_wp2
  clear hlen'
  go_loopw [13] (fun u wr => EqRl l m w u wr) (fun u _ => ((l.length : Int) - intOf u).toNat)
  case atStart => exact ⟨0, by omega, rfl, rfl, Below.refl _ _⟩
  case round =>
   obtain ⟨k, hk1, rfl, htk, hb⟩ := hrel
   by_cases hk : k < l.length
   ·have hk2 : k < m.length := by have := HLEN.out; omega
    obtain ⟨g1, o1, rfl, hg1, hx⟩ := HS1.out.ptr hk
    obtain ⟨g2, o2, rfl, hg2, hy⟩ := HS2.out.ptr hk2
    have hBB := HBB.out
    have x0 := Below.cellq hb (by omega) (hx 0 _ rfl)
    have y0 := Below.cellq hb (by omega) (hy 0 _ rfl)
    have x1 := Below.cellq hb (by omega) (hx 1 _ rfl)
    have y1 := Below.cellq hb (by omega) (hy 1 _ rfl)
    have hne := fun e => eq_ne_at (a := l) (b := m) hk hk2 e
    have heq := fun e => eq_take_succ (a := l) (b := m) hk hk2 htk e
    have hki : (k : Int) < (m.length : Int) := by omega
    have HE : Hid (wrap64 ((k : Int) + 1) = ((k + 1 : Nat) : Int)) := Lib.hid (wr64 rfl (by omega))
    have HB := Lib.hid hb
    clear hx hy hb htk hBB
    generalize l[k] = oa at *
    generalize m[k] = ob at *
    obtain ⟨a0, a1⟩ := oa
    obtain ⟨b0, b1⟩ := ob
    simp only [Nat.add_zero] at x0 y0 x1 y1
    have HNE := Lib.hid hne
    have HEQ := Lib.hid heq
    clear hne heq
    by_cases e0 : a0 = b0
    ·subst e0
     by_cases e1 : a1 = b1
     ·subst e1
      have hn := Lib.hid (HEQ.out rfl)
      clear HEQ HNE
      have hs1 := str_of (a := a1) rfl
      go_wp2
      go_quiet (fail)
      go_wp2
      go_roundw
      case rel => (try rw [HE.out]); exact ⟨k + 1, by omega, rfl, hn.out, HB.out.trans ((drewN_bl wr _).mono HB.out.size)⟩
      case measure => (try rw [HE.out]); simp [intOf]; omega
     ·have hn := Lib.hid (HNE.out (fun h => e1 (congrArg (Nm.path) h)))
      have hb' := str_ne e1
      clear HEQ HNE e1
      go_wp2
      go_quiet (fail)
      go_wp2
      go_ret
      exact ⟨(congrArg (fun z => Ending.returned (Value.bool z)) (decide_eq_false hn.out)).symm, HB.out.trans ((drewN_bl wr _).mono HB.out.size)⟩
    ·have hn := Lib.hid (HNE.out (fun h => e0 (congrArg (Nm.job) h)))
     have hb' : (a0 == b0) = false := by simpa using e0
     clear HEQ HNE e0
     go_wp2
     go_quiet (fail)
     go_wp2
     go_ret
     exact ⟨(congrArg (fun z => Ending.returned (Value.bool z)) (decide_eq_false hn.out)).symm, HB.out.trans ((drewN_bl wr _).mono HB.out.size)⟩
   ·have : k = l.length := by omega
    subst this
    have HE := Lib.hid (eq_of_tk HLEN.out htk)
    clear htk
    go_wp2
    go_ret
    exact ⟨(congrArg (fun z => Ending.returned (Value.bool z)) (decide_eq_true HE.out)).symm, hb⟩
 ·have hlen' : ((l.length : Int) == (m.length : Int)) = false := by simpa using fun e => hlen (by omega)
  have HN := Lib.hid (show ¬ l = m from fun e => hlen (by rw [e]))
  clear hlen
  go_enter Tryz.func28, Tryz.ntmps28
  go_wp2
  go_ret
  exact ⟨(congrArg (fun z => Ending.returned (Value.bool z)) (decide_eq_false HN.out)).symm, Below.refl _ _⟩
set_option maxRecDepth 100000 in
set_option maxHeartbeats 4000000 in
theorem eq_en {l m : List En} {w : World} {B : Nat} {v u : Value} (hv : Rw 5 lE w B v l) (hu : Rw 5 lE w B u m) (hB : B ≤ w.heap.size) (hn : l.length ≤ 140737488355328) :
  Calls Tryz.prog 26 #[v, u] w (EqP (decide (l = m)) w) := by
 have hvv := hv
 have huu := hu
 obtain ⟨p1, c1, rfl, _⟩ := hvv
 obtain ⟨p2, c2, rfl, _⟩ := huu
 have HS1 := Lib.hid hv
 have HS2 := Lib.hid hu
 have HBB := Lib.hid hB
 clear hv hu hB
 by_cases hlen : l.length = m.length
 ·have hlen' : ((l.length : Int) == (m.length : Int)) = true := by simp [hlen]
  have HLEN := Lib.hid hlen
  clear hlen
  go_enter Tryz.func26, Tryz.ntmps26
  go_wp2
  clear hlen'
  go_loopw [13] (fun u wr => EqRl l m w u wr) (fun u _ => ((l.length : Int) - intOf u).toNat)
  case atStart => exact ⟨0, by omega, rfl, rfl, Below.refl _ _⟩
  case round =>
   obtain ⟨k, hk1, rfl, htk, hb⟩ := hrel
   by_cases hk : k < l.length
   ·have hk2 : k < m.length := by have := HLEN.out; omega
    obtain ⟨g1, o1, rfl, hg1, hx⟩ := HS1.out.ptr hk
    obtain ⟨g2, o2, rfl, hg2, hy⟩ := HS2.out.ptr hk2
    have hBB := HBB.out
    have x0 := Below.cellq hb (by omega) (hx 0 _ rfl)
    have y0 := Below.cellq hb (by omega) (hy 0 _ rfl)
    have x1 := Below.cellq hb (by omega) (hx 1 _ rfl)
    have y1 := Below.cellq hb (by omega) (hy 1 _ rfl)
    have x2 := Below.cellq hb (by omega) (hx 2 _ rfl)
    have y2 := Below.cellq hb (by omega) (hy 2 _ rfl)
    have x3 := Below.cellq hb (by omega) (hx 3 _ rfl)
    have y3 := Below.cellq hb (by omega) (hy 3 _ rfl)
    have x4 := Below.cellq hb (by omega) (hx 4 _ rfl)
    have y4 := Below.cellq hb (by omega) (hy 4 _ rfl)
    have hne := fun e => eq_ne_at (a := l) (b := m) hk hk2 e
    have heq := fun e => eq_take_succ (a := l) (b := m) hk hk2 htk e
    have hki : (k : Int) < (m.length : Int) := by omega
    have HE : Hid (wrap64 ((k : Int) + 1) = ((k + 1 : Nat) : Int)) := Lib.hid (wr64 rfl (by omega))
    have HB := Lib.hid hb
    clear hx hy hb htk hBB
    generalize l[k] = oa at *
    generalize m[k] = ob at *
    obtain ⟨⟨a0, a1⟩, a2, ⟨a3, a4⟩⟩ := oa
    obtain ⟨⟨b0, b1⟩, b2, ⟨b3, b4⟩⟩ := ob
    simp only [Nat.add_zero] at x0 y0 x1 y1 x2 y2 x3 y3 x4 y4
    have HNE := Lib.hid hne
    have HEQ := Lib.hid heq
    clear hne heq
    by_cases e0 : a0 = b0
    ·subst e0
     by_cases e1 : a1 = b1
     ·subst e1
      by_cases e2 : a2 = b2
      ·subst e2
       by_cases e3 : a3 = b3
       ·subst e3
        by_cases e4 : a4 = b4
        ·subst e4
         have hn := Lib.hid (HEQ.out rfl)
         clear HEQ HNE
         have hs1 := str_of (a := a1) rfl
         go_wp2
         go_quiet (fail)
         go_wp2
         go_roundw
         case rel => (try rw [HE.out]); exact ⟨k + 1, by omega, rfl, hn.out, HB.out.trans ((drewN_bl wr _).mono HB.out.size)⟩
         case measure => (try rw [HE.out]); simp [intOf]; omega
        ·have hn := Lib.hid (HNE.out (fun h => e4 (congrArg (fun e => e.res.err) h)))
         have hb' : (a4 == b4) = false := by simpa using e4
         have hs1 := str_of (a := a1) rfl
         clear HEQ HNE e4
         go_wp2
         go_quiet (fail)
         go_wp2
         go_ret
         exact ⟨(congrArg (fun z => Ending.returned (Value.bool z)) (decide_eq_false hn.out)).symm, HB.out.trans ((drewN_bl wr _).mono HB.out.size)⟩
       ·have hn := Lib.hid (HNE.out (fun h => e3 (congrArg (fun e => e.res.val) h)))
        have hb' : (a3 == b3) = false := by simpa using e3
        have hs1 := str_of (a := a1) rfl
        clear HEQ HNE e3
        go_wp2
        go_quiet (fail)
        go_wp2
        go_ret
        exact ⟨(congrArg (fun z => Ending.returned (Value.bool z)) (decide_eq_false hn.out)).symm, HB.out.trans ((drewN_bl wr _).mono HB.out.size)⟩
      ·have hn := Lib.hid (HNE.out (fun h => e2 (congrArg (fun e => e.kids) h)))
       have hb' : (a2 == b2) = false := by simpa using e2
       have hs1 := str_of (a := a1) rfl
       clear HEQ HNE e2
       go_wp2
       go_quiet (fail)
       go_wp2
       go_ret
       exact ⟨(congrArg (fun z => Ending.returned (Value.bool z)) (decide_eq_false hn.out)).symm, HB.out.trans ((drewN_bl wr _).mono HB.out.size)⟩
     ·have hn := Lib.hid (HNE.out (fun h => e1 (congrArg (fun e => e.nm.path) h)))
      have hb' := str_ne e1
      clear HEQ HNE e1
      go_wp2
      go_quiet (fail)
      go_wp2
      go_ret
      exact ⟨(congrArg (fun z => Ending.returned (Value.bool z)) (decide_eq_false hn.out)).symm, HB.out.trans ((drewN_bl wr _).mono HB.out.size)⟩
    ·have hn := Lib.hid (HNE.out (fun h => e0 (congrArg (fun e => e.nm.job) h)))
     have hb' : (a0 == b0) = false := by simpa using e0
     clear HEQ HNE e0
     go_wp2
     go_quiet (fail)
     go_wp2
     go_ret
     exact ⟨(congrArg (fun z => Ending.returned (Value.bool z)) (decide_eq_false hn.out)).symm, HB.out.trans ((drewN_bl wr _).mono HB.out.size)⟩
   ·have : k = l.length := by omega
    subst this
    have HE := Lib.hid (eq_of_tk HLEN.out htk)
    clear htk
    go_wp2
    go_ret
    exact ⟨(congrArg (fun z => Ending.returned (Value.bool z)) (decide_eq_true HE.out)).symm, hb⟩
 ·have hlen' : ((l.length : Int) == (m.length : Int)) = false := by simpa using fun e => hlen (by omega)
  have HN := Lib.hid (show ¬ l = m from fun e => hlen (by rw [e]))
  clear hlen
  go_enter Tryz.func26, Tryz.ntmps26
  go_wp2
  go_ret
  exact ⟨(congrArg (fun z => Ending.returned (Value.bool z)) (decide_eq_false HN.out)).symm, Below.refl _ _⟩
set_option maxRecDepth 100000 in
set_option maxHeartbeats 4000000 in
theorem eq_err {l m : List Int} {w : World} {B : Nat} {v u : Value} (hv : Rw 1 lI w B v l) (hu : Rw 1 lI w B u m) (hB : B ≤ w.heap.size) (hn : l.length ≤ 140737488355328) :
  Calls Tryz.prog 29 #[v, u] w (EqP (decide (l = m)) w) := by
 have hvv := hv
 have huu := hu
 obtain ⟨p1, c1, rfl, _⟩ := hvv
 obtain ⟨p2, c2, rfl, _⟩ := huu
 have HS1 := Lib.hid hv
 have HS2 := Lib.hid hu
 have HBB := Lib.hid hB
 clear hv hu hB
 by_cases hlen : l.length = m.length
 ·have hlen' : ((l.length : Int) == (m.length : Int)) = true := by simp [hlen]
  have HLEN := Lib.hid hlen
  clear hlen
  go_enter Tryz.func29, Tryz.ntmps29
  go_wp2
  clear hlen'
  go_loopw [13] (fun u wr => EqRl l m w u wr) (fun u _ => ((l.length : Int) - intOf u).toNat)
  case atStart => exact ⟨0, by omega, rfl, rfl, Below.refl _ _⟩
  case round =>
   obtain ⟨k, hk1, rfl, htk, hb⟩ := hrel
   by_cases hk : k < l.length
   ·have hk2 : k < m.length := by have := HLEN.out; omega
    obtain ⟨g1, o1, rfl, hg1, hx⟩ := HS1.out.ptr hk
    obtain ⟨g2, o2, rfl, hg2, hy⟩ := HS2.out.ptr hk2
    have hBB := HBB.out
    have x0 := Below.cellq hb (by omega) (hx 0 _ rfl)
    have y0 := Below.cellq hb (by omega) (hy 0 _ rfl)
    have hne := fun e => eq_ne_at (a := l) (b := m) hk hk2 e
    have heq := fun e => eq_take_succ (a := l) (b := m) hk hk2 htk e
    have hki : (k : Int) < (m.length : Int) := by omega
    have HE : Hid (wrap64 ((k : Int) + 1) = ((k + 1 : Nat) : Int)) := Lib.hid (wr64 rfl (by omega))
    have HB := Lib.hid hb
    clear hx hy hb htk hBB
    generalize l[k] = oa at *
    generalize m[k] = ob at *
    obtain ⟨a0, ha0⟩ : ∃ a0, a0 = oa := ⟨_, rfl⟩
    subst ha0
    obtain ⟨b0, hb0⟩ : ∃ b0, b0 = ob := ⟨_, rfl⟩
    subst hb0
    simp only [Nat.mul_one, Nat.add_zero] at x0 y0
    have HNE := Lib.hid hne
    have HEQ := Lib.hid heq
    clear hne heq
    by_cases e0 : a0 = b0
    ·subst e0
     have hn := Lib.hid (HEQ.out rfl)
     clear HEQ HNE
     go_wp2
     go_quiet (fail)
     go_wp2
     go_roundw
     case rel => (try rw [HE.out]); exact ⟨k + 1, by omega, rfl, hn.out, HB.out.trans ((drewN_bl wr _).mono HB.out.size)⟩
     case measure => (try rw [HE.out]); simp [intOf]; omega
    ·have hn := Lib.hid (HNE.out (fun h => e0 (congrArg (fun x => x) h)))
     have hb' : (a0 == b0) = false := by simpa using e0
     clear HEQ HNE e0
     go_wp2
     go_quiet (fail)
     go_wp2
     go_ret
     exact ⟨(congrArg (fun z => Ending.returned (Value.bool z)) (decide_eq_false hn.out)).symm, HB.out.trans ((drewN_bl wr _).mono HB.out.size)⟩
   ·have : k = l.length := by omega
    subst this
    have HE := Lib.hid (eq_of_tk HLEN.out htk)
    clear htk
    go_wp2
    go_ret
    exact ⟨(congrArg (fun z => Ending.returned (Value.bool z)) (decide_eq_true HE.out)).symm, hb⟩
 ·have hlen' : ((l.length : Int) == (m.length : Int)) = false := by simpa using fun e => hlen (by omega)
  have HN := Lib.hid (show ¬ l = m from fun e => hlen (by rw [e]))
  clear hlen
  go_enter Tryz.func29, Tryz.ntmps29
  go_wp2
  go_ret
  exact ⟨(congrArg (fun z => Ending.returned (Value.bool z)) (decide_eq_false HN.out)).symm, Below.refl _ _⟩
set_option maxRecDepth 100000 in
set_option maxHeartbeats 4000000 in
theorem req_int {l m : List Int} {w : World} {B : Nat} {v u : Value} (hv : Rw 1 lI w B v l) (hu : Rw 1 lI w B u m) (hB : B ≤ w.heap.size) (hn : l.length ≤ 140737488355328) :
  Calls Tryz.prog 30 #[v, u] w (EqP (decide (l = m)) w) := by
 have hvv := hv
 have huu := hu
 obtain ⟨p1, c1, rfl, _⟩ := hvv
 obtain ⟨p2, c2, rfl, _⟩ := huu
 have HS1 := Lib.hid hv
 have HS2 := Lib.hid hu
 have HBB := Lib.hid hB
 clear hv hu hB
 by_cases hlen : l.length = m.length
 ·have hlen' : ((l.length : Int) == (m.length : Int)) = true := by simp [hlen]
  have HLEN := Lib.hid hlen
  clear hlen
  go_enter Tryz.func30, Tryz.ntmps30
  go_wp2
  clear hlen'
  go_loopw [5] (fun u wr => EqRl l m w u wr) (fun u _ => ((l.length : Int) - intOf u).toNat)
  case atStart => exact ⟨0, by omega, rfl, rfl, Below.refl _ _⟩
  case round =>
   obtain ⟨k, hk1, rfl, htk, hb⟩ := hrel
   by_cases hk : k < l.length
   ·have hk2 : k < m.length := by have := HLEN.out; omega
    obtain ⟨g1, o1, rfl, hg1, hx⟩ := HS1.out.ptr hk
    obtain ⟨g2, o2, rfl, hg2, hy⟩ := HS2.out.ptr hk2
    have hBB := HBB.out
    have x0 := Below.cellq hb (by omega) (hx 0 _ rfl)
    have y0 := Below.cellq hb (by omega) (hy 0 _ rfl)
    have hne := fun e => eq_ne_at (a := l) (b := m) hk hk2 e
    have heq := fun e => eq_take_succ (a := l) (b := m) hk hk2 htk e
    have hki : (k : Int) < (m.length : Int) := by omega
    have HE : Hid (wrap64 ((k : Int) + 1) = ((k + 1 : Nat) : Int)) := Lib.hid (wr64 rfl (by omega))
    have HB := Lib.hid hb
    clear hx hy hb htk hBB
    generalize l[k] = oa at *
    generalize m[k] = ob at *
    obtain ⟨a0, ha0⟩ : ∃ a0, a0 = oa := ⟨_, rfl⟩
    subst ha0
    obtain ⟨b0, hb0⟩ : ∃ b0, b0 = ob := ⟨_, rfl⟩
    subst hb0
    simp only [Nat.mul_one, Nat.add_zero] at x0 y0
    have HNE := Lib.hid hne
    have HEQ := Lib.hid heq
    clear hne heq
    by_cases e0 : a0 = b0
    ·subst e0
     have hn := Lib.hid (HEQ.out rfl)
     clear HEQ HNE
     go_wp2
     go_quiet (fail)
     go_wp2
     go_roundw
     case rel => (try rw [HE.out]); exact ⟨k + 1, by omega, rfl, hn.out, HB.out.trans ((drewN_bl wr _).mono HB.out.size)⟩
     case measure => (try rw [HE.out]); simp [intOf]; omega
    ·have hn := Lib.hid (HNE.out (fun h => e0 (congrArg (fun x => x) h)))
     have hb' : (a0 == b0) = false := by simpa using e0
     clear HEQ HNE e0
     go_wp2
     go_quiet (fail)
     go_wp2
     go_ret
     exact ⟨(congrArg (fun z => Ending.returned (Value.bool z)) (decide_eq_false hn.out)).symm, HB.out.trans ((drewN_bl wr _).mono HB.out.size)⟩
   ·have : k = l.length := by omega
    subst this
    have HE := Lib.hid (eq_of_tk HLEN.out htk)
    clear htk
    go_wp2
    go_ret
    exact ⟨(congrArg (fun z => Ending.returned (Value.bool z)) (decide_eq_true HE.out)).symm, hb⟩
 ·have hlen' : ((l.length : Int) == (m.length : Int)) = false := by simpa using fun e => hlen (by omega)
  have HN := Lib.hid (show ¬ l = m from fun e => hlen (by rw [e]))
  clear hlen
  go_enter Tryz.func30, Tryz.ntmps30
  go_wp2
  go_ret
  exact ⟨(congrArg (fun z => Ending.returned (Value.bool z)) (decide_eq_false HN.out)).symm, Below.refl _ _⟩
set_option maxRecDepth 100000 in
set_option maxHeartbeats 4000000 in
theorem req_u64 {l m : List Int} {w : World} {B : Nat} {v u : Value} (hv : Rw 1 lU w B v l) (hu : Rw 1 lU w B u m) (hB : B ≤ w.heap.size) (hn : l.length ≤ 140737488355328) :
  Calls Tryz.prog 33 #[v, u] w (EqP (decide (l = m)) w) := by
 have hvv := hv
 have huu := hu
 obtain ⟨p1, c1, rfl, _⟩ := hvv
 obtain ⟨p2, c2, rfl, _⟩ := huu
 have HS1 := Lib.hid hv
 have HS2 := Lib.hid hu
 have HBB := Lib.hid hB
 clear hv hu hB
 by_cases hlen : l.length = m.length
 ·have hlen' : ((l.length : Int) == (m.length : Int)) = true := by simp [hlen]
  have HLEN := Lib.hid hlen
  clear hlen
  go_enter Tryz.func33, Tryz.ntmps33
  go_wp2
  clear hlen'
  go_loopw [5] (fun u wr => EqRl l m w u wr) (fun u _ => ((l.length : Int) - intOf u).toNat)
  case atStart => exact ⟨0, by omega, rfl, rfl, Below.refl _ _⟩
  case round =>
   obtain ⟨k, hk1, rfl, htk, hb⟩ := hrel
   by_cases hk : k < l.length
   ·have hk2 : k < m.length := by have := HLEN.out; omega
    obtain ⟨g1, o1, rfl, hg1, hx⟩ := HS1.out.ptr hk
    obtain ⟨g2, o2, rfl, hg2, hy⟩ := HS2.out.ptr hk2
    have hBB := HBB.out
    have x0 := Below.cellq hb (by omega) (hx 0 _ rfl)
    have y0 := Below.cellq hb (by omega) (hy 0 _ rfl)
    have hne := fun e => eq_ne_at (a := l) (b := m) hk hk2 e
    have heq := fun e => eq_take_succ (a := l) (b := m) hk hk2 htk e
    have hki : (k : Int) < (m.length : Int) := by omega
    have HE : Hid (wrap64 ((k : Int) + 1) = ((k + 1 : Nat) : Int)) := Lib.hid (wr64 rfl (by omega))
    have HB := Lib.hid hb
    clear hx hy hb htk hBB
    generalize l[k] = oa at *
    generalize m[k] = ob at *
    obtain ⟨a0, ha0⟩ : ∃ a0, a0 = oa := ⟨_, rfl⟩
    subst ha0
    obtain ⟨b0, hb0⟩ : ∃ b0, b0 = ob := ⟨_, rfl⟩
    subst hb0
    simp only [Nat.mul_one, Nat.add_zero] at x0 y0
    have HNE := Lib.hid hne
    have HEQ := Lib.hid heq
    clear hne heq
    by_cases e0 : a0 = b0
    ·subst e0
     have hn := Lib.hid (HEQ.out rfl)
     clear HEQ HNE
     go_wp2
     go_quiet (fail)
     go_wp2
     go_roundw
     case rel => (try rw [HE.out]); exact ⟨k + 1, by omega, rfl, hn.out, HB.out.trans ((drewN_bl wr _).mono HB.out.size)⟩
     case measure => (try rw [HE.out]); simp [intOf]; omega
    ·have hn := Lib.hid (HNE.out (fun h => e0 (congrArg (fun x => x) h)))
     have hb' : (a0 == b0) = false := by simpa using e0
     clear HEQ HNE e0
     go_wp2
     go_quiet (fail)
     go_wp2
     go_ret
     exact ⟨(congrArg (fun z => Ending.returned (Value.bool z)) (decide_eq_false hn.out)).symm, HB.out.trans ((drewN_bl wr _).mono HB.out.size)⟩
   ·have : k = l.length := by omega
    subst this
    have HE := Lib.hid (eq_of_tk HLEN.out htk)
    clear htk
    go_wp2
    go_ret
    exact ⟨(congrArg (fun z => Ending.returned (Value.bool z)) (decide_eq_true HE.out)).symm, hb⟩
 ·have hlen' : ((l.length : Int) == (m.length : Int)) = false := by simpa using fun e => hlen (by omega)
  have HN := Lib.hid (show ¬ l = m from fun e => hlen (by rw [e]))
  clear hlen
  go_enter Tryz.func33, Tryz.ntmps33
  go_wp2
  go_ret
  exact ⟨(congrArg (fun z => Ending.returned (Value.bool z)) (decide_eq_false HN.out)).symm, Below.refl _ _⟩
set_option maxRecDepth 100000 in
set_option maxHeartbeats 4000000 in
theorem req_nm {l m : List Nm} {w : World} {B : Nat} {v u : Value} (hv : Rw 2 lN w B v l) (hu : Rw 2 lN w B u m) (hB : B ≤ w.heap.size) (hn : l.length ≤ 140737488355328) :
  Calls Tryz.prog 34 #[v, u] w (EqP (decide (l = m)) w) := by
 have hvv := hv
 have huu := hu
 obtain ⟨p1, c1, rfl, _⟩ := hvv
 obtain ⟨p2, c2, rfl, _⟩ := huu
 have HS1 := Lib.hid hv
 have HS2 := Lib.hid hu
 have HBB := Lib.hid hB
 clear hv hu hB
 by_cases hlen : l.length = m.length
 ·have hlen' : ((l.length : Int) == (m.length : Int)) = true := by simp [hlen]
  have HLEN := Lib.hid hlen
  clear hlen
  go_enter Tryz.func34, Tryz.ntmps34
  go_wp2
  clear hlen'
  go_loopw [5] (fun u wr => EqRl l m w u wr) (fun u _ => ((l.length : Int) - intOf u).toNat)
  case atStart => exact ⟨0, by omega, rfl, rfl, Below.refl _ _⟩
  case round =>
   obtain ⟨k, hk1, rfl, htk, hb⟩ := hrel
   by_cases hk : k < l.length
   ·have hk2 : k < m.length := by have := HLEN.out; omega
    obtain ⟨g1, o1, rfl, hg1, hx⟩ := HS1.out.ptr hk
    obtain ⟨g2, o2, rfl, hg2, hy⟩ := HS2.out.ptr hk2
    have hBB := HBB.out
    have x0 := Below.cellq hb (by omega) (hx 0 _ rfl)
    have y0 := Below.cellq hb (by omega) (hy 0 _ rfl)
    have x1 := Below.cellq hb (by omega) (hx 1 _ rfl)
    have y1 := Below.cellq hb (by omega) (hy 1 _ rfl)
    have hne := fun e => eq_ne_at (a := l) (b := m) hk hk2 e
    have heq := fun e => eq_take_succ (a := l) (b := m) hk hk2 htk e
    have hki : (k : Int) < (m.length : Int) := by omega
    have HE : Hid (wrap64 ((k : Int) + 1) = ((k + 1 : Nat) : Int)) := Lib.hid (wr64 rfl (by omega))
    have HB := Lib.hid hb
    clear hx hy hb htk hBB
    generalize l[k] = oa at *
    generalize m[k] = ob at *
    obtain ⟨a0, a1⟩ := oa
    obtain ⟨b0, b1⟩ := ob
    simp only [Nat.add_zero] at x0 y0 x1 y1
    have HNE := Lib.hid hne
    have HEQ := Lib.hid heq
    clear hne heq
    by_cases e0 : a0 = b0
    ·subst e0
     by_cases e1 : a1 = b1
     ·subst e1
      have hn := Lib.hid (HEQ.out rfl)
      clear HEQ HNE
      have hs1 := str_of (a := a1) rfl
      go_wp2
      go_quiet (fail)
      go_wp2
      go_roundw
      case rel => (try rw [HE.out]); exact ⟨k + 1, by omega, rfl, hn.out, HB.out.trans ((drewN_bl wr _).mono HB.out.size)⟩
      case measure => (try rw [HE.out]); simp [intOf]; omega
     ·have hn := Lib.hid (HNE.out (fun h => e1 (congrArg (Nm.path) h)))
      have hb' := str_ne e1
      clear HEQ HNE e1
      go_wp2
      go_quiet (fail)
      go_wp2
      go_ret
      exact ⟨(congrArg (fun z => Ending.returned (Value.bool z)) (decide_eq_false hn.out)).symm, HB.out.trans ((drewN_bl wr _).mono HB.out.size)⟩
    ·have hn := Lib.hid (HNE.out (fun h => e0 (congrArg (Nm.job) h)))
     have hb' : (a0 == b0) = false := by simpa using e0
     clear HEQ HNE e0
     go_wp2
     go_quiet (fail)
     go_wp2
     go_ret
     exact ⟨(congrArg (fun z => Ending.returned (Value.bool z)) (decide_eq_false hn.out)).symm, HB.out.trans ((drewN_bl wr _).mono HB.out.size)⟩
   ·have : k = l.length := by omega
    subst this
    have HE := Lib.hid (eq_of_tk HLEN.out htk)
    clear htk
    go_wp2
    go_ret
    exact ⟨(congrArg (fun z => Ending.returned (Value.bool z)) (decide_eq_true HE.out)).symm, hb⟩
 ·have hlen' : ((l.length : Int) == (m.length : Int)) = false := by simpa using fun e => hlen (by omega)
  have HN := Lib.hid (show ¬ l = m from fun e => hlen (by rw [e]))
  clear hlen
  go_enter Tryz.func34, Tryz.ntmps34
  go_wp2
  go_ret
  exact ⟨(congrArg (fun z => Ending.returned (Value.bool z)) (decide_eq_false HN.out)).symm, Below.refl _ _⟩
set_option maxRecDepth 100000 in
set_option maxHeartbeats 4000000 in
theorem req_en {l m : List En} {w : World} {B : Nat} {v u : Value} (hv : Rw 5 lE w B v l) (hu : Rw 5 lE w B u m) (hB : B ≤ w.heap.size) (hn : l.length ≤ 140737488355328) :
  Calls Tryz.prog 32 #[v, u] w (EqP (decide (l = m)) w) := by
 have hvv := hv
 have huu := hu
 obtain ⟨p1, c1, rfl, _⟩ := hvv
 obtain ⟨p2, c2, rfl, _⟩ := huu
 have HS1 := Lib.hid hv
 have HS2 := Lib.hid hu
 have HBB := Lib.hid hB
 clear hv hu hB
 by_cases hlen : l.length = m.length
 ·have hlen' : ((l.length : Int) == (m.length : Int)) = true := by simp [hlen]
  have HLEN := Lib.hid hlen
  clear hlen
  go_enter Tryz.func32, Tryz.ntmps32
  go_wp2
  clear hlen'
  go_loopw [5] (fun u wr => EqRl l m w u wr) (fun u _ => ((l.length : Int) - intOf u).toNat)
  case atStart => exact ⟨0, by omega, rfl, rfl, Below.refl _ _⟩
  case round =>
   obtain ⟨k, hk1, rfl, htk, hb⟩ := hrel
   by_cases hk : k < l.length
   ·have hk2 : k < m.length := by have := HLEN.out; omega
    obtain ⟨g1, o1, rfl, hg1, hx⟩ := HS1.out.ptr hk
    obtain ⟨g2, o2, rfl, hg2, hy⟩ := HS2.out.ptr hk2
    have hBB := HBB.out
    have x0 := Below.cellq hb (by omega) (hx 0 _ rfl)
    have y0 := Below.cellq hb (by omega) (hy 0 _ rfl)
    have x1 := Below.cellq hb (by omega) (hx 1 _ rfl)
    have y1 := Below.cellq hb (by omega) (hy 1 _ rfl)
    have x2 := Below.cellq hb (by omega) (hx 2 _ rfl)
    have y2 := Below.cellq hb (by omega) (hy 2 _ rfl)
    have x3 := Below.cellq hb (by omega) (hx 3 _ rfl)
    have y3 := Below.cellq hb (by omega) (hy 3 _ rfl)
    have x4 := Below.cellq hb (by omega) (hx 4 _ rfl)
    have y4 := Below.cellq hb (by omega) (hy 4 _ rfl)
    have hne := fun e => eq_ne_at (a := l) (b := m) hk hk2 e
    have heq := fun e => eq_take_succ (a := l) (b := m) hk hk2 htk e
    have hki : (k : Int) < (m.length : Int) := by omega
    have HE : Hid (wrap64 ((k : Int) + 1) = ((k + 1 : Nat) : Int)) := Lib.hid (wr64 rfl (by omega))
    have HB := Lib.hid hb
    clear hx hy hb htk hBB
    generalize l[k] = oa at *
    generalize m[k] = ob at *
    obtain ⟨⟨a0, a1⟩, a2, ⟨a3, a4⟩⟩ := oa
    obtain ⟨⟨b0, b1⟩, b2, ⟨b3, b4⟩⟩ := ob
    simp only [Nat.add_zero] at x0 y0 x1 y1 x2 y2 x3 y3 x4 y4
    have HNE := Lib.hid hne
    have HEQ := Lib.hid heq
    clear hne heq
    by_cases e0 : a0 = b0
    ·subst e0
     by_cases e1 : a1 = b1
     ·subst e1
      by_cases e2 : a2 = b2
      ·subst e2
       by_cases e3 : a3 = b3
       ·subst e3
        by_cases e4 : a4 = b4
        ·subst e4
         have hn := Lib.hid (HEQ.out rfl)
         clear HEQ HNE
         have hs1 := str_of (a := a1) rfl
         go_wp2
         go_quiet (fail)
         go_wp2
         go_roundw
         case rel => (try rw [HE.out]); exact ⟨k + 1, by omega, rfl, hn.out, HB.out.trans ((drewN_bl wr _).mono HB.out.size)⟩
         case measure => (try rw [HE.out]); simp [intOf]; omega
        ·have hn := Lib.hid (HNE.out (fun h => e4 (congrArg (fun e => e.res.err) h)))
         have hb' : (a4 == b4) = false := by simpa using e4
         have hs1 := str_of (a := a1) rfl
         clear HEQ HNE e4
         go_wp2
         go_quiet (fail)
         go_wp2
         go_ret
         exact ⟨(congrArg (fun z => Ending.returned (Value.bool z)) (decide_eq_false hn.out)).symm, HB.out.trans ((drewN_bl wr _).mono HB.out.size)⟩
       ·have hn := Lib.hid (HNE.out (fun h => e3 (congrArg (fun e => e.res.val) h)))
        have hb' : (a3 == b3) = false := by simpa using e3
        have hs1 := str_of (a := a1) rfl
        clear HEQ HNE e3
        go_wp2
        go_quiet (fail)
        go_wp2
        go_ret
        exact ⟨(congrArg (fun z => Ending.returned (Value.bool z)) (decide_eq_false hn.out)).symm, HB.out.trans ((drewN_bl wr _).mono HB.out.size)⟩
      ·have hn := Lib.hid (HNE.out (fun h => e2 (congrArg (fun e => e.kids) h)))
       have hb' : (a2 == b2) = false := by simpa using e2
       have hs1 := str_of (a := a1) rfl
       clear HEQ HNE e2
       go_wp2
       go_quiet (fail)
       go_wp2
       go_ret
       exact ⟨(congrArg (fun z => Ending.returned (Value.bool z)) (decide_eq_false hn.out)).symm, HB.out.trans ((drewN_bl wr _).mono HB.out.size)⟩
     ·have hn := Lib.hid (HNE.out (fun h => e1 (congrArg (fun e => e.nm.path) h)))
      have hb' := str_ne e1
      clear HEQ HNE e1
      go_wp2
      go_quiet (fail)
      go_wp2
      go_ret
      exact ⟨(congrArg (fun z => Ending.returned (Value.bool z)) (decide_eq_false hn.out)).symm, HB.out.trans ((drewN_bl wr _).mono HB.out.size)⟩
    ·have hn := Lib.hid (HNE.out (fun h => e0 (congrArg (fun e => e.nm.job) h)))
     have hb' : (a0 == b0) = false := by simpa using e0
     clear HEQ HNE e0
     go_wp2
     go_quiet (fail)
     go_wp2
     go_ret
     exact ⟨(congrArg (fun z => Ending.returned (Value.bool z)) (decide_eq_false hn.out)).symm, HB.out.trans ((drewN_bl wr _).mono HB.out.size)⟩
   ·have : k = l.length := by omega
    subst this
    have HE := Lib.hid (eq_of_tk HLEN.out htk)
    clear htk
    go_wp2
    go_ret
    exact ⟨(congrArg (fun z => Ending.returned (Value.bool z)) (decide_eq_true HE.out)).symm, hb⟩
 ·have hlen' : ((l.length : Int) == (m.length : Int)) = false := by simpa using fun e => hlen (by omega)
  have HN := Lib.hid (show ¬ l = m from fun e => hlen (by rw [e]))
  clear hlen
  go_enter Tryz.func32, Tryz.ntmps32
  go_wp2
  go_ret
  exact ⟨(congrArg (fun z => Ending.returned (Value.bool z)) (decide_eq_false HN.out)).symm, Below.refl _ _⟩
set_option maxRecDepth 100000 in
set_option maxHeartbeats 4000000 in
theorem req_err {l m : List Int} {w : World} {B : Nat} {v u : Value} (hv : Rw 1 lI w B v l) (hu : Rw 1 lI w B u m) (hB : B ≤ w.heap.size) (hn : l.length ≤ 140737488355328) :
  Calls Tryz.prog 35 #[v, u] w (EqP (decide (l = m)) w) := by
 have hvv := hv
 have huu := hu
 obtain ⟨p1, c1, rfl, _⟩ := hvv
 obtain ⟨p2, c2, rfl, _⟩ := huu
 have HS1 := Lib.hid hv
 have HS2 := Lib.hid hu
 have HBB := Lib.hid hB
 clear hv hu hB
 by_cases hlen : l.length = m.length
 ·have hlen' : ((l.length : Int) == (m.length : Int)) = true := by simp [hlen]
  have HLEN := Lib.hid hlen
  clear hlen
  go_enter Tryz.func35, Tryz.ntmps35
  go_wp2
  clear hlen'
  go_loopw [5] (fun u wr => EqRl l m w u wr) (fun u _ => ((l.length : Int) - intOf u).toNat)
  case atStart => exact ⟨0, by omega, rfl, rfl, Below.refl _ _⟩
  case round =>
   obtain ⟨k, hk1, rfl, htk, hb⟩ := hrel
   by_cases hk : k < l.length
   ·have hk2 : k < m.length := by have := HLEN.out; omega
    obtain ⟨g1, o1, rfl, hg1, hx⟩ := HS1.out.ptr hk
    obtain ⟨g2, o2, rfl, hg2, hy⟩ := HS2.out.ptr hk2
    have hBB := HBB.out
    have x0 := Below.cellq hb (by omega) (hx 0 _ rfl)
    have y0 := Below.cellq hb (by omega) (hy 0 _ rfl)
    have hne := fun e => eq_ne_at (a := l) (b := m) hk hk2 e
    have heq := fun e => eq_take_succ (a := l) (b := m) hk hk2 htk e
    have hki : (k : Int) < (m.length : Int) := by omega
    have HE : Hid (wrap64 ((k : Int) + 1) = ((k + 1 : Nat) : Int)) := Lib.hid (wr64 rfl (by omega))
    have HB := Lib.hid hb
    clear hx hy hb htk hBB
    generalize l[k] = oa at *
    generalize m[k] = ob at *
    obtain ⟨a0, ha0⟩ : ∃ a0, a0 = oa := ⟨_, rfl⟩
    subst ha0
    obtain ⟨b0, hb0⟩ : ∃ b0, b0 = ob := ⟨_, rfl⟩
    subst hb0
    simp only [Nat.mul_one, Nat.add_zero] at x0 y0
    have HNE := Lib.hid hne
    have HEQ := Lib.hid heq
    clear hne heq
    by_cases e0 : a0 = b0
    ·subst e0
     have hn := Lib.hid (HEQ.out rfl)
     clear HEQ HNE
     go_wp2
     go_quiet (fail)
     go_wp2
     go_roundw
     case rel => (try rw [HE.out]); exact ⟨k + 1, by omega, rfl, hn.out, HB.out.trans ((drewN_bl wr _).mono HB.out.size)⟩
     case measure => (try rw [HE.out]); simp [intOf]; omega
    ·have hn := Lib.hid (HNE.out (fun h => e0 (congrArg (fun x => x) h)))
     have hb' : (a0 == b0) = false := by simpa using e0
     clear HEQ HNE e0
     go_wp2
     go_quiet (fail)
     go_wp2
     go_ret
     exact ⟨(congrArg (fun z => Ending.returned (Value.bool z)) (decide_eq_false hn.out)).symm, HB.out.trans ((drewN_bl wr _).mono HB.out.size)⟩
   ·have : k = l.length := by omega
    subst this
    have HE := Lib.hid (eq_of_tk HLEN.out htk)
    clear htk
    go_wp2
    go_ret
    exact ⟨(congrArg (fun z => Ending.returned (Value.bool z)) (decide_eq_true HE.out)).symm, hb⟩
 ·have hlen' : ((l.length : Int) == (m.length : Int)) = false := by simpa using fun e => hlen (by omega)
  have HN := Lib.hid (show ¬ l = m from fun e => hlen (by rw [e]))
  clear hlen
  go_enter Tryz.func35, Tryz.ntmps35
  go_wp2
  go_ret
  exact ⟨(congrArg (fun z => Ending.returned (Value.bool z)) (decide_eq_false HN.out)).symm, Below.refl _ _⟩
end Go.Proofs.YtghbjknpffiaiaaGreat

namespace Go.Proofs.YtghbjknpffiaiaaGreat
open Go.RowKit Wire Ms
set_option linter.unusedVariables false
set_option linter.unusedSimpArgs false
theorem blk_new1 (W : World) (o : Obj) (T : TypeId) (A : Array Value) : Blk ((W.alloc o).alloc (.cells A T)) (W.heap.size + 1) T A := by
 have h := Blk.new (W.alloc o) T A
 rwa [show (W.alloc o).heap.size = W.heap.size + 1 by simp] at h
theorem Rw.slc {α : Type} {sz : Nat} {LAY : α → List Value} {w : World} {B : Nat} {v : Value} {l : List α} (h : Rw sz LAY w B v l) : ∃ p c, v = .slice p l.length c := by
 obtain ⟨p, c, h1, _⟩ := h
 exact ⟨p, c, h1⟩
theorem MR.vs {w : World} {B : Nat} {m : M} {v : VS} (h : MR w B m v) : ∃ p1 c1 p2 c2 p3 c3 p4 c4 p5 c5 p6 c6, v = ⟨.slice p1 m.input.length c1, .slice p2 m.task.args.length c2, .slice p3 m.ents.length c3, .slice p4 m.epochs.length c4, .slice p5 m.names.length c5, .slice p6 m.codes.length c6⟩ := by
 obtain ⟨p1, c1, e1⟩ := h.ri.slc
 obtain ⟨p2, c2, e2⟩ := h.ra.slc
 obtain ⟨p3, c3, e3⟩ := h.rn.slc
 obtain ⟨p4, c4, e4⟩ := h.rh.slc
 obtain ⟨p5, c5, e5⟩ := h.rm.slc
 obtain ⟨p6, c6, e6⟩ := h.rc.slc
 refine ⟨p1, c1, p2, c2, p3, c3, p4, c4, p5, c5, p6, c6, ?_⟩
 obtain ⟨vi, va, vn, vh, vm, vc⟩ := v
 dsimp only at *
 subst e1 e2 e3 e4 e5 e6
 rfl
set_option maxRecDepth 100000 in
set_option maxHeartbeats 4000000 in
theorem tsk_any {t u : Tk} {W : World} {B : Nat} {v v2 : Value} (hv : Rw 1 lI W B v t.args) (hu : Rw 1 lI W B v2 u.args) (hB : B ≤ W.heap.size) (hn : t.args.length ≤ 1000) :
  Calls Tryz.prog 25 #[.agg #[.string t.path, .int .i64 t.fn, v, .int .i64 t.fuel], .agg #[.string u.path, .int .i64 u.fn, v2, .int .i64 u.fuel]] W (EqP (decide (t = u)) W) := by
 have HC1 := Lib.hid (fun w (hb : Below W.heap.size W w) => eq_int (hv.keep fun b o x hlt hx => Below.cellq hb (by omega) hx) (hu.keep fun b o x hlt hx => Below.cellq hb (by omega) hx) (Nat.le_trans hB hb.size) (by omega))
 obtain ⟨p2, c2, rfl⟩ := hv.slc
 obtain ⟨q2, d2, rfl⟩ := hu.slc
 clear hv hu hn
 obtain ⟨a6, a7, a8, a9⟩ := t
 obtain ⟨b6, b7, b8, b9⟩ := u
 dsimp only at *
 obtain ⟨r, hr⟩ : ∃ r : Bool, r = decide ((⟨a6, a7, a8, a9⟩ : Tk) = ⟨b6, b7, b8, b9⟩) := ⟨_, rfl⟩
 rw [← hr]
 have HR := Lib.hid hr
 clear hr
 have HB0 := Lib.hid (((Below.refl _ W).alloc (Nat.le_refl _) (.cells #[.string a6, .int .i64 a7, .slice p2 a8.length c2, .int .i64 a9] 25)).alloc (by simp) (.cells #[.string b6, .int .i64 b7, .slice q2 b8.length d2, .int .i64 b9] 25))
 have HA0 := Lib.hid ((Blk.new W 25 #[.string a6, .int .i64 a7, .slice p2 a8.length c2, .int .i64 a9]).alloc (.cells #[.string b6, .int .i64 b7, .slice q2 b8.length d2, .int .i64 b9] 25))
 have HX0 := Lib.hid (blk_new1 W (.cells #[.string a6, .int .i64 a7, .slice p2 a8.length c2, .int .i64 a9] 25) 25 #[.string b6, .int .i64 b7, .slice q2 b8.length d2, .int .i64 b9])
 by_cases e6 : a6 = b6
 ·subst e6
  have hs6 := str_of (a := a6) rfl
  by_cases e7 : a7 = b7
  ·subst e7
   by_cases e8 : a8 = b8
   ·subst e8
    have H1 := Lib.hid (show ∀ w, Below W.heap.size W w → Calls Tryz.prog 24 #[.slice p2 a8.length c2, .slice q2 a8.length d2] w (EqP true w) from fun w hb => by have h := HC1.out w hb; rw [decide_eq_true rfl] at h; exact h)
    by_cases e9 : a9 = b9
    ·subst e9
     have HT := Lib.hid (HR.out.trans (decide_eq_true rfl))
     go_enter Tryz.func25, Tryz.ntmps25
     go_wp2_with (go_at_call 24; go_loud ((with_reducible refine (H1.out _ HB0.out).mono ?_); rintro e w1 ⟨rfl, hb1⟩; have HB1 := Lib.hid (HB0.out.step hb1); have HA1 := Lib.hid (HA0.out.below hb1); have HX1 := Lib.hid (HX0.out.below hb1); clear hb1; have x9 : w1.cell? ⟨W.heap.size, 3, none⟩ = some (.int .i64 a9) := HA1.out.cell 3; have y9 : w1.cell? ⟨W.heap.size + 1, 3, none⟩ = some (.int .i64 a9) := HX1.out.cell 3))
     go_ret
     exact ⟨(congrArg (fun z => Ending.returned (Value.bool z)) HT.out).symm, HB1.out⟩
    ·have hn := Lib.hid (show ¬ (⟨a6, a7, a8, a9⟩ : Tk) = (⟨a6, a7, a8, b9⟩ : Tk) from fun h => e9 (congrArg (Tk.fuel) h))
     have hb' : (a9 == b9) = false := by simpa using e9
     go_enter Tryz.func25, Tryz.ntmps25
     go_wp2_with (go_at_call 24; go_loud ((with_reducible refine (H1.out _ HB0.out).mono ?_); rintro e w1 ⟨rfl, hb1⟩; have HB1 := Lib.hid (HB0.out.step hb1); have HA1 := Lib.hid (HA0.out.below hb1); have HX1 := Lib.hid (HX0.out.below hb1); clear hb1; have x9 : w1.cell? ⟨W.heap.size, 3, none⟩ = some (.int .i64 a9) := HA1.out.cell 3; have y9 : w1.cell? ⟨W.heap.size + 1, 3, none⟩ = some (.int .i64 b9) := HX1.out.cell 3))
     go_ret
     exact ⟨(congrArg (fun z => Ending.returned (Value.bool z)) (HR.out.trans (decide_eq_false hn.out))).symm, HB1.out⟩
   ·have hn := Lib.hid (show ¬ (⟨a6, a7, a8, a9⟩ : Tk) = (⟨a6, a7, b8, b9⟩ : Tk) from fun h => e8 (congrArg (Tk.args) h))
    have H1 := Lib.hid (show ∀ w, Below W.heap.size W w → Calls Tryz.prog 24 #[.slice p2 a8.length c2, .slice q2 b8.length d2] w (EqP false w) from fun w hb => by have h := HC1.out w hb; rw [decide_eq_false e8] at h; exact h)
    go_enter Tryz.func25, Tryz.ntmps25
    go_wp2_with (go_at_call 24; go_loud ((with_reducible refine (H1.out _ HB0.out).mono ?_); rintro e w1 ⟨rfl, hb1⟩; have HB1 := Lib.hid (HB0.out.step hb1); have HA1 := Lib.hid (HA0.out.below hb1); have HX1 := Lib.hid (HX0.out.below hb1); clear hb1; have x9 : w1.cell? ⟨W.heap.size, 3, none⟩ = some (.int .i64 a9) := HA1.out.cell 3; have y9 : w1.cell? ⟨W.heap.size + 1, 3, none⟩ = some (.int .i64 b9) := HX1.out.cell 3))
    go_ret
    exact ⟨(congrArg (fun z => Ending.returned (Value.bool z)) (HR.out.trans (decide_eq_false hn.out))).symm, HB1.out⟩
  ·have hn := Lib.hid (show ¬ (⟨a6, a7, a8, a9⟩ : Tk) = (⟨a6, b7, b8, b9⟩ : Tk) from fun h => e7 (congrArg (Tk.fn) h))
   have hb' : (a7 == b7) = false := by simpa using e7
   go_enter Tryz.func25, Tryz.ntmps25
   go_wp2_with fail
   go_ret
   exact ⟨(congrArg (fun z => Ending.returned (Value.bool z)) (HR.out.trans (decide_eq_false hn.out))).symm, HB0.out⟩
 ·have hn := Lib.hid (show ¬ (⟨a6, a7, a8, a9⟩ : Tk) = (⟨b6, b7, b8, b9⟩ : Tk) from fun h => e6 (congrArg (Tk.path) h))
  have hb' := str_ne e6
  go_enter Tryz.func25, Tryz.ntmps25
  go_wp2_with fail
  go_ret
  exact ⟨(congrArg (fun z => Ending.returned (Value.bool z)) (HR.out.trans (decide_eq_false hn.out))).symm, HB0.out⟩
set_option maxRecDepth 100000 in
set_option maxHeartbeats 4000000 in
theorem rtsk_any {t u : Tk} {W : World} {B : Nat} {v v2 : Value} (hv : Rw 1 lI W B v t.args) (hu : Rw 1 lI W B v2 u.args) (hB : B ≤ W.heap.size) (hn : t.args.length ≤ 1000) :
  Calls Tryz.prog 31 #[.agg #[.string t.path, .int .i64 t.fn, v, .int .i64 t.fuel], .agg #[.string u.path, .int .i64 u.fn, v2, .int .i64 u.fuel]] W (EqP (decide (t = u)) W) := by
 have HC1 := Lib.hid (fun w (hb : Below W.heap.size W w) => req_int (hv.keep fun b o x hlt hx => Below.cellq hb (by omega) hx) (hu.keep fun b o x hlt hx => Below.cellq hb (by omega) hx) (Nat.le_trans hB hb.size) (by omega))
 obtain ⟨p2, c2, rfl⟩ := hv.slc
 obtain ⟨q2, d2, rfl⟩ := hu.slc
 clear hv hu hn
 obtain ⟨a6, a7, a8, a9⟩ := t
 obtain ⟨b6, b7, b8, b9⟩ := u
 dsimp only at *
 obtain ⟨r, hr⟩ : ∃ r : Bool, r = decide ((⟨a6, a7, a8, a9⟩ : Tk) = ⟨b6, b7, b8, b9⟩) := ⟨_, rfl⟩
 rw [← hr]
 have HR := Lib.hid hr
 clear hr
 have HB0 := Lib.hid (((Below.refl _ W).alloc (Nat.le_refl _) (.cells #[.string a6, .int .i64 a7, .slice p2 a8.length c2, .int .i64 a9] 25)).alloc (by simp) (.cells #[.string b6, .int .i64 b7, .slice q2 b8.length d2, .int .i64 b9] 25))
 have HA0 := Lib.hid ((Blk.new W 25 #[.string a6, .int .i64 a7, .slice p2 a8.length c2, .int .i64 a9]).alloc (.cells #[.string b6, .int .i64 b7, .slice q2 b8.length d2, .int .i64 b9] 25))
 have HX0 := Lib.hid (blk_new1 W (.cells #[.string a6, .int .i64 a7, .slice p2 a8.length c2, .int .i64 a9] 25) 25 #[.string b6, .int .i64 b7, .slice q2 b8.length d2, .int .i64 b9])
 by_cases e6 : a6 = b6
 ·subst e6
  have hs6 := str_of (a := a6) rfl
  by_cases e7 : a7 = b7
  ·subst e7
   by_cases e8 : a8 = b8
   ·subst e8
    have H1 := Lib.hid (show ∀ w, Below W.heap.size W w → Calls Tryz.prog 30 #[.slice p2 a8.length c2, .slice q2 a8.length d2] w (EqP true w) from fun w hb => by have h := HC1.out w hb; rw [decide_eq_true rfl] at h; exact h)
    by_cases e9 : a9 = b9
    ·subst e9
     have HT := Lib.hid (HR.out.trans (decide_eq_true rfl))
     go_enter Tryz.func31, Tryz.ntmps31
     go_wp2_with (go_at_call 30; go_loud ((with_reducible refine (H1.out _ HB0.out).mono ?_); rintro e w1 ⟨rfl, hb1⟩; have HB1 := Lib.hid (HB0.out.step hb1); have HA1 := Lib.hid (HA0.out.below hb1); have HX1 := Lib.hid (HX0.out.below hb1); clear hb1; have x9 : w1.cell? ⟨W.heap.size, 3, none⟩ = some (.int .i64 a9) := HA1.out.cell 3; have y9 : w1.cell? ⟨W.heap.size + 1, 3, none⟩ = some (.int .i64 a9) := HX1.out.cell 3))
     go_ret
     exact ⟨(congrArg (fun z => Ending.returned (Value.bool z)) HT.out).symm, HB1.out⟩
    ·have hn := Lib.hid (show ¬ (⟨a6, a7, a8, a9⟩ : Tk) = (⟨a6, a7, a8, b9⟩ : Tk) from fun h => e9 (congrArg (Tk.fuel) h))
     have hb' : (a9 == b9) = false := by simpa using e9
     go_enter Tryz.func31, Tryz.ntmps31
     go_wp2_with (go_at_call 30; go_loud ((with_reducible refine (H1.out _ HB0.out).mono ?_); rintro e w1 ⟨rfl, hb1⟩; have HB1 := Lib.hid (HB0.out.step hb1); have HA1 := Lib.hid (HA0.out.below hb1); have HX1 := Lib.hid (HX0.out.below hb1); clear hb1; have x9 : w1.cell? ⟨W.heap.size, 3, none⟩ = some (.int .i64 a9) := HA1.out.cell 3; have y9 : w1.cell? ⟨W.heap.size + 1, 3, none⟩ = some (.int .i64 b9) := HX1.out.cell 3))
     go_ret
     exact ⟨(congrArg (fun z => Ending.returned (Value.bool z)) (HR.out.trans (decide_eq_false hn.out))).symm, HB1.out⟩
   ·have hn := Lib.hid (show ¬ (⟨a6, a7, a8, a9⟩ : Tk) = (⟨a6, a7, b8, b9⟩ : Tk) from fun h => e8 (congrArg (Tk.args) h))
    have H1 := Lib.hid (show ∀ w, Below W.heap.size W w → Calls Tryz.prog 30 #[.slice p2 a8.length c2, .slice q2 b8.length d2] w (EqP false w) from fun w hb => by have h := HC1.out w hb; rw [decide_eq_false e8] at h; exact h)
    go_enter Tryz.func31, Tryz.ntmps31
    go_wp2_with (go_at_call 30; go_loud ((with_reducible refine (H1.out _ HB0.out).mono ?_); rintro e w1 ⟨rfl, hb1⟩; have HB1 := Lib.hid (HB0.out.step hb1); have HA1 := Lib.hid (HA0.out.below hb1); have HX1 := Lib.hid (HX0.out.below hb1); clear hb1; have x9 : w1.cell? ⟨W.heap.size, 3, none⟩ = some (.int .i64 a9) := HA1.out.cell 3; have y9 : w1.cell? ⟨W.heap.size + 1, 3, none⟩ = some (.int .i64 b9) := HX1.out.cell 3))
    go_ret
    exact ⟨(congrArg (fun z => Ending.returned (Value.bool z)) (HR.out.trans (decide_eq_false hn.out))).symm, HB1.out⟩
  ·have hn := Lib.hid (show ¬ (⟨a6, a7, a8, a9⟩ : Tk) = (⟨a6, b7, b8, b9⟩ : Tk) from fun h => e7 (congrArg (Tk.fn) h))
   have hb' : (a7 == b7) = false := by simpa using e7
   go_enter Tryz.func31, Tryz.ntmps31
   go_wp2_with fail
   go_ret
   exact ⟨(congrArg (fun z => Ending.returned (Value.bool z)) (HR.out.trans (decide_eq_false hn.out))).symm, HB0.out⟩
 ·have hn := Lib.hid (show ¬ (⟨a6, a7, a8, a9⟩ : Tk) = (⟨b6, b7, b8, b9⟩ : Tk) from fun h => e6 (congrArg (Tk.path) h))
  have hb' := str_ne e6
  go_enter Tryz.func31, Tryz.ntmps31
  go_wp2_with fail
  go_ret
  exact ⟨(congrArg (fun z => Ending.returned (Value.bool z)) (HR.out.trans (decide_eq_false hn.out))).symm, HB0.out⟩
end Go.Proofs.YtghbjknpffiaiaaGreat

namespace Go.Proofs.YtghbjknpffiaiaaGreat
open Go.RowKit Wire Ms
set_option linter.unusedVariables false
set_option linter.unusedSimpArgs false
def stL (l : Ls) : ByteArray := ⟨l.toArray⟩
theorem bl_st (l : Ls) : Ms.bl (stL l) = l := by unfold Ms.bl stL; simp
theorem st_app (a b : Ls) : stL a ++ stL b = stL (a ++ b) := Ms.bl_inj (by rw [Ms.bl_app, bl_st, bl_st, bl_st])
theorem st_size (a : Ls) : (stL a).size = a.length := by rw [← Ms.bl_len, bl_st]
theorem st_leb (x : Int) : Num.lebS x = stL (wU x) := Ms.bl_inj (by rw [bl_leb, bl_st]; rfl)
theorem st_int (x : Int) : intS x = stL (wI x) := Ms.bl_inj (by rw [bl_intS, bl_st])
theorem st_text (t : ByteArray) : textS t = stL (wT t) := Ms.bl_inj (by rw [bl_textS, bl_st])
theorem st_nm (n : Nm) : nmS n.job n.path = stL (wNm n) := by unfold nmS wNm; rw [st_leb, st_text, st_app]
theorem st_rs (r : Rs) : rsS r.val r.err = stL (wRs r) := by unfold rsS wRs; rw [st_int, st_leb, st_app]
theorem wU_len {x : Int} (h : U64 x) : (wU x).length ≤ 10 := by rw [← st_size, ← st_leb]; exact lebS_size (by unfold U64 at h; omega)
theorem wI_len {x : Int} (h : I64 x) : (wI x).length ≤ 10 := by rw [← st_size, ← st_int]; exact ms_intS_size h
theorem wT_len (t : ByteArray) (h : t.size ≤ 140737488355328) : (wT t).length ≤ t.size + 10 := by
 unfold wT; rw [List.length_append, Ms.bl_len]; have := wU_len (x := (t.size : Int)) (by unfold U64; omega); unfold wU at this; rw [Int.toNat_natCast] at this; omega
theorem wL_le {α : Type} {w : α → Ls} {c : Nat} {l : List α} (h : ∀ x ∈ l, (w x).length ≤ c) : (wL w l).length ≤ l.length * c := by
 unfold wL
 induction l with
 | nil => exact Nat.zero_le _
 | cons a l ih =>
  rw [List.flatMap_cons, List.length_append, List.length_cons, Nat.succ_mul]
  have := h a List.mem_cons_self
  have := ih fun x hx => h x (List.mem_cons_of_mem _ hx)
  omega
theorem wL_succ {α : Type} {w : α → Ls} {l : List α} {i : Nat} (h : i < l.length) : wL w (l.take (i + 1)) = wL w (l.take i) ++ w l[i] := by
 unfold wL; rw [List.take_succ_eq_append_getElem h, List.flatMap_append]; simp
set_option maxRecDepth 100000 in
theorem code26_any (x : Int) (w : World) : Calls Tryz.prog 22 #[.int .i64 x] w (EqP (!nb x 9999) w) := by
 by_cases h1 : x < 0
 ·have e : nb x 9999 = true := by unfold nb; rw [decide_eq_true h1]; rfl
  have h1' : ¬ (0 : Int) ≤ x := by omega
  rw [e]
  clear h1 e
  go_enter Tryz.func22, Tryz.ntmps22
  go_wp2_with fail
  go_ret
  exact ⟨rfl, Below.refl _ _⟩
 ·have h1' : (0 : Int) ≤ x := by omega
  by_cases h2 : x ≤ 9999
  ·have e : nb x 9999 = false := nb_false.2 ⟨h1', h2⟩
   rw [e]
   clear h1 e
   go_enter Tryz.func22, Tryz.ntmps22
   go_wp2_with fail
   go_ret
   exact ⟨rfl, Below.refl _ _⟩
  ·have e : nb x 9999 = true := by unfold nb; rw [decide_eq_true (show (9999 : Int) < x by omega), Bool.or_true]
   rw [e]
   clear h1 e
   go_enter Tryz.func22, Tryz.ntmps22
   go_wp2_with fail
   go_ret
   exact ⟨rfl, Below.refl _ _⟩
def resOk (r : Rs) : Bool := !nb r.err 9999 && resB r
set_option maxRecDepth 100000 in
theorem result26_any (r : Rs) (W : World) : Calls Tryz.prog 21 #[.agg #[.int .i64 r.val, .int .i64 r.err]] W (EqP (resOk r) W) := by
 obtain ⟨v, x⟩ := r
 unfold resOk resB
 dsimp only
 have HB := Lib.hid ((Below.refl _ W).alloc (Nat.le_refl _) (.cells #[.int .i64 v, .int .i64 x] 32))
 have HA := Lib.hid (Blk.new W 32 #[.int .i64 v, .int .i64 x])
 have HC := Lib.hid (fun w => code26_any x w)
 cases hn : nb x 9999 with
 | true =>
  rw [hn] at HC
  clear hn
  go_enter Tryz.func21, Tryz.ntmps21
  go_wp2_with (go_at_call 22; go_loud ((with_reducible refine (HC.out _).mono ?_); rintro e w1 ⟨rfl, hb1⟩; have HB1 := Lib.hid (HB.out.step hb1); clear hb1))
  go_ret
  exact ⟨rfl, HB1.out⟩
 | false =>
  rw [hn] at HC
  clear hn
  rw [show (!false && (x == 0 || v == 0)) = (x == 0 || v == 0) from Bool.true_and _]
  cases he : x == 0 with
  | true =>
   go_enter Tryz.func21, Tryz.ntmps21
   go_wp2_with (go_at_call 22; go_loud ((with_reducible refine (HC.out _).mono ?_); rintro e w1 ⟨rfl, hb1⟩; have HB1 := Lib.hid (HB.out.step hb1); have x1 : w1.cell? ⟨W.heap.size, 1, none⟩ = some (.int .i64 x) := (HA.out.below hb1).cell 1; clear hb1))
   go_ret
   exact ⟨rfl, HB1.out⟩
  | false =>
   cases hv : v == 0 with
   | true =>
    go_enter Tryz.func21, Tryz.ntmps21
    go_wp2_with (go_at_call 22; go_loud ((with_reducible refine (HC.out _).mono ?_); rintro e w1 ⟨rfl, hb1⟩; have HB1 := Lib.hid (HB.out.step hb1); have x0 : w1.cell? ⟨W.heap.size, 0, none⟩ = some (.int .i64 v) := (HA.out.below hb1).cell 0; have x1 : w1.cell? ⟨W.heap.size, 1, none⟩ = some (.int .i64 x) := (HA.out.below hb1).cell 1; clear hb1))
    go_ret
    exact ⟨rfl, HB1.out⟩
   | false =>
    go_enter Tryz.func21, Tryz.ntmps21
    go_wp2_with (go_at_call 22; go_loud ((with_reducible refine (HC.out _).mono ?_); rintro e w1 ⟨rfl, hb1⟩; have HB1 := Lib.hid (HB.out.step hb1); have x0 : w1.cell? ⟨W.heap.size, 0, none⟩ = some (.int .i64 v) := (HA.out.below hb1).cell 0; have x1 : w1.cell? ⟨W.heap.size, 1, none⟩ = some (.int .i64 x) := (HA.out.below hb1).cell 1; clear hb1))
    go_ret
    exact ⟨rfl, HB1.out⟩
set_option maxRecDepth 100000 in
set_option maxHeartbeats 2000000 in
theorem ints26_any {l : List Int} {w : World} {B : Nat} {v : Value} (hv : Rw 1 lI w B v l) (hB : B ≤ w.heap.size) (ht : ∀ x ∈ l, I64 x) (hl : l.length ≤ 1000) : Calls Tryz.prog 47 #[v] w (SB (stL (wLs wI l)) w) := by
 have HV := Lib.hid hv
 have HBB := Lib.hid hB
 have HT := Lib.hid ht
 have HL := Lib.hid hl
 obtain ⟨p, c, rfl⟩ := hv.slc
 have HU := Lib.hid (fun w => u26_any (l.length : Int) (by omega) w)
 have hlen : (wLs wI l).length = (Num.leb l.length).length + (wL wI l).length := by unfold wLs; rw [List.length_append]
 clear hv hB ht hl hlen
 go_enter Tryz.func47, Tryz.ntmps47
 go_wp2_with (go_at_call 44; go_loud ((with_reducible refine (HU.out _).mono ?_); rintro e w1 ⟨rfl, hb1⟩; have HB1 := Lib.hid hb1; clear hb1))
 go_loopw [3, 4] (fun s u wr => ∃ i : Nat, i ≤ l.length ∧ s = .string (stL (Num.leb l.length ++ wL wI (l.take i))) ∧ u = .int .i64 i ∧ Below w.heap.size w wr) (fun s u _ => ((l.length : Int) - intOf u).toNat)
 case atStart => exact ⟨0, Nat.zero_le _, by rw [st_leb]; unfold wU wL; simp, rfl, HB1.out⟩
 case round =>
  obtain ⟨i, hi, rfl, rfl, hb⟩ := hrel
  have HB2 := Lib.hid hb
  by_cases hil : i < l.length
  ·have hil' : (i : Int) < (l.length : Int) := by omega
   have hi0 : (0 : Int) ≤ (i : Int) := by omega
   obtain ⟨g, off, rfl, hg, hx⟩ := HV.out.ptr hil
   have x0 := Below.cellq hb (by have := HBB.out; omega) (hx 0 _ rfl)
   have HE : Hid (wrap64 ((i : Int) + 1) = ((i + 1 : Nat) : Int)) := Lib.hid (wr64 rfl (by have := HL.out; omega))
   have h64 := HT.out _ (List.getElem_mem hil)
   have HI := Lib.hid (fun w => rint3_any l[i] h64 w)
   have hz : (stL (Num.leb l.length ++ wL wI (l.take i))).size + (intS l[i]).size ≤ 9223372036854775807 := by
    rw [st_size, List.length_append]
    have h1 := ms_intS_size h64
    have h2 := wU_len (x := (l.length : Int)) (by unfold U64; have := HL.out; omega)
    have h3 := wL_le (w := wI) (c := 10) (l := l.take i) (fun x hx => wI_len (HT.out _ (List.mem_of_mem_take hx)))
    rw [List.length_take] at h3
    have e : wU (l.length : Int) = Num.leb l.length := by unfold wU; rw [Int.toNat_natCast]
    rw [e] at h2
    have := HL.out
    omega
   have HS : Hid (stL (Num.leb l.length ++ wL wI (l.take i)) ++ intS l[i] = stL (Num.leb l.length ++ wL wI (l.take (i + 1)))) := Lib.hid (by rw [st_int, st_app, wL_succ hil, List.append_assoc])
   have HIL := Lib.hid hil
   simp only [Nat.mul_one, Nat.add_zero] at x0
   generalize stL (Num.leb l.length ++ wL wI (l.take i)) = s0 at *
   generalize l[i] = y at *
   clear hx hb h64 hil hi
   generalize intS y = s1 at *
   go_wp2_with (go_at_call 61; go_loud ((with_reducible refine (HI.out _).mono ?_); rintro e w3 ⟨rfl, hb3⟩; have HB3 := Lib.hid (HB2.out.step hb3); clear hb3))
   go_roundw
   case rel => (try rw [HE.out]); exact ⟨i + 1, HIL.out, congrArg Value.string HS.out, rfl, HB3.out⟩
   case measure => (try rw [HE.out]); simp [intOf]; have := HIL.out; omega
  ·have : i = l.length := by omega
   subst this
   have HS : Hid (stL (wLs wI l) = stL (Num.leb l.length ++ wL wI (l.take l.length))) := Lib.hid (by rw [List.take_length]; rfl)
   clear hb hil
   generalize stL (Num.leb l.length ++ wL wI (l.take l.length)) = s0 at *
   go_wp2_with fail
   go_ret
   exact ⟨congrArg (fun z => Ending.returned (Value.string z)) HS.out.symm, HB2.out⟩
end Go.Proofs.YtghbjknpffiaiaaGreat
