import Derived.Test.YtghbjknpffiaiaaGreatMgj
import Derived.Test.YtghbjknpffiaiaaGreatMtQ
import Derived.Test.YtghbjknpffiaiaaGreatMgf
import Derived.Deep.MidRow
namespace Go.Proofs.YtghbjknpffiaiaaGreat
open Go.RowKit Wire Ms
set_option linter.unusedVariables false
set_option linter.unusedSimpArgs false
def rif (k : Int) (p : Pt) (x : M × RS) : M × RS := if hasK k p then rp p x.1 x.2 else x
def RwP (S : Nat → Prop) {α : Type} (sz : Nat) (LAY : α → List Value) (w : World) (v : Value) (l : List α) : Prop :=
 ∃ p c, v = .slice p l.length c ∧ (0 < l.length → ∃ b off, p = some ⟨b, off, none⟩ ∧ (S b ∧ b < w.heap.size) ∧ ∀ i (h : i < l.length) j x, (LAY l[i])[j]? = some x → w.cell? ⟨b, off + i * sz + j, none⟩ = some x)
structure MRP (S : Nat → Prop) (w : World) (m : M) (v : VS) : Prop where
 ri : RwP S 1 lI w v.i m.input
 ra : RwP S 1 lI w v.a m.task.args
 rn : RwP S 5 lE w v.n m.ents
 rh : RwP S 1 lU w v.h m.epochs
 rm : RwP S 2 lN w v.m m.names
 rc : RwP S 1 lI w v.c m.codes
theorem RwP.rw {S : Nat → Prop} {α : Type} {sz : Nat} {LAY : α → List Value} {w : World} {v : Value} {l : List α} (h : RwP S sz LAY w v l) : Rw sz LAY w w.heap.size v l := by
 obtain ⟨p, c, h1, h2⟩ := h
 refine ⟨p, c, h1, fun h => ?_⟩
 obtain ⟨b, off, h3, h4, h5⟩ := h2 h
 exact ⟨b, off, h3, h4.2, h5⟩
theorem MRP.mr {S : Nat → Prop} {w : World} {m : M} {v : VS} (h : MRP S w m v) : MR w w.heap.size m v := ⟨h.ri.rw, h.ra.rw, h.rn.rw, h.rh.rw, h.rm.rw, h.rc.rw⟩
theorem RwP.keep {S S' : Nat → Prop} {α : Type} {sz : Nat} {LAY : α → List Value} {w w' : World} {v : Value} {l : List α} (h : RwP S sz LAY w v l) (hk : ∀ b o x, S b → b < w.heap.size → w.cell? ⟨b, o, none⟩ = some x → w'.cell? ⟨b, o, none⟩ = some x) (hs : w.heap.size ≤ w'.heap.size) (hS : ∀ b, S b → b < w.heap.size → S' b) : RwP S' sz LAY w' v l := by
 obtain ⟨p, c, h1, h2⟩ := h
 refine ⟨p, c, h1, fun h => ?_⟩
 obtain ⟨b, off, h3, h4, h5⟩ := h2 h
 exact ⟨b, off, h3, ⟨hS b h4.1 h4.2, by omega⟩, fun i hi j x hx => hk _ _ _ h4.1 h4.2 (h5 i hi j x hx)⟩
theorem MRP.keep {S S' : Nat → Prop} {w w' : World} {m : M} {v : VS} (h : MRP S w m v) (hk : ∀ b o x, S b → b < w.heap.size → w.cell? ⟨b, o, none⟩ = some x → w'.cell? ⟨b, o, none⟩ = some x) (hs : w.heap.size ≤ w'.heap.size) (hS : ∀ b, S b → b < w.heap.size → S' b) : MRP S' w' m v :=
 ⟨h.ri.keep hk hs hS, h.ra.keep hk hs hS, h.rn.keep hk hs hS, h.rh.keep hk hs hS, h.rm.keep hk hs hS, h.rc.keep hk hs hS⟩
theorem RwP.own {S : Nat → Prop} {α : Type} {sz : Nat} {LAY : α → List Value} {TX : TypeId} {w : World} {v : Value} {l : List α} {base : Nat} (hsz : ∀ x, (LAY x).length = sz) (h : w.ownsRow base TX sz v l.length (l.flatMap LAY)) (hS : ∀ k, base ≤ k → S k) : RwP S sz LAY w v l := by
 obtain ⟨p, c, h1⟩ := owns_slice h
 refine ⟨p, c, h1, fun hn => ?_⟩
 obtain ⟨b, cap, h2, h3, h4, _, h6⟩ := owns_cells h hn
 rw [h1] at h2
 injection h2 with h2 _ _
 refine ⟨b, 0, h2, ⟨hS b h3, h4⟩, fun i hi j x hx => ?_⟩
 have hj : j < sz := by
  rw [← hsz l[i]]
  exact (List.getElem?_eq_some_iff.1 hx).1
 have hlt : i * sz + j < l.length * sz := by
  have h7 := Nat.mul_le_mul_right sz (show i + 1 ≤ l.length from hi)
  rw [Nat.succ_mul] at h7
  omega
 rw [Nat.zero_add, h6 _ hlt, flat_at LAY sz hsz l i j hi hj, hx]
structure LQ (S : Nat → Prop) (W : World) (b : Nat) (t : M) (u : VS) (q : RS) (w : World) : Prop where
 rq : RQ w b q
 gt : Blk w W.heap.size 34 (mcells t u)
 gr : ∃ A, Blk w (W.heap.size + 1) 34 A ∧ A.size = 19
 rows : MRP S w t u
 on : Only (· = b) W w
 lt : b < W.heap.size
 sz : W.heap.size + 2 ≤ w.heap.size
 ne : ∀ k, S k → k ≠ b ∧ k ≠ W.heap.size ∧ k ≠ W.heap.size + 1
 up : ∀ k, W.heap.size + 2 ≤ k → S k
theorem LQ.step {S : Nat → Prop} {W w w' : World} {b : Nat} {t : M} {u : VS} {q : RS} (x : LQ S W b t u q w) (hb : Below w.heap.size w w') : LQ S W b t u q w' := by
 obtain ⟨A, h1, h2⟩ := x.gr
 exact ⟨RR.below x.rq hb, x.gt.below hb, ⟨A, h1.below hb, h2⟩, x.rows.keep (fun b o y _ hlt hy => Below.cellq hb hlt hy) hb.size (fun _ h _ => h), x.on.step hb, x.lt, Nat.le_trans x.sz hb.size, x.ne, x.up⟩
theorem LQ.read {S : Nat → Prop} {W w w' : World} {b : Nat} {t : M} {u : VS} {q q' : RS} (x : LQ S W b t u q w) (hq : RQ w' b q') (ho : Only (· = b) w w') : LQ S W b t u q' w' := by
 obtain ⟨A, h1, h2⟩ := x.gr
 have hl := x.lt
 exact ⟨hq, x.gt.only ho (by omega), ⟨A, h1.only ho (by omega), h2⟩, x.rows.keep (fun b' o y hS _ hy => Only.cellq ho hy (fun e => (x.ne b' hS).1 e)) ho.size (fun _ h _ => h), x.on.trans ho, x.lt, Nat.le_trans x.sz ho.size, x.ne, x.up⟩
structure LR (S : Nat → Prop) {α : Type} (R : RS → α × RS) (TX : TypeId) (sz : Nat) (LAY : α → List Value) (W wl : World) (b n off : Nat) (t : M) (u : VS) (q1 : RS) (ys : List α) (qi : RS) (v : Value) (w : World) : Prop where
 l0 : LQ S W b t u q1 wl
 rq : RQ w b qi
 gt : Blk w W.heap.size 34 ((mcells t u).setIfInBounds off v)
 gr : ∃ A, Blk w (W.heap.size + 1) 34 A ∧ A.size = 19
 kp : ∀ b' o y, S b' → b' < wl.heap.size → wl.cell? ⟨b', o, none⟩ = some y → w.cell? ⟨b', o, none⟩ = some y
 row : w.ownsRow wl.heap.size TX sz v ys.length (ys.flatMap LAY)
 on : Only (· = b) W w
 le2 : wl.heap.size ≤ w.heap.size
 eq : rdL R n q1 = (ys ++ (rdL R (n - ys.length) qi).1, (rdL R (n - ys.length) qi).2)
 le : ys.length ≤ n
section
variable {S : Nat → Prop} {α : Type} {R : RS → α × RS} {TX : TypeId} {sz : Nat} {LAY : α → List Value} {W wl w w2 w3 : World} {b n off : Nat} {t : M} {u : VS} {q1 qi : RS} {ys : List α} {v v3 : Value}
theorem LR.start (x : LQ S W b t u q1 wl) (h0 : (mcells t u)[off]? = some (.slice none 0 0)) : LR S R TX sz LAY W wl b n off t u q1 [] q1 (.slice none 0 0) wl :=
 ⟨x, x.rq, by
  rw [show (mcells t u).setIfInBounds off (.slice none 0 0) = mcells t u from by
   apply Array.ext_getElem?
   intro j
   rw [Array.getElem?_setIfInBounds]
   split
   ·next e => subst e; rw [h0, if_pos (Array.getElem?_eq_some_iff.1 h0).1]
   ·rfl]
  exact x.gt, x.gr, fun _ _ _ _ _ h => h, ⟨by simp, .inl ⟨rfl, rfl⟩⟩, x.on, Nat.le_refl _, by simp, Nat.zero_le _⟩
def Ch (b base : Nat) (w w' : World) : Prop := Only (fun k => k = b ∨ base ≤ k) w w'
theorem Ch.read {b base : Nat} {w w' : World} (h : Only (· = b) w w') : Ch b base w w' := h.mono fun k _ e => .inl e
theorem LR.next (h : LR S R TX sz LAY W wl b n off t u q1 ys qi v w) (hn : ys.length < n) (he : qi.e = 0) (hp : RQ w3 b (R qi).2) (hx : Ch b wl.heap.size w w3)
  (hr : w3.ownsRow wl.heap.size TX sz v3 (ys.length + 1) (ys.flatMap LAY ++ LAY (R qi).1)) : LR S R TX sz LAY W wl b n off t u q1 (ys ++ [(R qi).1]) (R qi).2 v3 (w3.setCell ⟨W.heap.size, off, none⟩ v3) := by
 obtain ⟨A, h1, h2⟩ := h.gr
 have hl := h.l0.lt
 have hz := h.l0.sz
 have hz2 := h.le2
 have hz4 := hx.size
 have hw0 := h.on.size
 have g3 := h.gt.only hx (by omega)
 have gr3 := h1.only hx (by omega)
 have o7 : Only (· = W.heap.size) w3 (w3.setCell ⟨W.heap.size, off, none⟩ v3) := (Only.refl _ w3).set1
 have b7 : Below W.heap.size w3 (w3.setCell ⟨W.heap.size, off, none⟩ v3) := Only.below o7 (by omega) fun k e => by have e' : k = W.heap.size := e; omega
 have on3 : Only (· = b) W w3 := ⟨hx.os.trans h.on.os, hx.tape.trans h.on.tape, hx.output.trans h.on.output, Nat.le_trans h.on.size hx.size, fun k hk hne => by
  rw [hx.block k (by omega) (fun e => e.elim (fun e => hne e) (fun e => by omega))]
  exact h.on.block k hk hne⟩
 refine ⟨h.l0, RR.only hp o7 (by omega), ?_, ⟨A, gr3.only o7 (by omega), h2⟩, fun b' o y hS hlt hy => ?_, ?_, on3.stepB b7 (Nat.le_refl _), by have := o7.size; omega, ?_, by simp; omega⟩
 ·have := g3.set off v3
  rwa [Array.setIfInBounds_setIfInBounds] at this
 ·have hne := h.l0.ne b' hS
  exact Only.cellq o7 (Only.cellq hx (h.kp b' o y hS hlt hy) (fun e => e.elim (fun e => hne.1 e) (fun e => by omega))) (fun e => hne.2.1 e)
 ·rw [List.length_append, List.flatMap_append]
  refine owns_only (by simpa using hr) o7 (fun j hj e => by have := (owns_type hr hj).choose_spec.2.1; have e' : j = W.heap.size := e; omega)
 ·rw [h.eq, show n - ys.length = (n - (ys.length + 1)) + 1 from by omega, r_step he]
  have e : n - (ys ++ [(R qi).1]).length = n - (ys.length + 1) := by simp
  rw [e]
  simp
theorem LR.rows (h : LR S R TX sz LAY W wl b n off t u q1 ys qi v w) : MRP S w t u := h.l0.rows.keep (fun b o y hS hlt hy => h.kp b o y hS hlt hy) h.le2 (fun _ h _ => h)
theorem LR.fin (h : LR S R TX sz LAY W wl b n off t u q1 ys qi v w) (he : ¬ ys.length < n ∨ qi.e ≠ 0) : rdL R n q1 = (ys, qi) := by
 rw [h.eq]
 rcases he with he | he
 ·rw [show n - ys.length = 0 by have := h.le; omega]; simp [rdL]
 ·rw [r_stop he]; simp
theorem LR.own (h : LR S R TX sz LAY W wl b n off t u q1 ys qi v w) (hsz : ∀ x, (LAY x).length = sz) : RwP S sz LAY w v ys := RwP.own hsz h.row fun k hk => h.l0.up k (by have := h.l0.sz; omega)
end
section
variable {S : Nat → Prop} {α : Type} {R : RS → α × RS} {TX : TypeId} {sz : Nat} {LAY : α → List Value} {W wl w w2 w3 : World} {b n off : Nat} {t : M} {u : VS} {q1 qi q2 : RS} {ys : List α} {v : Value}
theorem LR.mid (h : LR S R TX sz LAY W wl b n off t u q1 ys qi v w) (ho : Only (· = b) w w2) : Blk w2 W.heap.size 34 ((mcells t u).setIfInBounds off v) ∧ w2.ownsRow wl.heap.size TX sz v ys.length (ys.flatMap LAY) ∧ wl.heap.size ≤ w2.heap.size := by
 have hl := h.l0.lt
 have hz := h.l0.sz
 exact ⟨h.gt.only ho (by omega), owns_only h.row ho (fun j hj e => by have := (owns_type h.row hj).choose_spec.2.1; have e' : j = b := e; omega), Nat.le_trans h.le2 ho.size⟩
theorem LR.app (h : LR S R TX sz LAY W wl b n off t u q1 ys qi v w) (ho : Only (· = b) w w2) (hv : Only (fun k => v.ownBlock = some k) w2 w3) (hq : RQ w2 b q2) : RQ w3 b q2 ∧ Ch b wl.heap.size w w3 ∧ Blk w3 W.heap.size 34 ((mcells t u).setIfInBounds off v) := by
 have hl := h.l0.lt
 have hz := h.l0.sz
 have hm := h.mid ho
 have hb : ∀ k, v.ownBlock = some k → wl.heap.size ≤ k := fun k hk => (owns_type hm.2.1 hk).choose_spec.2.1
 exact ⟨RR.only hq hv (fun e => by have := hb _ e; omega), Only.trans (Ch.read ho) (hv.mono fun k _ e => .inr (hb k e)), hm.1.only hv (fun e => by have := hb _ e; omega)⟩
end
def LS (S : Nat → Prop) (W : World) (b : Nat) (x : M × RS) (ps : List Pt) (w : World) : Prop := ∃ u, LQ S W b x.1 u x.2 w ∧ ∀ p ∈ ps, vp p u = nilV
theorem lsN {S : Nat → Prop} {W wl w : World} {b n : Nat} {t : M} {u : VS} {q qi : RS} {v : Value} {k : Int} {ps : List Pt} {ys : List En} (hk : hasK k .N = true) (hn : cV 128 q = n) (hp : ∀ p ∈ ps, p ≠ .N ∧ vp p u = nilV)
  (h : LR S rEn 54 5 lE W wl b n 11 t u (cS 128 q) ys qi v w) (he : ¬ ys.length < n ∨ qi.e ≠ 0) : LS S W b (rif k .N (t, q)) ps w := by
 have e : rL 128 rEn q = (ys, qi) := by unfold rL; rw [hn]; exact h.fin he
 have r := h.rows
 have e2 : rp .N t q = ({ t with ents := ys }, qi) := by show ({ t with ents := (rL 128 rEn q).1 }, (rL 128 rEn q).2) = _; rw [e]
 unfold rif
 rw [if_pos hk, e2]
 exact ⟨⟨u.i, u.a, v, u.h, u.m, u.c⟩, ⟨h.rq, h.gt, h.gr, ⟨r.ri, r.ra, h.own (fun _ => rfl), r.rh, r.rm, r.rc⟩, h.on, h.l0.lt, Nat.le_trans h.l0.sz h.le2, h.l0.ne, h.l0.up⟩, fun p hm => by
  obtain ⟨h1, h2⟩ := hp p hm
  rw [← h2]
  cases p <;> first | rfl | exact absurd rfl h1⟩
theorem lsH {S : Nat → Prop} {W wl w : World} {b n : Nat} {t : M} {u : VS} {q qi : RS} {v : Value} {k : Int} {ps : List Pt} {ys : List Int} (hk : hasK k .H = true) (hn : cV 128 q = n) (hp : ∀ p ∈ ps, p ≠ .H ∧ vp p u = nilV)
    (h : LR S (rU 281474976710656) 22 1 lU W wl b n 12 t u (cS 128 q) ys qi v w) (he : ¬ ys.length < n ∨ qi.e ≠ 0) : LS S W b (rif k .H (t, q)) ps w := by
   have e : rL 128 (rU 281474976710656) q = (ys, qi) := by unfold rL; rw [hn]; exact h.fin he
   have r := h.rows
   have e2 : rp .H t q = ({ t with epochs := ys }, qi) := by show ({ t with epochs := (rL 128 (rU 281474976710656) q).1 }, (rL 128 (rU 281474976710656) q).2) = _; rw [e]
   unfold rif
   rw [if_pos hk, e2]
   exact ⟨⟨u.i, u.a, u.n, v, u.m, u.c⟩, ⟨h.rq, h.gt, h.gr, ⟨r.ri, r.ra, r.rn, h.own (fun _ => rfl), r.rm, r.rc⟩, h.on, h.l0.lt, Nat.le_trans h.l0.sz h.le2, h.l0.ne, h.l0.up⟩, fun p hm => by
    obtain ⟨h1, h2⟩ := hp p hm
    rw [← h2]
    cases p <;> first | rfl | exact absurd rfl h1⟩
theorem lsA {S : Nat → Prop} {W wl w : World} {b n : Nat} {t : M} {u : VS} {q qi : RS} {v : Value} {k : Int} {ps : List Pt} {ys : List Nm} (hk : hasK k .A = true) (hn : cV 128 q = n) (hp : ∀ p ∈ ps, p ≠ .A ∧ vp p u = nilV)
      (h : LR S rNm 52 2 lN W wl b n 13 t u (cS 128 q) ys qi v w) (he : ¬ ys.length < n ∨ qi.e ≠ 0) : LS S W b (rif k .A (t, q)) ps w := by
     have e : rL 128 rNm q = (ys, qi) := by unfold rL; rw [hn]; exact h.fin he
     have r := h.rows
     have e2 : rp .A t q = ({ t with names := ys }, qi) := by show ({ t with names := (rL 128 rNm q).1 }, (rL 128 rNm q).2) = _; rw [e]
     unfold rif
     rw [if_pos hk, e2]
     exact ⟨⟨u.i, u.a, u.n, u.h, v, u.c⟩, ⟨h.rq, h.gt, h.gr, ⟨r.ri, r.ra, r.rn, r.rh, h.own (fun _ => rfl), r.rc⟩, h.on, h.l0.lt, Nat.le_trans h.l0.sz h.le2, h.l0.ne, h.l0.up⟩, fun p hm => by
      obtain ⟨h1, h2⟩ := hp p hm
      rw [← h2]
      cases p <;> first | rfl | exact absurd rfl h1⟩
theorem lsC {S : Nat → Prop} {W wl w : World} {b n : Nat} {t : M} {u : VS} {q qi : RS} {v : Value} {k : Int} {ps : List Pt} {ys : List Int} (hk : hasK k .C = true) (hn : cV 128 q = n) (hp : ∀ p ∈ ps, p ≠ .C ∧ vp p u = nilV)
        (h : LR S (rU 9999) 30 1 lI W wl b n 14 t u (cS 128 q) ys qi v w) (he : ¬ ys.length < n ∨ qi.e ≠ 0) : LS S W b (rif k .C (t, q)) ps w := by
       have e : rL 128 (rU 9999) q = (ys, qi) := by unfold rL; rw [hn]; exact h.fin he
       have r := h.rows
       have e2 : rp .C t q = ({ t with codes := ys }, qi) := by show ({ t with codes := (rL 128 (rU 9999) q).1 }, (rL 128 (rU 9999) q).2) = _; rw [e]
       unfold rif
       rw [if_pos hk, e2]
       exact ⟨⟨u.i, u.a, u.n, u.h, u.m, v⟩, ⟨h.rq, h.gt, h.gr, ⟨r.ri, r.ra, r.rn, r.rh, r.rm, h.own (fun _ => rfl)⟩, h.on, h.l0.lt, Nat.le_trans h.l0.sz h.le2, h.l0.ne, h.l0.up⟩, fun p hm => by
        obtain ⟨h1, h2⟩ := hp p hm
        rw [← h2]
        cases p <;> first | rfl | exact absurd rfl h1⟩
theorem ls_not {S : Nat → Prop} {W w : World} {b : Nat} {t : M} {u : VS} {q : RS} {k : Int} {Y : Pt} {ps ps' : List Pt} (hk : hasK k Y = false) (h : LQ S W b t u q w) (hp : ∀ p ∈ ps, vp p u = nilV) (hs : ∀ p ∈ ps', p ∈ ps) : LS S W b (rif k Y (t, q)) ps' w := by
 unfold rif
 rw [if_neg (by rw [hk]; decide)]
 exact ⟨u, h, fun p hm => hp p (hs p hm)⟩
def rls (k : Int) (x : M × RS) : M × RS := rif k .C (rif k .A (rif k .H (rif k .N x)))
theorem rif_kind (k : Int) (p : Pt) (x : M × RS) : (rif k p x).1.kind = x.1.kind := by
 unfold rif
 split
 ·cases p <;> rfl
 ·rfl
def SW (S0 : Nat → Prop) (W : World) : Nat → Prop := fun k => S0 k ∧ k ≠ W.heap.size ∧ k ≠ W.heap.size + 1
theorem LQ.init {S0 : Nat → Prop} {W : World} {b : Nat} {m : M} {u : VS} {q : RS} (hq : RQ W b q) (hr : MRP S0 W m u) (hS1 : ∀ k, S0 k → k ≠ b) (hS2 : ∀ k, W.heap.size ≤ k → S0 k) :
  LQ (SW S0 W) W b m u q ((W.alloc (.cells (mcells m u) 34)).alloc (.cells #[.int .u8 0, .int .u64 0, .string ⟨#[]⟩, .string ⟨#[]⟩, .slice none 0 0, .int .i64 0, .string ⟨#[]⟩, .int .i64 0, .slice none 0 0, .int .i64 0, .int .u64 0, .slice none 0 0, .slice none 0 0, .slice none 0 0, .slice none 0 0, .int .u8 0, .int .i64 0, .int .i64 0, .int .i64 0] 34)) := by
 have h1 : (W.alloc (.cells (mcells m u) 34)).heap.size = W.heap.size + 1 := by simp
 have h2 : ((W.alloc (.cells (mcells m u) 34)).alloc (.cells #[.int .u8 0, .int .u64 0, .string ⟨#[]⟩, .string ⟨#[]⟩, .slice none 0 0, .int .i64 0, .string ⟨#[]⟩, .int .i64 0, .slice none 0 0, .int .i64 0, .int .u64 0, .slice none 0 0, .slice none 0 0, .slice none 0 0, .slice none 0 0, .int .u8 0, .int .i64 0, .int .i64 0, .int .i64 0] 34)).heap.size = W.heap.size + 2 := by simp
 have hb : Below W.heap.size W ((W.alloc (.cells (mcells m u) 34)).alloc (.cells #[.int .u8 0, .int .u64 0, .string ⟨#[]⟩, .string ⟨#[]⟩, .slice none 0 0, .int .i64 0, .string ⟨#[]⟩, .int .i64 0, .slice none 0 0, .int .i64 0, .int .u64 0, .slice none 0 0, .slice none 0 0, .slice none 0 0, .slice none 0 0, .int .u8 0, .int .i64 0, .int .i64 0, .int .i64 0] 34)) := ((Below.refl _ W).alloc (Nat.le_refl _) _).alloc (by omega) _
 have hn := Blk.new (W.alloc (.cells (mcells m u) 34)) 34 #[.int .u8 0, .int .u64 0, .string ⟨#[]⟩, .string ⟨#[]⟩, .slice none 0 0, .int .i64 0, .string ⟨#[]⟩, .int .i64 0, .slice none 0 0, .int .i64 0, .int .u64 0, .slice none 0 0, .slice none 0 0, .slice none 0 0, .slice none 0 0, .int .u8 0, .int .i64 0, .int .i64 0, .int .i64 0]
 rw [h1] at hn
 refine ⟨RR.below hq hb, (Blk.new W 34 _).alloc _, ⟨_, hn, rfl⟩, hr.keep (fun b o y _ hlt hy => Below.cellq hb hlt hy) hb.size (fun k hk hlt => ⟨hk, by omega, by omega⟩), .of_below hb, hq.blk.lt, by omega, fun k hk => ⟨hS1 k hk.1, hk.2.1, hk.2.2⟩, fun k hk => ⟨hS2 k (by omega), by omega, by omega⟩⟩
def RlP (S0 : Nat → Prop) (W : World) (b : Nat) (x : M × RS) (e : Ending) (w' : World) : Prop := ∃ u, e = .returned (.agg (mcells x.1 u)) ∧ RQ w' b x.2 ∧ MRP S0 w' x.1 u ∧ Only (· = b) W w'
theorem LQ.fin {S0 : Nat → Prop} {W w w' : World} {b : Nat} {x : M × RS} {u : VS} (h : LQ (SW S0 W) W b x.1 u x.2 w) (ho : Only (· = W.heap.size + 1) w w') : RlP S0 W b x (.returned (.agg (mcells x.1 u))) w' := by
 have hl := h.lt
 have hz := h.sz
 exact ⟨u, rfl, RR.only h.rq ho (by omega), h.rows.keep (fun b' o y hS _ hy => Only.cellq ho hy (fun e => hS.2.2 e)) ho.size (fun k hk _ => hk.1), h.on.stepB (Only.below (B := W.heap.size) ho (by omega) fun k e => by have e' : k = W.heap.size + 1 := e; omega) (Nat.le_refl _)⟩
theorem MRP.vs {S : Nat → Prop} {w : World} {m : M} {v : VS} (h : MRP S w m v) : ∃ p1 c1 p2 c2 p3 c3 p4 c4 p5 c5 p6 c6, v = ⟨.slice p1 m.input.length c1, .slice p2 m.task.args.length c2, .slice p3 m.ents.length c3, .slice p4 m.epochs.length c4, .slice p5 m.names.length c5, .slice p6 m.codes.length c6⟩ := by
 obtain ⟨p1, c1, e1, _⟩ := h.ri
 obtain ⟨p2, c2, e2, _⟩ := h.ra
 obtain ⟨p3, c3, e3, _⟩ := h.rn
 obtain ⟨p4, c4, e4, _⟩ := h.rh
 obtain ⟨p5, c5, e5, _⟩ := h.rm
 obtain ⟨p6, c6, e6, _⟩ := h.rc
 refine ⟨p1, c1, p2, c2, p3, c3, p4, c4, p5, c5, p6, c6, ?_⟩
 obtain ⟨vi, va, vn, vh, vm, vc⟩ := v
 dsimp only at *
 subst e1 e2 e3 e4 e5 e6
 rfl
def LIv (W wr : World) (b base : Nat) (A : Array Value) (w : World) : Prop := Blk w W.heap.size 34 A ∧ Ch b base wr w
section
variable {W wr w w' : World} {b base : Nat} {A : Array Value} {v : Value}
theorem LIv.below (h : LIv W wr b base A w) (hb : Below w.heap.size w w') : LIv W wr b base A w' := ⟨h.1.below hb, Only.step h.2 hb⟩
theorem LIv.read (h : LIv W wr b base A w) (ho : Only (· = b) w w') (hne : W.heap.size ≠ b) : LIv W wr b base A w' := ⟨h.1.only ho hne, Only.trans h.2 (Ch.read ho)⟩
theorem LIv.turn (h : LIv W wr b base A w) (ho : Only (fun k => v.ownBlock = some k) w w') (hv : ∀ k, v.ownBlock = some k → base ≤ k) (hg : W.heap.size < base) : LIv W wr b base A w' :=
 ⟨h.1.only ho (fun e => by have := hv _ e; omega), Only.trans h.2 (ho.mono fun k _ e => .inr (hv k e))⟩
end
theorem apRun {P : Program} {op : Oper} {a : Act} {w : World} {sl x : Operand} {t e e' : TypeId} {z v : Value} {size bytes base n gl : Nat} {xs ys : List Value}
  (ho : op.op = .call { callee := .builtin .append, args := #[sl, x], argTypes := #[t, t] }) (ht : P.underlying t = some (.slice e)) (hi : Info P e z size bytes) (hz : z.cells.size = size) (hsz : 0 < size) (hb : bytes ≤ 1024)
  (hs : a.eval sl = v) (hx : a.eval x = .slice (some ⟨gl, 0, none⟩) 1 1) (hgl : Blk w gl e' ys.toArray) (hy : ys.all (·.oneCell') = true) (hl : ys.length = 1 * size)
  (hown : w.ownsRow base e size v n xs) (hn : n < 2147483648) (hbase : base ≤ w.heap.size) :
  op.wp P a w (fun a' w' => ∃ v', a' = a.put op.dst v' ∧ w'.ownsRow base e size v' (n + 1) (xs ++ ys) ∧ Only (fun k => v.ownBlock = some k) w w') (fun _ _ _ => False) := by
 obtain ⟨i, hi1, hi2, hi3, hi4⟩ := info_parts hi
 refine wp_append_own _ sl x t ho base e i z size bytes ht hi1 hi2 hi3 hi4 hz hsz v n xs hs hown _ 1 1 ys hx hl ?_ (fun u hu => List.all_eq_true.1 hy u hu)
  (by unfold maxLen; omega) (by have : (n + 1) * bytes ≤ 2147483648 * 1024 := Nat.mul_le_mul (by omega) hb; omega) hbase ?_
 ·intro j u hj
  have : (⟨gl, 0, none⟩ : Addr).add j = ⟨gl, j, none⟩ := by unfold Addr.add; split <;> simp_all
  rw [this, hgl.cell j]; simpa using hj
 intro v' w' h1 h2 _
 exact ⟨v', rfl, h1, ⟨h2.os, h2.tape, h2.output, h2.size, fun k hk hne => h2.block k hk (fun e => hne e.symm)⟩⟩
section
variable {P : Program} {ops : Array Oper} {rest : List Oper} {o : Oper} {a : Act} {Q : Exit → Act → World → Prop}
theorem wpl_store_two {w : World} {g f : Nat} {T : TypeId} {A : Array Value} {v1 v2 : Value} (hb : Blk w g T A) (hf : f + 1 < A.size) (hgd : o.guard = none) (ty : TypeId) (x y : Operand) (ho : o.op = .store ty x y) (hx : a.eval x = .pointer (some ⟨g, f, none⟩)) (hy : a.eval y = .agg #[v1, v2])
  (hi : (P.info? ty).map (·.size) = some 2) (h1 : v1.oneCell' = true) (h2 : v2.oneCell' = true)
  (h : ∀ w', Blk w' g T ((A.setIfInBounds f v1).setIfInBounds (f + 1) v2) → Only (· = g) w w' → wpList P ops Q rest (a.put o.dst undef) w') : wpList P ops Q (o :: rest) a w :=
 wpList_store_mid hgd ty x y ho g f #[v1, v2] hx hy (fun j hj => by
  have hj' : j < 2 := hj
  rw [hb.cell (f + j), hb.frozen]
  exact ⟨by rw [Array.getElem?_eq_getElem (show f + j < A.size by omega)]; rfl, rfl⟩) hi (by simp [h1, h2]) (h _ ((hb.set f v1).set (f + 1) v2) ((Only.refl (· = g) w).set1.set1))
theorem Blk.keep1 {w : World} {g f : Nat} {T : TypeId} {A : Array Value} {v : Value} (hb : Blk w g T A) : Blk (w.setCell ⟨g, f, none⟩ v) g T (A.setIfInBounds f v) ∧ Only (· = g) w (w.setCell ⟨g, f, none⟩ v) := ⟨hb.set f v, (Only.refl (· = g) w).set1⟩
end
end Go.Proofs.YtghbjknpffiaiaaGreat

namespace Go.Proofs.YtghbjknpffiaiaaGreat
open Go.RowKit Wire Ms
set_option linter.unusedVariables false
set_option linter.unusedSimpArgs false
theorem cV_le {most : Int} (h : 0 ≤ most) (q : RS) : cV most q ≤ most := by
 by_cases h0 : cV most q = 0
 ·omega
 ·have h1 := cnt_ok (s := q.s) (e := q.e) (most := most) (.inl h0)
  have h2 : cV most q = xI q.s := h1.1
  have := h1.2.2.2.1
  omega
theorem tV_le {most : Int} (h : 0 ≤ most) (q : RS) : (tV most q).size ≤ most.toNat := by
 have h1 := cV_le h q
 show ((numS q.s q.e (cC q.s most)).extract 0 (cV most q).toNat).size ≤ _
 rw [ByteArray.size_extract]
 omega
theorem rdL_len {α : Type} {r : RS → α × RS} : ∀ (n : Nat) (q : RS), (rdL r n q).1.length ≤ n := by
 intro n
 induction n with
 | zero => intro q; exact Nat.le_refl _
 | succ n ih =>
  intro q
  unfold rdL
  split
  ·exact Nat.zero_le _
  ·have := ih (r q).2
   exact Nat.succ_le_succ this
theorem rL_len {α : Type} {r : RS → α × RS} {most : Int} (h : 0 ≤ most) (q : RS) : (rL most r q).1.length ≤ most.toNat := by
 have h1 := cV_le h q
 have h2 : (rL most r q).1.length ≤ (cV most q).toNat := rdL_len _ _
 omega
theorem lite_k (k : Int) : Lite { m0 with kind := k } :=
 ⟨Nat.zero_le _, Nat.zero_le _, Nat.zero_le _, Nat.zero_le _, Nat.zero_le _, ⟨Nat.zero_le _, fun e h => by cases h⟩, Nat.zero_le _, ⟨Nat.zero_le _, fun e h => by cases h⟩, Nat.zero_le _⟩
theorem lite_rp (p : Pt) {t : M} (h : Lite t) (q : RS) : Lite (rp p t q).1 := by
 cases p
 case J => exact { h with }
 case T => exact { h with tok := by have := tV_le (most := 32) (by decide) q; show (tV 32 q).size ≤ _; have e : (32 : Int).toNat = 32 := rfl; omega }
 case P => exact { h with prog := by have := tV_le (most := 16384) (by decide) q; show (tV 16384 q).size ≤ _; have e : (16384 : Int).toNat = 16384 := rfl; omega }
 case I => exact { h with input := by have := rL_len (r := rI) (most := 16) (by decide) q; show (rL 16 rI q).1.length ≤ _; have e : (16 : Int).toNat = 16 := rfl; omega }
 case F => exact { h with }
 case K => exact { h with path := by have := tV_le (most := 12) (by decide) q; show (tV 12 q).size ≤ _; have e : (12 : Int).toNat = 12 := rfl; omega, args := by have := rL_len (r := rI) (most := 16) (by decide) (uS 15 (tS 12 q)); show (rL 16 rI (uS 15 (tS 12 q))).1.length ≤ _; have e : (16 : Int).toNat = 16 := rfl; omega }
 case E => exact { h with }
 case N => exact { h with ents := ⟨by have := rL_len (r := rEn) (most := 128) (by decide) q; show (rL 128 rEn q).1.length ≤ _; have e : (128 : Int).toNat = 128 := rfl; omega, rL_all (P := fun e : En => e.nm.path.size ≤ 2000) (fun q => by have := tV_le (most := 12) (by decide) (uS 18446744073709551615 q); show (tV 12 (uS 18446744073709551615 q)).size ≤ _; have e : (12 : Int).toNat = 12 := rfl; omega) _ _⟩ }
 case H => exact { h with epochs := by have := rL_len (r := rU 281474976710656) (most := 128) (by decide) q; show (rL 128 (rU 281474976710656) q).1.length ≤ _; have e : (128 : Int).toNat = 128 := rfl; omega }
 case A => exact { h with names := ⟨by have := rL_len (r := rNm) (most := 128) (by decide) q; show (rL 128 rNm q).1.length ≤ _; have e : (128 : Int).toNat = 128 := rfl; omega, rL_all (P := fun e : Nm => e.path.size ≤ 2000) (fun q => by have := tV_le (most := 12) (by decide) (uS 18446744073709551615 q); show (tV 12 (uS 18446744073709551615 q)).size ≤ _; have e : (12 : Int).toNat = 12 := rfl; omega) _ _⟩ }
 case C => exact { h with codes := by have := rL_len (r := rU 9999) (most := 128) (by decide) q; show (rL 128 (rU 9999) q).1.length ≤ _; have e : (128 : Int).toNat = 128 := rfl; omega }
 case S => exact { h with }
 case R => exact { h with }
 case X => exact { h with }
theorem lite_rps : ∀ (l : List Pt) {t : M} (_ : Lite t) (q : RS), Lite (rps l t q).1 := by
 intro l
 induction l with
 | nil => intro t h q; exact h
 | cons p l ih => intro t h q; exact ih (lite_rp p h q) _
theorem lite_read (q : RS) : Lite (readD q).1 := lite_rps _ (lite_k _) _
theorem ty_readD (q : RS) : TyM (readD q).1 := ty_rps _ (ty0 (by have := uV_rg (m := 17) (by decide) q; omega)) _
theorem rps_filter (k : Int) : ∀ (l : List Pt) (x : M × RS), rps (l.filter (hasK k)) x.1 x.2 = l.foldl (fun x p => rif k p x) x := by
 intro l
 induction l with
 | nil => intro x; rfl
 | cons p l ih =>
  intro x
  rw [List.filter_cons, List.foldl_cons, ← ih (rif k p x)]
  unfold rif
  cases h : hasK k p with
  | true => rfl
  | false => rfl
def rdA (k : Int) (x : M × RS) : M × RS := rif k .E (rif k .K (rif k .F (rif k .I (rif k .P (rif k .T (rif k .J x))))))
def rdZ (k : Int) (x : M × RS) : M × RS := rif k .X (rif k .R (rif k .S x))
theorem readD_rif (q : RS) : readD q = rdZ (uV 17 q) (rls (uV 17 q) (rdA (uV 17 q) ({ m0 with kind := uV 17 q }, uS 17 q))) := by
 unfold readD
 rw [← kp_filter]
 exact rps_filter _ all14 ({ m0 with kind := uV 17 q }, uS 17 q)
theorem rls_kind (k : Int) (x : M × RS) : (rls k x).1.kind = x.1.kind := by
 unfold rls
 rw [rif_kind, rif_kind, rif_kind, rif_kind]
def S3 (b g r0 k : Nat) : Prop := k ≠ b ∧ k ≠ g ∧ k ≠ r0
structure DQ (W : World) (b g r0 : Nat) (t : M) (u : VS) (q : RS) (w : World) : Prop where
 rq : RQ w b q
 gt : Blk w g 34 (mcells t u)
 gr : ∃ A, Blk w r0 34 A ∧ A.size = 19
 rows : MRP (S3 b g r0) w t u
 bel : Below W.heap.size W w
 lo : W.heap.size ≤ b ∧ W.heap.size ≤ g ∧ W.heap.size ≤ r0 ∧ g ≠ b ∧ r0 ≠ b ∧ g ≠ r0
section
variable {W w w' w3 w5 w6 : World} {b g r0 : Nat} {t t' : M} {u u' : VS} {q q' : RS} {k : Int} {P : VS → Prop}
theorem DQ.step (h : DQ W b g r0 t u q w) (hb : Below w.heap.size w w') : DQ W b g r0 t u q w' := by
 obtain ⟨A, h1, h2⟩ := h.gr
 exact ⟨RR.below h.rq hb, h.gt.below hb, ⟨A, h1.below hb, h2⟩, h.rows.keep (fun b o y _ hlt hy => Below.cellq hb hlt hy) hb.size (fun _ h _ => h), h.bel.trans (hb.mono h.bel.size), h.lo⟩
theorem DQ.go (h : DQ W b g r0 t u q w) (hq : RQ w5 b q') (hr : MRP (S3 b g r0) w5 t' u') (ho : Only (· = b) w w5) (hb : Blk w6 g 34 (mcells t' u')) (ho6 : Only (· = g) w5 w6) : DQ W b g r0 t' u' q' w6 := by
 obtain ⟨A, h1, h2⟩ := h.gr
 have hl := h.lo
 have h5 : Below W.heap.size w w5 := Only.below ho h.bel.size fun k e => by have e' : k = b := e; omega
 have hs5 := ho.size
 have h6 : Below W.heap.size w5 w6 := Only.below ho6 (Nat.le_trans h.bel.size hs5) fun k e => by have e' : k = g := e; omega
 exact ⟨RR.only hq ho6 (by omega), hb, ⟨A, (h1.only ho (by omega)).only ho6 (by omega), h2⟩, hr.keep (fun b' o y hS _ hy => Only.cellq ho6 hy (fun e => hS.2.1 e)) ho6.size (fun _ h _ => h), (h.bel.trans h5).trans h6, h.lo⟩
theorem DQ.keep (h : DQ W b g r0 t u q w) (ho : Only (· = b) w w3) : Blk w3 g 34 (mcells t u) ∧ MRP (S3 b g r0) w3 t u :=
 ⟨h.gt.only ho (by have := h.lo; omega), h.rows.keep (fun b' o y hS _ hy => Only.cellq ho hy (fun e => hS.1 e)) ho.size (fun _ h _ => h)⟩
theorem DQ.read (h : DQ W b g r0 t u q w) (hq : RQ w3 b q') (ho : Only (· = b) w w3) : DQ W b g r0 t u q' w3 :=
 h.go hq (h.keep ho).2 ho (h.keep ho).1 (Only.refl _ _)
theorem DQ.put (h : DQ W b g r0 t u q w) (hq : RQ w3 b q') (ho : Only (· = b) w w3) {off : Nat} {v : Value} (hm : mcells t' u' = (mcells t u).setIfInBounds off v) (hr : MRP (S3 b g r0) w3 t u → MRP (S3 b g r0) w3 t' u') : DQ W b g r0 t' u' q' (w3.setCell ⟨g, off, none⟩ v) :=
 h.go hq (hr (h.keep ho).2) ho (by rw [hm]; exact (h.keep ho).1.set off v) ((Only.refl (· = g) w3).set1)
theorem DQ.own (h : DQ W b g r0 t u q w) {v : Value} {l : List Int} (hr : w3.ownsRow w.heap.size 2 1 v l.length (l.map fun x => .int .i64 x)) : RwP (S3 b g r0) 1 lI w3 v l := by
 obtain ⟨A, h1, h2⟩ := h.gr
 have e : l.flatMap lI = l.map fun x => Value.int .i64 x := by
  clear hr
  induction l with
  | nil => rfl
  | cons x l ih => rw [List.flatMap_cons, List.map_cons, ih]; rfl
 exact RwP.own (fun _ => rfl) (by rw [e]; exact hr) fun k hk => ⟨by have := h.rq.blk.lt; omega, by have := h.gt.lt; omega, by have := h1.lt; omega⟩
theorem DQ.up (h : DQ W b g r0 t u q w) (k : Nat) (hk : w.heap.size ≤ k) : S3 b g r0 k := by
 obtain ⟨A, h1, h2⟩ := h.gr
 exact ⟨by have := h.rq.blk.lt; omega, by have := h.gt.lt; omega, by have := h1.lt; omega⟩
def NL (u : VS) : Prop := u.n = nilV ∧ u.h = nilV ∧ u.m = nilV ∧ u.c = nilV
theorem NL.vp (h : NL u) : ∀ p ∈ [Pt.N, .H, .A, .C], vp p u = nilV := by
 intro p hp
 obtain ⟨h1, h2, h3, h4⟩ := h
 simp only [List.mem_cons, List.not_mem_nil, or_false] at hp
 rcases hp with rfl | rfl | rfl | rfl
 ·exact h1
 ·exact h2
 ·exact h3
 ·exact h4
def DC (P : VS → Prop) (W : World) (b g r0 : Nat) (x : M × RS) (w : World) : Prop := ∃ u, DQ W b g r0 x.1 u x.2 w ∧ P u
theorem dc_no {p : Pt} (hk : hasK k p = false) (h : DQ W b g r0 t u q w) (hn : P u) : DC P W b g r0 (rif k p (t, q)) w := by
 unfold rif
 rw [if_neg (by rw [hk]; decide)]
 exact ⟨u, h, hn⟩
theorem dcJ (hk : hasK k .J = true) (h : DQ W b g r0 t u q w) (hn : P u) (hq : RQ w3 b (uS 18446744073709551615 q)) (ho : Only (· = b) w w3) : DC P W b g r0 (rif k .J (t, q)) (w3.setCell ⟨g, 1, none⟩ (.int .u64 (uV 18446744073709551615 q))) := by
  unfold rif
  rw [if_pos hk]
  exact ⟨u, h.put hq ho (u' := u) rfl (fun r => ⟨r.ri, r.ra, r.rn, r.rh, r.rm, r.rc⟩), hn⟩
theorem dcT (hk : hasK k .T = true) (h : DQ W b g r0 t u q w) (hn : P u) (hq : RQ w3 b (tS 32 q)) (ho : Only (· = b) w w3) : DC P W b g r0 (rif k .T (t, q)) (w3.setCell ⟨g, 2, none⟩ (.string (tV 32 q))) := by
   unfold rif
   rw [if_pos hk]
   exact ⟨u, h.put hq ho (u' := u) rfl (fun r => ⟨r.ri, r.ra, r.rn, r.rh, r.rm, r.rc⟩), hn⟩
theorem dcP (hk : hasK k .P = true) (h : DQ W b g r0 t u q w) (hn : P u) (hq : RQ w3 b (tS 16384 q)) (ho : Only (· = b) w w3) : DC P W b g r0 (rif k .P (t, q)) (w3.setCell ⟨g, 3, none⟩ (.string (tV 16384 q))) := by
    unfold rif
    rw [if_pos hk]
    exact ⟨u, h.put hq ho (u' := u) rfl (fun r => ⟨r.ri, r.ra, r.rn, r.rh, r.rm, r.rc⟩), hn⟩
theorem dcF (hk : hasK k .F = true) (h : DQ W b g r0 t u q w) (hn : P u) (hq : RQ w3 b (uS 65536 q)) (ho : Only (· = b) w w3) : DC P W b g r0 (rif k .F (t, q)) (w3.setCell ⟨g, 5, none⟩ (.int .i64 (uV 65536 q))) := by
     unfold rif
     rw [if_pos hk]
     exact ⟨u, h.put hq ho (u' := u) rfl (fun r => ⟨r.ri, r.ra, r.rn, r.rh, r.rm, r.rc⟩), hn⟩
theorem dcE (hk : hasK k .E = true) (h : DQ W b g r0 t u q w) (hn : P u) (hq : RQ w3 b (uS 281474976710656 q)) (ho : Only (· = b) w w3) : DC P W b g r0 (rif k .E (t, q)) (w3.setCell ⟨g, 10, none⟩ (.int .u64 (uV 281474976710656 q))) := by
      unfold rif
      rw [if_pos hk]
      exact ⟨u, h.put hq ho (u' := u) rfl (fun r => ⟨r.ri, r.ra, r.rn, r.rh, r.rm, r.rc⟩), hn⟩
theorem dcS (hk : hasK k .S = true) (h : DQ W b g r0 t u q w) (hn : P u) (hq : RQ w3 b (uS 3 q)) (ho : Only (· = b) w w3) : DC P W b g r0 (rif k .S (t, q)) (w3.setCell ⟨g, 15, none⟩ (.int .u8 (uV 3 q))) := by
       unfold rif
       rw [if_pos hk]
       exact ⟨u, h.put hq ho (u' := u) rfl (fun r => ⟨r.ri, r.ra, r.rn, r.rh, r.rm, r.rc⟩), hn⟩
theorem dcX (hk : hasK k .X = true) (h : DQ W b g r0 t u q w) (hn : P u) (hq : RQ w3 b (uS 9999 q)) (ho : Only (· = b) w w3) : DC P W b g r0 (rif k .X (t, q)) (w3.setCell ⟨g, 18, none⟩ (.int .i64 (uV 9999 q))) := by
        unfold rif
        rw [if_pos hk]
        exact ⟨u, h.put hq ho (u' := u) rfl (fun r => ⟨r.ri, r.ra, r.rn, r.rh, r.rm, r.rc⟩), hn⟩
theorem dcI {v : Value} (hk : hasK k .I = true) (h : DQ W b g r0 t u q w) (hn : NL u) (hq : RQ w3 b (rL 16 rI q).2) (hv : w3.ownsRow w.heap.size 2 1 v (rL 16 rI q).1.length ((rL 16 rI q).1.map fun x => .int .i64 x)) (ho : Only (· = b) w w3) : DC NL W b g r0 (rif k .I (t, q)) (w3.setCell ⟨g, 4, none⟩ v) := by
 unfold rif
 rw [if_pos hk]
 exact ⟨⟨v, u.a, u.n, u.h, u.m, u.c⟩, h.put hq ho rfl (fun r => ⟨h.own hv, r.ra, r.rn, r.rh, r.rm, r.rc⟩), hn⟩
theorem dcK (hk : hasK k .K = true) (h : DQ W b g r0 { t with task := (rTk q).1 } u (rTk q).2 w) (hn : NL u) : DC NL W b g r0 (rif k .K (t, q)) w := by
 unfold rif
 rw [if_pos hk]
 exact ⟨u, h, hn⟩
theorem dcR (hk : hasK k .R = true) (h : DQ W b g r0 t u q w) (hn : P u) (hq : RQ w5 b (rRs q).2) (ho : Only (· = b) w w5) (hb : Blk w6 g 34 (((mcells t u).setIfInBounds 16 (.int .i64 (rRs q).1.val)).setIfInBounds 17 (.int .i64 (rRs q).1.err))) (ho6 : Only (· = g) w5 w6) : DC P W b g r0 (rif k .R (t, q)) w6 := by
 unfold rif
 rw [if_pos hk]
 have r := (h.keep ho).2
 exact ⟨u, h.go hq ⟨r.ri, r.ra, r.rn, r.rh, r.rm, r.rc⟩ ho hb ho6, hn⟩
theorem DQ.fin {c : Int} (h : DQ W b g r0 t u q w) (hb : Below w.heap.size w w5) (ho : Only (· = r0) w5 w6) : DecP W t c (.returned (.tuple #[.agg (mcells t u), .int .i64 c])) w6 := by
 have h5 := h.step hb
 refine ⟨u, rfl, (h5.rows.keep (S' := S3 b g r0) (fun b' o y hS _ hy => Only.cellq ho hy (fun e => hS.2.2 e)) ho.size (fun _ h _ => h)).mr, h5.bel.trans (Only.below ho h5.bel.size fun k e => ?_)⟩
 have e' : k = r0 := e
 have := h.lo
 omega
theorem DQ.non {c : Int} (h : DQ W b g r0 t u q w) (hb : Below w.heap.size w w5) (ho : Only (· = r0) w5 w6) : DecP W m0 c (.returned (.tuple #[.agg (mcells m0 nilVS), .int .i64 c])) w6 := by
 obtain ⟨_, _, _, h3⟩ := h.fin (c := c) hb ho
 exact ⟨nilVS, rfl, mr_nil _ _, h3⟩
end
theorem dq_start {W w1 w3 : World} {s : ByteArray} {k : Int} {q : RS} (hq : RQ w1 (W.heap.size + 1) q) (ho : Only (· = W.heap.size + 1) ((W.alloc (.cells #[.int .u8 0, .int .u64 0, .string ⟨#[]⟩, .string ⟨#[]⟩, .slice none 0 0, .int .i64 0, .string ⟨#[]⟩, .int .i64 0, .slice none 0 0, .int .i64 0, .int .u64 0, .slice none 0 0, .slice none 0 0, .slice none 0 0, .slice none 0 0, .int .u8 0, .int .i64 0, .int .i64 0, .int .i64 0] 34)).alloc (.cells #[.string s, .int .i64 0] 76)) w1) (hb : Blk w3 w1.heap.size 34 (mcells { m0 with kind := k } nilVS)) (ho3 : Only (· = w1.heap.size) (w1.alloc (.cells #[.int .u8 0, .int .u64 0, .string ⟨#[]⟩, .string ⟨#[]⟩, .slice none 0 0, .int .i64 0, .string ⟨#[]⟩, .int .i64 0, .slice none 0 0, .int .i64 0, .int .u64 0, .slice none 0 0, .slice none 0 0, .slice none 0 0, .slice none 0 0, .int .u8 0, .int .i64 0, .int .i64 0, .int .i64 0] 34)) w3) : DQ W (W.heap.size + 1) w1.heap.size W.heap.size { m0 with kind := k } nilVS q w3 := by
 have h0 : ((W.alloc (.cells #[.int .u8 0, .int .u64 0, .string ⟨#[]⟩, .string ⟨#[]⟩, .slice none 0 0, .int .i64 0, .string ⟨#[]⟩, .int .i64 0, .slice none 0 0, .int .i64 0, .int .u64 0, .slice none 0 0, .slice none 0 0, .slice none 0 0, .slice none 0 0, .int .u8 0, .int .i64 0, .int .i64 0, .int .i64 0] 34)).alloc (.cells #[.string s, .int .i64 0] 76)).heap.size = W.heap.size + 2 := by simp
 have h1 : (W.alloc (.cells #[.int .u8 0, .int .u64 0, .string ⟨#[]⟩, .string ⟨#[]⟩, .slice none 0 0, .int .i64 0, .string ⟨#[]⟩, .int .i64 0, .slice none 0 0, .int .i64 0, .int .u64 0, .slice none 0 0, .slice none 0 0, .slice none 0 0, .slice none 0 0, .int .u8 0, .int .i64 0, .int .i64 0, .int .i64 0] 34)).heap.size = W.heap.size + 1 := by simp
 have hs := ho.size
 have hb0 : Below W.heap.size W ((W.alloc (.cells #[.int .u8 0, .int .u64 0, .string ⟨#[]⟩, .string ⟨#[]⟩, .slice none 0 0, .int .i64 0, .string ⟨#[]⟩, .int .i64 0, .slice none 0 0, .int .i64 0, .int .u64 0, .slice none 0 0, .slice none 0 0, .slice none 0 0, .slice none 0 0, .int .u8 0, .int .i64 0, .int .i64 0, .int .i64 0] 34)).alloc (.cells #[.string s, .int .i64 0] 76)) := ((Below.refl _ W).alloc (Nat.le_refl _) _).alloc (by omega) _
 have hb1 : Below W.heap.size W w1 := hb0.trans (Only.below ho (by omega) fun k e => by have e' : k = W.heap.size + 1 := e; omega)
 have hb2 : Below w1.heap.size w1 (w1.alloc (.cells #[.int .u8 0, .int .u64 0, .string ⟨#[]⟩, .string ⟨#[]⟩, .slice none 0 0, .int .i64 0, .string ⟨#[]⟩, .int .i64 0, .slice none 0 0, .int .i64 0, .int .u64 0, .slice none 0 0, .slice none 0 0, .slice none 0 0, .slice none 0 0, .int .u8 0, .int .i64 0, .int .i64 0, .int .i64 0] 34)) := (Below.refl _ w1).alloc (Nat.le_refl _) _
 have hs2 := hb2.size
 have hb3 : Below w1.heap.size w1 w3 := hb2.trans (Only.below ho3 (by omega) fun k e => by have e' : k = w1.heap.size := e; omega)
 have hr := (Blk.new W 34 #[.int .u8 0, .int .u64 0, .string ⟨#[]⟩, .string ⟨#[]⟩, .slice none 0 0, .int .i64 0, .string ⟨#[]⟩, .int .i64 0, .slice none 0 0, .int .i64 0, .int .u64 0, .slice none 0 0, .slice none 0 0, .slice none 0 0, .slice none 0 0, .int .u8 0, .int .i64 0, .int .i64 0, .int .i64 0]).alloc (.cells #[.string s, .int .i64 0] 76)
 refine ⟨RR.below hq hb3, hb, ⟨_, (hr.only ho (by omega)).below hb3, rfl⟩, ?_, hb1.trans (hb3.mono (by omega)), by omega⟩
 have hn : ∀ {α : Type} {sz : Nat} {LAY : α → List Value}, RwP (S3 (W.heap.size + 1) w1.heap.size W.heap.size) sz LAY w3 nilV [] := fun {α} {sz} {LAY} => ⟨none, 0, rfl, fun h => absurd h (Nat.lt_irrefl 0)⟩
 exact ⟨hn, hn, hn, hn, hn, hn⟩
end Go.Proofs.YtghbjknpffiaiaaGreat
