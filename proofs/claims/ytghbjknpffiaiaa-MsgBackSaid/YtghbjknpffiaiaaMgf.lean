import Derived.Test.YtghbjknpffiaiaaMge
import Derived.BigRegion

/- The check of the theorem on regions that draw their order, reckoned so that great regions pass: an edge of its own is looked for first. No condition. -/
namespace Go.Proofs.Ytghbjknpffiaiaa
namespace Reg
open Go.RowKit
set_option linter.unusedVariables false
def near (md : Region.Mode) (ops : Array Oper) (j i : Nat) : Bool :=
  match ops[i]? with
  | some o => o.after.any fun e => Region.binds md e && e.on == j
  | none => false
def aheadQ (md : Region.Mode) (ops : Array Oper) (j i : Nat) : Bool := near md ops j i || ahead md ops ops.size j i
theorem aheadQ_imp {md : Region.Mode} {ops : Array Oper} {j i : Nat} (h : aheadQ md ops j i = true) : ahead md ops ops.size j i = true := by
  unfold aheadQ at h
  rw [Bool.or_eq_true] at h
  rcases h with h | h
  · unfold near at h
    cases ho : ops[i]? with
    | none => rw [ho] at h; cases h
    | some o =>
      rw [ho] at h
      simp only at h
      have hlt : i < ops.size := (Array.getElem?_eq_some_iff.1 ho).1
      obtain ⟨k, hk⟩ : ∃ k, ops.size = k + 1 := ⟨ops.size - 1, by omega⟩
      rw [hk]
      unfold ahead
      rw [ho]
      simp only
      rw [Array.any_eq_true] at h ⊢
      obtain ⟨x, hx, h2⟩ := h
      refine ⟨x, hx, ?_⟩
      rw [Bool.and_eq_true] at h2 ⊢
      exact ⟨h2.1, by rw [h2.2]; rfl⟩
  · exact h
def readsOkQ (md : Region.Mode) (ops : Array Oper) (n : Nat) (i : Nat) : Bool :=
  match ops[i]? with
  | some oi => (oi.looksAt ops).all fun t => (List.range n).all fun j =>
    (match ops[j]? with | some oj => oj.dst != some t || (decide (j < i) && aheadQ md ops j i) || (decide (i < j) && aheadQ md ops i j) | none => true)
  | none => false
def relyOkQ (P : Program) (md : Region.Mode) (ops : Array Oper) (n m : Nat) : Bool :=
  textOk P md ops n && decide (n ≤ ops.size) && (List.range n).all fun i => readsOkQ md ops n i && distOk ops n i &&
    ((List.range ops.size).all fun t => decide (t < n) || aheadQ md ops i t) &&
    (match (ops[i]?).bind (·.dst) with | some d => decide (d < m) | none => true)
theorem relyOk_of {P : Program} {md : Region.Mode} {ops : Array Oper} {n m : Nat} (h : relyOkQ P md ops n m = true) : relyOk P md ops n m = true := by
  unfold relyOkQ at h
  unfold relyOk
  rw [Bool.and_eq_true] at h ⊢
  refine ⟨h.1, ?_⟩
  have h2 := h.2
  rw [List.all_eq_true] at h2 ⊢
  intro i hi
  have h3 := h2 i hi
  rw [Bool.and_eq_true, Bool.and_eq_true, Bool.and_eq_true] at h3 ⊢
  obtain ⟨⟨⟨a, b⟩, c⟩, d⟩ := h3
  refine ⟨⟨⟨?_, b⟩, ?_⟩, d⟩
  · unfold readsOkQ at a
    unfold readsOk
    cases ho : ops[i]? with
    | none => rw [ho] at a; cases a
    | some oi =>
      rw [ho] at a
      simp only at a ⊢
      rw [List.all_eq_true] at a ⊢
      intro t ht
      have a1 := a t ht
      rw [List.all_eq_true] at a1 ⊢
      intro j hj
      have a2 := a1 j hj
      cases hj2 : ops[j]? with
      | none => rfl
      | some oj =>
        rw [hj2] at a2
        simp only [Bool.or_eq_true, Bool.and_eq_true] at a2 ⊢
        rcases a2 with (a2 | a2) | a2
        · exact .inl (.inl a2)
        · exact .inl (.inr ⟨a2.1, aheadQ_imp a2.2⟩)
        · exact .inr ⟨a2.1, aheadQ_imp a2.2⟩
  · rw [List.all_eq_true] at c ⊢
    intro t ht
    have c1 := c t ht
    rw [Bool.or_eq_true] at c1 ⊢
    exact c1.imp id aheadQ_imp
end Reg
end Go.Proofs.Ytghbjknpffiaiaa


/- More steps of the theorem on regions that draw their order: guards either way, calls without one. No condition. -/
namespace Go.Proofs.Ytghbjknpffiaiaa
namespace Reg
open Go.RowKit
set_option linter.unusedVariables false
section
variable {P : Program} {ops : Array Oper} {I : World → Prop} {a0 : Act} {R : Act → World → Prop} {o : Oper} {rest : List Oper} {K : List (Option Tmp × Spec)} {Gs : List (World → World → Prop)} {Js : List (World → Prop)} {w0 : World}
theorem wanted_b {a : Act} {j : Nat} {g : Tmp} {b : Bool} (hg : o.guard = some (j, b)) (hd : ((ops[j]?).bind (·.dst)) = some g) (hv : a.tmps.getD g undef = .bool b) : Region.wanted o (yielded ops a.tmps) = true := by
  unfold Region.wanted
  rw [hg]
  simp only [yielded, hd, Option.bind_some]
  rw [Array.getD_eq_getD_getElem?] at hv
  cases h : a.tmps[g]? with
  | none => rw [h] at hv; cases hv
  | some v => rw [h] at hv; simp only [Option.getD_some] at hv; subst hv; cases b <;> rfl
/-- One under a guard that holds. -/
theorem rely_isb (c : Value) (j : Nat) (b : Bool) (g : Tmp) (hg : o.guard = some (j, b)) (hd : ((ops[j]?).bind (·.dst)) = some g) (hgf : ∀ v w, Fact K a0 g v w → v = .bool b)
    (hrun : ∀ (a : Act) (w : World), I w → (∀ t ∈ o.looksAt ops, Fact K a0 t (a.tmps.getD t undef) w) → (execOp a.eval o).run P w = .ok (.value c) w)
    (hr : Rely P ops I w0 a0 R rest ((o.dst, Is c) :: K) Gs Js) : Rely P ops I w0 a0 R (o :: rest) K Gs Js :=
  rely_is c (fun a w hI hF => .inl ⟨wanted_b hg hd (hgf _ w (hF g (looksG hg hd))), hrun a w hI hF⟩) hr
/-- A call whose arguments may lie anywhere, under a guard that holds. -/
theorem rely_callb (S : Spec) (hS : Stab S Grow) (hG : ∀ G ∈ Gs, Stab S G) (j : Nat) (b : Bool) (g : Tmp) (hg : o.guard = some (j, b)) (hd : ((ops[j]?).bind (·.dst)) = some g) (hgf : ∀ v w, Fact K a0 g v w → v = .bool b)
    (h : ∀ (a : Act) (w : World), I w → (∀ t ∈ o.looksAt ops, Fact K a0 t (a.tmps.getD t undef) w) → ∃ f args, (execOp a.eval o).run P w = .ok (.enter f args) w ∧ Calls P f args w fun e w' => ∃ v, e = .returned v ∧ S v w' ∧ Below w.heap.size w w')
    (hr : Rely P ops I w0 a0 R rest ((o.dst, S) :: K) Gs Js) : Rely P ops I w0 a0 R (o :: rest) K Gs Js := by
  refine .inl ⟨S, hS, hG, fun a w hI _ hF => ?_, hr⟩
  rw [if_pos (wanted_b hg hd (hgf _ w (hF g (looksG hg hd))))]
  obtain ⟨f, args, hrun, hc⟩ := h a w hI hF
  unfold Oper.wp
  rw [hrun]
  simp only [Oper.upon]
  refine hc.mono fun e w' ⟨v, he, h1, h2⟩ => ?_
  subst he
  exact ⟨v, rfl, h1, h2⟩
/-- .. without a guard. -/
theorem rely_call0 (S : Spec) (hS : Stab S Grow) (hG : ∀ G ∈ Gs, Stab S G) (hg : o.guard = none)
    (h : ∀ (a : Act) (w : World), I w → (∀ t ∈ o.looksAt ops, Fact K a0 t (a.tmps.getD t undef) w) → ∃ f args, (execOp a.eval o).run P w = .ok (.enter f args) w ∧ Calls P f args w fun e w' => ∃ v, e = .returned v ∧ S v w' ∧ Below w.heap.size w w')
    (hr : Rely P ops I w0 a0 R rest ((o.dst, S) :: K) Gs Js) : Rely P ops I w0 a0 R (o :: rest) K Gs Js := by
  refine rely_rel S hS hG hg (fun a w hi hF => ?_) hr
  obtain ⟨f, args, hrun, hc⟩ := h a w hi hF
  unfold Oper.wp
  rw [hrun]
  simp only [Oper.upon]
  refine hc.mono fun e w' ⟨v, he, h1, h2⟩ => ?_
  subst he
  exact ⟨v, rfl, h1, h2⟩
end
end Reg
end Go.Proofs.Ytghbjknpffiaiaa


/- The walks of a coder's bricks: num, whole, text, writing. Printed by mkMs.py. No condition but that numbers fit their kinds. -/
namespace Go.Proofs.Ytghbjknpffiaiaa
open Go.RowKit Wire Ms
set_option linter.unusedVariables false
set_option linter.unusedSimpArgs false
/-- .. of whose bytes nothing is told once something was amiss. -/
def KWb (w : World) (B k : Nat) (out : Ls) (bad : Bool) (L : Nat) : Prop := ∃ out', KWr w B k out' bad ∧ (bad = false → out' = out) ∧ out'.length ≤ L
def WrP (w : World) (B k : Nat) (out : Ls) (bad : Bool) (L : Nat) (e : Ending) (w' : World) : Prop := e = .returned (.tuple #[]) ∧ KWb w' B k out bad L ∧ OnW B k w w'
/-- A block that a coder leaves. -/
def Away (w : World) (B k g : Nat) : Prop := ¬ (g = k ∨ (B ≤ g ∧ ∃ A, Blk w g 5 A))
theorem KWr.kwb {w : World} {B k : Nat} {out s : Ls} {bad bad' : Bool} {L n : Nat} {out' s' : Ls} (h : KWr w B k (out' ++ s') bad') (h1 : bad = false → out' = out) (h2 : out'.length ≤ L) (h3 : bad' = false → bad = false ∧ s' = s) (h4 : s'.length ≤ n) : KWb w B k (out ++ s) bad' (L + n) :=
  ⟨_, h, fun e => by obtain ⟨a, b⟩ := h3 e; rw [h1 a, b], by rw [List.length_append]; omega⟩
/-- What an append turns. -/
def PutG (N0 B : Nat) (v : Value) (w w' : World) : Prop := Only (fun j => v.ownBlock = some j) w w' ∧ ∀ j, v.ownBlock = some j → j < N0 ∧ B ≤ j ∧ ∃ A, Blk w j 5 A
structure PutI (X : World) (B k g o : Nat) (vO : Value) (bad : Bool) (xv : Value) (w : World) : Prop where
  kb : Blk w k 51 #[.pointer none, vO, .bool bad]
  cell : w.cell? ⟨g, o, none⟩ = some xv
  on : OnW B k X w
  aw : Away w B k g
section
variable {X w w' : World} {B k g o : Nat} {vO xv : Value} {bad : Bool}
theorem Away.below (h : Away w B k g) (hb : Below w.heap.size w w') (hg : g < w.heap.size) : Away w' B k g := fun e => h (by
  rcases e with e | ⟨e, A, hA⟩
  · exact .inl e
  · refine .inr ⟨e, A, ?_⟩
    unfold Blk at hA ⊢
    rw [← hb.block g hg]; exact hA)
theorem Away.onW (h : Away w B k g) (ho : OnW B k w w') (hg : g < w.heap.size) : Away w' B k g := fun e => h (by
  rcases e with e | ⟨e, A, hA⟩
  · exact .inl e
  · refine .inr ⟨e, A, ?_⟩
    unfold Blk at hA ⊢
    rw [← ho.block g hg h]; exact hA)
theorem OnW.cell (ho : OnW B k w w') (h : Away w B k g) (hc : w.cell? ⟨g, o, none⟩ = some xv) : w'.cell? ⟨g, o, none⟩ = some xv := Only.cellq ho hc h
theorem PutI.below (h : PutI X B k g o vO bad xv w) (hb : Below w.heap.size w w') : PutI X B k g o vO bad xv w' :=
  ⟨h.kb.below hb, (hb.cell (World.block_lt_of_cell? _ _ h.cell)).trans h.cell, h.on.step hb, h.aw.below hb (World.block_lt_of_cell? _ _ h.cell)⟩
theorem PutI.drew (h : PutI X B k g o vO bad xv w) : PutI X B k g o vO bad xv w.drew := h.below (Below.refl _ w).drew
theorem PutG.keep {N0 : Nat} {v : Value} (h : PutG N0 B v w w') {j : Nat} (hj : N0 ≤ j) {T : TypeId} {A : Array Value} (hk : Blk w j T A) : Blk w' j T A := hk.only h.1 fun e => by have := (h.2 j e).1; omega
theorem PutG.onW {N0 : Nat} {v : Value} (h : PutG N0 B v w w') : OnW B k w w' := h.1.mono fun j _ e => .inr ⟨(h.2 j e).2.1, (h.2 j e).2.2⟩
theorem PutI.turn {N0 : Nat} {v : Value} (h : PutI X B k g o vO bad xv w) (t : PutG N0 B v w w') : PutI X B k g o vO bad xv w' :=
  ⟨h.kb.only t.1 (fun e => by obtain ⟨_, _, A, hA⟩ := t.2 _ e; exact absurd (blk_ne h.kb hA) (by decide)), OnW.cell (PutG.onW t) h.aw h.cell, h.on.trans (PutG.onW t), h.aw.onW (PutG.onW t) (World.block_lt_of_cell? _ _ h.cell)⟩
theorem putRun {P : Program} {op : Oper} {a : Act} {w : World} {sl x : Operand} {t u e : TypeId} {N0 : Nat} {v : Value} {out : Ls} {s : ByteArray}
    (ho : op.op = .call { callee := .builtin .append, args := #[sl, x], argTypes := #[t, u] })
    (ht : P.underlying t = some (.slice e)) (hu : P.underlying u = some .string) (hi : Info P e (.int .u8 0) 1 1) (he : e = 5)
    (hs : a.eval sl = v) (hx : a.eval x = .string s) (hown : w.ownsRow B e 1 v out.length (Lib.byteCells out)) (hl : out.length + s.size ≤ 140737488355328) (hbase : B ≤ w.heap.size) (hlt : ∀ j, v.ownBlock = some j → j < N0) :
    op.wp P a w (fun a' w' => ∃ v', a' = a.put op.dst v' ∧ w'.ownsRow B e 1 v' (out ++ Ms.bl s).length (Lib.byteCells (out ++ Ms.bl s)) ∧ PutG N0 B v w w') (fun _ _ _ => False) := by
  obtain ⟨i, hi1, hi2, hi3, hi4⟩ := info_parts hi
  obtain ⟨v', w', hr, h2, h3, h4⟩ := Lib.run_append_own_string (P := P) w B t u op.type e i ht hu hi1 hi2 hi3 hi4 v out.length _ hown s (by unfold maxLen; omega) hl hbase
  unfold Oper.wp execOp
  simp only [ho, resolve, invoke, builtin, Sem.run_bind, Sem.run_pure, Result.andThen_ok, List.map_toArray, List.map_cons, List.map_nil, hs, hx, hr]
  refine ⟨v', rfl, ?_, ⟨h3.os, h3.tape, h3.output, h3.size, fun k hk hne => h3.block k hk (fun e => hne e.symm)⟩, fun j hj => ?_⟩
  · rw [cells_app, ← str_bl, List.length_append, Ms.bl_len]
    exact h2
  · obtain ⟨A, hA, hb, _⟩ := owns_type hown hj
    subst he
    exact ⟨hlt j hj, hb, A, hA⟩
end
theorem KWr.put2 {w9 : World} {B k : Nat} {out s : Ls} {bad : Bool} {vO v' : Value} (h1 : Blk w9 k 51 #[.pointer none, vO, .bool bad]) (h3 : B ≤ k)
    (hr : w9.ownsRow B 5 1 v' (out ++ s).length (Lib.byteCells (out ++ s))) : KWr (w9.setCell ⟨k, 1, none⟩ v') B k (out ++ s) bad ∧ OnW B k w9 (w9.setCell ⟨k, 1, none⟩ v') := by
  have o7 : Only (· = k) w9 (w9.setCell ⟨k, 1, none⟩ v') := (Only.refl _ w9).set1
  exact ⟨⟨v', h1.set 1 v', owns_only hr o7 (owns_ne hr h1 (by decide)), h3⟩, o7.mono fun j _ e => .inl e⟩
theorem uintsB {w : World} {gl : Nat} {x : Int} (hx : U64 x) (h : Blk w gl 22 #[.int .u64 x]) : Calls Try.prog 24 #[.slice (some ⟨gl, 0, none⟩) 1 1] w (StPost (Num.lebS x) w) :=
  (uints_any (x := fun _ => x) (n := 1) ⟨_, _, rfl, fun _ => ⟨gl, 0, rfl, h.lt, fun i hi => by
    have : i = 0 := by omega
    subst this
    rw [h.cell]; rfl⟩⟩ (by decide) (fun _ _ => hx)).mono fun e w' h => ⟨by rw [h.1, cat_one], h.2⟩
theorem intsB {w : World} {gl : Nat} {x : Int} (hx : I64 x) (h : Blk w gl 2 #[.int .i64 x]) : Calls Try.prog 70 #[.slice (some ⟨gl, 0, none⟩) 1 1] w (StPost (intS x) w) :=
  (ints_any (x := fun _ => x) (n := 1) ⟨_, _, rfl, fun _ => ⟨gl, 0, rfl, h.lt, fun i hi => by
    have : i = 0 := by omega
    subst this
    rw [h.cell]; rfl⟩⟩ (by decide) (fun _ _ => hx)).mono fun e w' h => ⟨by rw [h.1, cat_one], h.2⟩
theorem textsB {w : World} {gl : Nat} {s : ByteArray} (hs : s.size ≤ 1073741824) (h : Blk w gl 9 #[.string s]) : Calls Try.prog 67 #[.slice (some ⟨gl, 0, none⟩) 1 1] w (StPost (textS s) w) :=
  (texts_any (x := fun _ => s) (n := 1) ⟨_, _, rfl, fun _ => ⟨gl, 0, rfl, h.lt, fun i hi => by
    have : i = 0 := by omega
    subst this
    rw [h.cell]; rfl⟩⟩ (by decide) (fun _ _ => by omega) (by
    have h1 := congrArg ByteArray.size (cat_one (fun _ => textS s))
    have h2 : (⟨(cat (fun _ => textS s) 1).toArray⟩ : ByteArray).size = (cat (fun _ => textS s) 1).length := by simp [ByteArray.size]
    rw [h2] at h1
    have := text_len hs
    omega)).mono fun e w' h => ⟨by rw [h.1, cat_one], h.2⟩
section
variable {w : World} {B k g o : Nat} {out : Ls} {bad : Bool} {L : Nat}
set_option maxRecDepth 100000 in
set_option maxHeartbeats 2000000 in
theorem numw_u64 {x most : Int} (c : KWb w B k out bad L) (hB : B ≤ w.heap.size) (hL : L ≤ 1000000000) (hx : w.cell? ⟨g, o, none⟩ = some (.int .u64 x)) (hg : Away w B k g) (hr : U64 x) :
    Calls Try.prog 45 #[.pointer (some ⟨k, 0, none⟩), .pointer (some ⟨g, o, none⟩), .int .u64 most] w (WrP w B k (out ++ wU x) (bad || nb x most) (L + 10)) := by
  obtain ⟨out', c, ho, hl⟩ := c
  obtain ⟨vO, h1, h2, h3⟩ := c
  obtain ⟨pO, cO, rfl⟩ := owns_slice h2
  have c0 : w.cell? ⟨k, 0, none⟩ = some (.pointer none) := by rw [h1.cell 0]; rfl
  have c1 : w.cell? ⟨k, 1, none⟩ = some (.slice pO out'.length cO) := by rw [h1.cell 1]; rfl
  have c2 : w.cell? ⟨k, 2, none⟩ = some (.bool bad) := by rw [h1.cell 2]; rfl
  have cf := h1.frozen
  have HBK := Lib.hid h1
  have HRW := Lib.hid h2
  have HGE := Lib.hid h3
  have HG := Lib.hid hg
  have HO := Lib.hid (And.intro ho hl)
  have HL := Lib.hid hL
  have HB := Lib.hid hB
  have hyy : U64 x ∧ (0 ≤ x → x = x) := ⟨hr, fun _ => rfl⟩
  have HY := Lib.hid hyy
  have hx0 : ¬ x < 0 := by have h := hr.1; omega
  obtain ⟨bb, hbb⟩ : ∃ bb, (bad || nb x most) = bb := ⟨_, rfl⟩
  rw [hbb]
  have HBB := Lib.hid hbb
  have HLEN : Hid (out'.length + (Num.lebS x).size ≤ 140737488355328) := Lib.hid (by have := lebS_size HY.out.1.2; have := HO.out.2; have := HL.out; omega)
  have HFB : Hid (∀ {W : World}, KWr W B k (out' ++ Ms.bl (Num.lebS x)) bb → KWb W B k (out ++ wU x) bb (L + 10)) := Lib.hid fun h => KWr.kwb h HO.out.1 HO.out.2 (fun e => by
    have h := HBB.out
    rw [e, Bool.or_eq_false_iff] at h
    have h0 := (nb_false.1 h.2).1
    refine ⟨h.1, ?_⟩
    rw [Ms.bl_leb]
    rfl) (by rw [Ms.bl_len]; exact lebS_size HY.out.1.2)
  have HW : Hid (∀ (w : World) gl, Blk w gl 22 #[.int .u64 x] → Calls Try.prog 24 #[.slice (some ⟨gl, 0, none⟩) 1 1] w (StPost (Num.lebS x) w)) := Lib.hid fun w gl h => uintsB HY.out.1 h
  clear h1 h2 h3 hg ho hl hL hB hyy hr
  cases bad with
  | true =>
    have hbt : bb = true := by rw [← hbb]; rfl
    clear hbb
    subst hbt
    go_enter Try.func45, Try.ntmps45
    go_upto_region 3 with fail
    have OV : Only (· = k) w (w.setCell ⟨k, 2, none⟩ (.bool true)) := (Only.refl _ w).set1
    have HBV : Hid (Blk (w.setCell ⟨k, 2, none⟩ (.bool true)) k 51 #[.pointer none, .slice pO out'.length cO, .bool true]) := Lib.hid (HBK.out.set 2 (.bool true))
    have HRV := Lib.hid (owns_only HRW.out OV (owns_ne HRW.out HBK.out (by decide)))
    have HOV : Hid (OnW B k w (w.setCell ⟨k, 2, none⟩ (.bool true))) := Lib.hid (OV.mono fun j _ e => .inl e)
    have y1 := HOV.out.cell HG.out hx
    have HAV := Lib.hid (HG.out.onW HOV.out (World.block_lt_of_cell? _ _ hx))
    have HBS : Hid (B ≤ ((w.setCell ⟨k, 2, none⟩ (.bool true))).heap.size) := Lib.hid (Nat.le_trans HB.out OV.size)
    clear OV c0 c1 c2 cf hx
    generalize (w.setCell ⟨k, 2, none⟩ (.bool true)) = V at *
    have HI0 : Hid (PutI V B k g o (.slice pO out'.length cO) true (.int .u64 x) V) := Lib.hid ⟨HBV.out, y1, OnW.refl _ _ _, HAV.out⟩
    have HROW : Hid (V.drew.ownsRow B 5 1 (.slice pO out'.length cO) out'.length (Lib.byteCells out') ∧ B ≤ V.drew.heap.size) := Lib.hid ⟨HRV.out, HBS.out⟩
    have HLT : Hid (∀ j, (Value.slice pO out'.length cO).ownBlock = some j → j < V.heap.size) := Lib.hid fun j hj => (owns_type HRV.out hj).choose_spec.2.2
    clear y1
    refine Reg.wp_rely 13 (PutI V B k g o (.slice pO out'.length cO) true (.int .u64 x)) (by kernel_rfl) (Reg.relyOk_of (by kernel_rfl)) HI0.out.drew (fun w w' h hI => hI.below h) ?_
    refine Reg.rely_plain (.pointer (some ⟨k, 0, none⟩)) rfl (fun a w hI hF => by
        have f1 : a.tmps.getD 0 undef = .pointer (some ⟨k, 0, none⟩) := hF 0 (Reg.looksB (by kernel_rfl))
        clear hF hI
        simp only [Array.getD_eq_getD_getElem?] at f1
        simp only [execOp]; go_simp) ?_
    refine Reg.rely_plain (.pointer (some ⟨k, 0, none⟩)) rfl (fun a w hI hF => by
        have f1 : a.tmps.getD 0 undef = .pointer (some ⟨k, 0, none⟩) := hF 0 (Reg.looksB (by kernel_rfl))
        clear hF hI
        simp only [Array.getD_eq_getD_getElem?] at f1
        simp only [execOp]; go_simp) ?_
    refine Reg.rely_plain (.pointer (some ⟨k, 0, none⟩)) rfl (fun a w hI hF => by
        have f1 : a.tmps.getD 40 undef = .pointer (some ⟨k, 0, none⟩) := hF 40 (Reg.looksB (by kernel_rfl))
        clear hF hI
        simp only [Array.getD_eq_getD_getElem?] at f1
        simp only [execOp]; go_simp) ?_
    refine Reg.rely_plain (.pointer (some ⟨k, 1, none⟩)) rfl (fun a w hI hF => by
        have f1 : a.tmps.getD 41 undef = .pointer (some ⟨k, 0, none⟩) := hF 41 (Reg.looksB (by kernel_rfl))
        clear hF hI
        simp only [Array.getD_eq_getD_getElem?] at f1
        simp only [execOp]; go_simp) ?_
    refine Reg.rely_plain (.slice pO out'.length cO) rfl (fun a w hI hF => by
        have f1 : a.tmps.getD 42 undef = .pointer (some ⟨k, 1, none⟩) := hF 42 (Reg.looksB (by kernel_rfl))
        have hc : w.cell? ⟨k, 1, none⟩ = some (.slice pO out'.length cO) := by rw [hI.kb.cell 1]; rfl
        clear hF hI
        simp only [Array.getD_eq_getD_getElem?] at f1
        simp only [execOp]; go_simp) ?_
    refine Reg.rely_plain (.pointer (some ⟨g, o, none⟩)) rfl (fun a w hI hF => by
        have f1 : a.tmps.getD 1 undef = .pointer (some ⟨g, o, none⟩) := hF 1 (Reg.looksB (by kernel_rfl))
        clear hF hI
        simp only [Array.getD_eq_getD_getElem?] at f1
        simp only [execOp]; go_simp) ?_
    refine Reg.rely_plain (.pointer (some ⟨g, o, none⟩)) rfl (fun a w hI hF => by
        have f1 : a.tmps.getD 44 undef = .pointer (some ⟨g, o, none⟩) := hF 44 (Reg.looksB (by kernel_rfl))
        clear hF hI
        simp only [Array.getD_eq_getD_getElem?] at f1
        simp only [execOp]; go_simp) ?_
    refine Reg.rely_plain (.int .u64 x) rfl (fun a w hI hF => by
        have f1 : a.tmps.getD 45 undef = .pointer (some ⟨g, o, none⟩) := hF 45 (Reg.looksB (by kernel_rfl))
        have hc := hI.cell
        clear hF hI
        simp only [Array.getD_eq_getD_getElem?] at f1
        simp only [execOp]; go_simp) ?_
    refine Reg.rely_rel (fun v w => ∃ gl, v = .slice (some ⟨gl, 0, none⟩) 1 1 ∧ V.heap.size ≤ gl ∧ Blk w gl 22 #[.int .u64 x]) (fun v w w' h hS => by obtain ⟨gl, h1, h2, h3⟩ := hS; exact ⟨gl, h1, h2, h3.below h⟩) (fun G hG => by cases hG) rfl (fun a w hI hF => by
      have f1 : a.tmps.getD 46 undef = .int .u64 x := hF 46 (Reg.looksB (by kernel_rfl))
      have hK := Lib.hid (Blk.new w 22 #[.int .u64 x])
      have hQ := Lib.hid hI.on.size
      have hW := Lib.hid (show Reg.Grow w (w.alloc (.cells #[.int .u64 x] 22)) from (Below.refl _ w).alloc (Nat.le_refl _) _)
      clear hF hI
      simp only [Array.getD_eq_getD_getElem?] at f1
      unfold Oper.wp
      simp only [execOp]
      go_simp
      exact ⟨_, rfl, ⟨_, rfl, hQ.out, hK.out⟩, hW.out⟩) ?_
    refine Reg.rely_call0 (Reg.Is (.string (Num.lebS x))) (Reg.stab_is _ _) (fun G hG => by cases hG) rfl (fun a w hI hF => by
      obtain ⟨gl, f1, hg1, hgl⟩ : ∃ gl, a.tmps.getD 47 undef = .slice (some ⟨gl, 0, none⟩) 1 1 ∧ V.heap.size ≤ gl ∧ Blk w gl 22 #[.int .u64 x] := hF 47 (Reg.looksB (by kernel_rfl))
      refine ⟨24, #[.slice (some ⟨gl, 0, none⟩) 1 1], ?_, (HW.out w gl hgl).mono fun e w' h => ⟨_, h.1, rfl, h.2⟩⟩
      clear hF hI hgl hg1
      simp only [Array.getD_eq_getD_getElem?] at f1
      simp only [execOp]; go_simp) ?_
    refine Reg.rely_turn (fun v w => w.ownsRow B 5 1 v (out' ++ Ms.bl (Num.lebS x)).length (Lib.byteCells (out' ++ Ms.bl (Num.lebS x)))) (PutG V.heap.size B (.slice pO out'.length cO)) (fun w => w.ownsRow B 5 1 (.slice pO out'.length cO) out'.length (Lib.byteCells out') ∧ B ≤ w.heap.size) (fun v w w' h hS => owns_below hS h) (fun G hG => by cases hG) (fun w w' h hI => hI.turn h) ?_ rfl (fun w w' h hJ => ⟨owns_below hJ.1 h, Nat.le_trans hJ.2 h.size⟩) ⟨HROW.out.1, HROW.out.2⟩ (fun G hG => by cases hG) (fun G hG => by cases hG) (fun a w hI hJ hF => ?_) ?_
    · intro p hp
      repeat (rcases List.mem_cons.1 hp with rfl | hp; first | exact Reg.stab_is _ _ | exact fun v w w' h hS => by obtain ⟨gl, h1, h2, h3⟩ := hS; exact ⟨gl, h1, h2, h.keep h2 h3⟩)
      cases hp
    · have f1 : a.tmps.getD 43 undef = .slice pO out'.length cO := hF 43 (Reg.looksB (by kernel_rfl))
      have f2 : a.tmps.getD 48 undef = .string (Num.lebS x) := hF 48 (Reg.looksB (by kernel_rfl))
      exact putRun (t := 49) (u := 9) (sl := .tmp 43) (x := .tmp 48) rfl Try.underlying49 Try.underlying9 info_u8 rfl f1 f2 hJ.1 HLEN.out hJ.2 HLT.out
    refine Reg.rely_is (.pointer (some ⟨k, 0, none⟩)) (fun a w hI hF => Reg.det_plain rfl ?_) ?_
    · have f1 : a.tmps.getD 39 undef = .pointer (some ⟨k, 0, none⟩) := hF 39 (Reg.looksB (by kernel_rfl))
      clear hF hI
      simp only [Array.getD_eq_getD_getElem?] at f1
      simp only [execOp]; go_simp
    refine Reg.rely_is (.pointer (some ⟨k, 1, none⟩)) (fun a w hI hF => Reg.det_plain rfl ?_) ?_
    · have f1 : a.tmps.getD 50 undef = .pointer (some ⟨k, 0, none⟩) := hF 50 (Reg.looksB (by kernel_rfl))
      clear hF hI
      simp only [Array.getD_eq_getD_getElem?] at f1
      simp only [execOp]; go_simp
    refine Reg.rely_nil ?_
    refine Reg.final_is ?_
    refine Reg.final_is ?_
    refine Reg.final_rel (fun v10 => ?_)
    refine Reg.final_is ?_
    refine Reg.final_rel (fun v8 => ?_)
    refine Reg.final_is ?_
    refine Reg.final_is ?_
    refine Reg.final_is ?_
    refine Reg.final_is ?_
    refine Reg.final_is ?_
    refine Reg.final_is ?_
    refine Reg.final_is ?_
    refine Reg.final_is ?_
    refine Reg.final_nil (fun w9 hF => ?_)
    have HI9 := Lib.hid hF.1.1
    have HS9 := Lib.hid hF.1.2
    clear hF
    simp only [List.drop_succ_cons, List.drop_zero]
    go_simp
    have d1 : w9.cell? ⟨k, 1, none⟩ = some (.slice pO out'.length cO) := by rw [HI9.out.kb.cell 1]; rfl
    have f1 := HI9.out.kb.frozen 1
    obtain ⟨p9, c9, rfl⟩ := owns_slice HS9.out
    go_wp2_with fail
    refine Reg.fin (by kernel_rfl) ?_
    go_wp2_with fail
    go_end0
    have hkw := KWr.put2 HI9.out.kb HGE.out HS9.out
    simp only [List.length_append] at hkw
    exact ⟨rfl, HFB.out hkw.1, HOV.out.trans (HI9.out.on.trans hkw.2)⟩
  | false =>
    have hbb2 : decide (most < x) = bb := by rw [← hbb]; unfold nb; rw [decide_eq_false hx0]; rfl
    clear hbb
    go_enter Try.func45, Try.ntmps45
    go_upto_region 3 with fail
    have OV : Only (· = k) w (w.setCell ⟨k, 2, none⟩ (.bool bb)) := (Only.refl _ w).set1
    have HBV : Hid (Blk (w.setCell ⟨k, 2, none⟩ (.bool bb)) k 51 #[.pointer none, .slice pO out'.length cO, .bool bb]) := Lib.hid (HBK.out.set 2 (.bool bb))
    have HRV := Lib.hid (owns_only HRW.out OV (owns_ne HRW.out HBK.out (by decide)))
    have HOV : Hid (OnW B k w (w.setCell ⟨k, 2, none⟩ (.bool bb))) := Lib.hid (OV.mono fun j _ e => .inl e)
    have y1 := HOV.out.cell HG.out hx
    have HAV := Lib.hid (HG.out.onW HOV.out (World.block_lt_of_cell? _ _ hx))
    have HBS : Hid (B ≤ ((w.setCell ⟨k, 2, none⟩ (.bool bb))).heap.size) := Lib.hid (Nat.le_trans HB.out OV.size)
    clear OV c0 c1 c2 cf hx
    generalize (w.setCell ⟨k, 2, none⟩ (.bool bb)) = V at *
    have HI0 : Hid (PutI V B k g o (.slice pO out'.length cO) bb (.int .u64 x) V) := Lib.hid ⟨HBV.out, y1, OnW.refl _ _ _, HAV.out⟩
    have HROW : Hid (V.drew.ownsRow B 5 1 (.slice pO out'.length cO) out'.length (Lib.byteCells out') ∧ B ≤ V.drew.heap.size) := Lib.hid ⟨HRV.out, HBS.out⟩
    have HLT : Hid (∀ j, (Value.slice pO out'.length cO).ownBlock = some j → j < V.heap.size) := Lib.hid fun j hj => (owns_type HRV.out hj).choose_spec.2.2
    clear y1
    refine Reg.wp_rely 13 (PutI V B k g o (.slice pO out'.length cO) bb (.int .u64 x)) (by kernel_rfl) (Reg.relyOk_of (by kernel_rfl)) HI0.out.drew (fun w w' h hI => hI.below h) ?_
    refine Reg.rely_plain (.pointer (some ⟨k, 0, none⟩)) rfl (fun a w hI hF => by
        have f1 : a.tmps.getD 0 undef = .pointer (some ⟨k, 0, none⟩) := hF 0 (Reg.looksB (by kernel_rfl))
        clear hF hI
        simp only [Array.getD_eq_getD_getElem?] at f1
        simp only [execOp]; go_simp) ?_
    refine Reg.rely_plain (.pointer (some ⟨k, 0, none⟩)) rfl (fun a w hI hF => by
        have f1 : a.tmps.getD 0 undef = .pointer (some ⟨k, 0, none⟩) := hF 0 (Reg.looksB (by kernel_rfl))
        clear hF hI
        simp only [Array.getD_eq_getD_getElem?] at f1
        simp only [execOp]; go_simp) ?_
    refine Reg.rely_plain (.pointer (some ⟨k, 0, none⟩)) rfl (fun a w hI hF => by
        have f1 : a.tmps.getD 40 undef = .pointer (some ⟨k, 0, none⟩) := hF 40 (Reg.looksB (by kernel_rfl))
        clear hF hI
        simp only [Array.getD_eq_getD_getElem?] at f1
        simp only [execOp]; go_simp) ?_
    refine Reg.rely_plain (.pointer (some ⟨k, 1, none⟩)) rfl (fun a w hI hF => by
        have f1 : a.tmps.getD 41 undef = .pointer (some ⟨k, 0, none⟩) := hF 41 (Reg.looksB (by kernel_rfl))
        clear hF hI
        simp only [Array.getD_eq_getD_getElem?] at f1
        simp only [execOp]; go_simp) ?_
    refine Reg.rely_plain (.slice pO out'.length cO) rfl (fun a w hI hF => by
        have f1 : a.tmps.getD 42 undef = .pointer (some ⟨k, 1, none⟩) := hF 42 (Reg.looksB (by kernel_rfl))
        have hc : w.cell? ⟨k, 1, none⟩ = some (.slice pO out'.length cO) := by rw [hI.kb.cell 1]; rfl
        clear hF hI
        simp only [Array.getD_eq_getD_getElem?] at f1
        simp only [execOp]; go_simp) ?_
    refine Reg.rely_plain (.pointer (some ⟨g, o, none⟩)) rfl (fun a w hI hF => by
        have f1 : a.tmps.getD 1 undef = .pointer (some ⟨g, o, none⟩) := hF 1 (Reg.looksB (by kernel_rfl))
        clear hF hI
        simp only [Array.getD_eq_getD_getElem?] at f1
        simp only [execOp]; go_simp) ?_
    refine Reg.rely_plain (.pointer (some ⟨g, o, none⟩)) rfl (fun a w hI hF => by
        have f1 : a.tmps.getD 44 undef = .pointer (some ⟨g, o, none⟩) := hF 44 (Reg.looksB (by kernel_rfl))
        clear hF hI
        simp only [Array.getD_eq_getD_getElem?] at f1
        simp only [execOp]; go_simp) ?_
    refine Reg.rely_plain (.int .u64 x) rfl (fun a w hI hF => by
        have f1 : a.tmps.getD 45 undef = .pointer (some ⟨g, o, none⟩) := hF 45 (Reg.looksB (by kernel_rfl))
        have hc := hI.cell
        clear hF hI
        simp only [Array.getD_eq_getD_getElem?] at f1
        simp only [execOp]; go_simp) ?_
    refine Reg.rely_rel (fun v w => ∃ gl, v = .slice (some ⟨gl, 0, none⟩) 1 1 ∧ V.heap.size ≤ gl ∧ Blk w gl 22 #[.int .u64 x]) (fun v w w' h hS => by obtain ⟨gl, h1, h2, h3⟩ := hS; exact ⟨gl, h1, h2, h3.below h⟩) (fun G hG => by cases hG) rfl (fun a w hI hF => by
      have f1 : a.tmps.getD 46 undef = .int .u64 x := hF 46 (Reg.looksB (by kernel_rfl))
      have hK := Lib.hid (Blk.new w 22 #[.int .u64 x])
      have hQ := Lib.hid hI.on.size
      have hW := Lib.hid (show Reg.Grow w (w.alloc (.cells #[.int .u64 x] 22)) from (Below.refl _ w).alloc (Nat.le_refl _) _)
      clear hF hI
      simp only [Array.getD_eq_getD_getElem?] at f1
      unfold Oper.wp
      simp only [execOp]
      go_simp
      exact ⟨_, rfl, ⟨_, rfl, hQ.out, hK.out⟩, hW.out⟩) ?_
    refine Reg.rely_call0 (Reg.Is (.string (Num.lebS x))) (Reg.stab_is _ _) (fun G hG => by cases hG) rfl (fun a w hI hF => by
      obtain ⟨gl, f1, hg1, hgl⟩ : ∃ gl, a.tmps.getD 47 undef = .slice (some ⟨gl, 0, none⟩) 1 1 ∧ V.heap.size ≤ gl ∧ Blk w gl 22 #[.int .u64 x] := hF 47 (Reg.looksB (by kernel_rfl))
      refine ⟨24, #[.slice (some ⟨gl, 0, none⟩) 1 1], ?_, (HW.out w gl hgl).mono fun e w' h => ⟨_, h.1, rfl, h.2⟩⟩
      clear hF hI hgl hg1
      simp only [Array.getD_eq_getD_getElem?] at f1
      simp only [execOp]; go_simp) ?_
    refine Reg.rely_turn (fun v w => w.ownsRow B 5 1 v (out' ++ Ms.bl (Num.lebS x)).length (Lib.byteCells (out' ++ Ms.bl (Num.lebS x)))) (PutG V.heap.size B (.slice pO out'.length cO)) (fun w => w.ownsRow B 5 1 (.slice pO out'.length cO) out'.length (Lib.byteCells out') ∧ B ≤ w.heap.size) (fun v w w' h hS => owns_below hS h) (fun G hG => by cases hG) (fun w w' h hI => hI.turn h) ?_ rfl (fun w w' h hJ => ⟨owns_below hJ.1 h, Nat.le_trans hJ.2 h.size⟩) ⟨HROW.out.1, HROW.out.2⟩ (fun G hG => by cases hG) (fun G hG => by cases hG) (fun a w hI hJ hF => ?_) ?_
    · intro p hp
      repeat (rcases List.mem_cons.1 hp with rfl | hp; first | exact Reg.stab_is _ _ | exact fun v w w' h hS => by obtain ⟨gl, h1, h2, h3⟩ := hS; exact ⟨gl, h1, h2, h.keep h2 h3⟩)
      cases hp
    · have f1 : a.tmps.getD 43 undef = .slice pO out'.length cO := hF 43 (Reg.looksB (by kernel_rfl))
      have f2 : a.tmps.getD 48 undef = .string (Num.lebS x) := hF 48 (Reg.looksB (by kernel_rfl))
      exact putRun (t := 49) (u := 9) (sl := .tmp 43) (x := .tmp 48) rfl Try.underlying49 Try.underlying9 info_u8 rfl f1 f2 hJ.1 HLEN.out hJ.2 HLT.out
    refine Reg.rely_is (.pointer (some ⟨k, 0, none⟩)) (fun a w hI hF => Reg.det_plain rfl ?_) ?_
    · have f1 : a.tmps.getD 39 undef = .pointer (some ⟨k, 0, none⟩) := hF 39 (Reg.looksB (by kernel_rfl))
      clear hF hI
      simp only [Array.getD_eq_getD_getElem?] at f1
      simp only [execOp]; go_simp
    refine Reg.rely_is (.pointer (some ⟨k, 1, none⟩)) (fun a w hI hF => Reg.det_plain rfl ?_) ?_
    · have f1 : a.tmps.getD 50 undef = .pointer (some ⟨k, 0, none⟩) := hF 50 (Reg.looksB (by kernel_rfl))
      clear hF hI
      simp only [Array.getD_eq_getD_getElem?] at f1
      simp only [execOp]; go_simp
    refine Reg.rely_nil ?_
    refine Reg.final_is ?_
    refine Reg.final_is ?_
    refine Reg.final_rel (fun v10 => ?_)
    refine Reg.final_is ?_
    refine Reg.final_rel (fun v8 => ?_)
    refine Reg.final_is ?_
    refine Reg.final_is ?_
    refine Reg.final_is ?_
    refine Reg.final_is ?_
    refine Reg.final_is ?_
    refine Reg.final_is ?_
    refine Reg.final_is ?_
    refine Reg.final_is ?_
    refine Reg.final_nil (fun w9 hF => ?_)
    have HI9 := Lib.hid hF.1.1
    have HS9 := Lib.hid hF.1.2
    clear hF
    simp only [List.drop_succ_cons, List.drop_zero]
    go_simp
    have d1 : w9.cell? ⟨k, 1, none⟩ = some (.slice pO out'.length cO) := by rw [HI9.out.kb.cell 1]; rfl
    have f1 := HI9.out.kb.frozen 1
    obtain ⟨p9, c9, rfl⟩ := owns_slice HS9.out
    go_wp2_with fail
    refine Reg.fin (by kernel_rfl) ?_
    go_wp2_with fail
    go_end0
    have hkw := KWr.put2 HI9.out.kb HGE.out HS9.out
    simp only [List.length_append] at hkw
    exact ⟨rfl, HFB.out hkw.1, HOV.out.trans (HI9.out.on.trans hkw.2)⟩
set_option maxRecDepth 100000 in
set_option maxHeartbeats 2000000 in
theorem numw_u8 {x most : Int} (c : KWb w B k out bad L) (hB : B ≤ w.heap.size) (hL : L ≤ 1000000000) (hx : w.cell? ⟨g, o, none⟩ = some (.int .u8 x)) (hg : Away w B k g) (hr : 0 ≤ x ∧ x ≤ 255) :
    Calls Try.prog 20 #[.pointer (some ⟨k, 0, none⟩), .pointer (some ⟨g, o, none⟩), .int .u64 most] w (WrP w B k (out ++ wU x) (bad || nb x most) (L + 10)) := by
  obtain ⟨out', c, ho, hl⟩ := c
  obtain ⟨vO, h1, h2, h3⟩ := c
  obtain ⟨pO, cO, rfl⟩ := owns_slice h2
  have c0 : w.cell? ⟨k, 0, none⟩ = some (.pointer none) := by rw [h1.cell 0]; rfl
  have c1 : w.cell? ⟨k, 1, none⟩ = some (.slice pO out'.length cO) := by rw [h1.cell 1]; rfl
  have c2 : w.cell? ⟨k, 2, none⟩ = some (.bool bad) := by rw [h1.cell 2]; rfl
  have cf := h1.frozen
  have HBK := Lib.hid h1
  have HRW := Lib.hid h2
  have HGE := Lib.hid h3
  have HG := Lib.hid hg
  have HO := Lib.hid (And.intro ho hl)
  have HL := Lib.hid hL
  have HB := Lib.hid hB
  have hyy : U64 (IntKind.u64.wrap x) ∧ (0 ≤ x → IntKind.u64.wrap x = x) := by rw [IntKind.wrap_u64]; unfold U64; omega
  obtain ⟨y, hy⟩ : ∃ y, IntKind.u64.wrap x = y := ⟨_, rfl⟩
  rw [hy] at hyy
  have HY := Lib.hid hyy
  have hx0 : ¬ x < 0 := by have h := hr.1; omega
  obtain ⟨bb, hbb⟩ : ∃ bb, (bad || nb x most) = bb := ⟨_, rfl⟩
  rw [hbb]
  have HBB := Lib.hid hbb
  have HLEN : Hid (out'.length + (Num.lebS y).size ≤ 140737488355328) := Lib.hid (by have := lebS_size HY.out.1.2; have := HO.out.2; have := HL.out; omega)
  have HFB : Hid (∀ {W : World}, KWr W B k (out' ++ Ms.bl (Num.lebS y)) bb → KWb W B k (out ++ wU x) bb (L + 10)) := Lib.hid fun h => KWr.kwb h HO.out.1 HO.out.2 (fun e => by
    have h := HBB.out
    rw [e, Bool.or_eq_false_iff] at h
    have h0 := (nb_false.1 h.2).1
    refine ⟨h.1, ?_⟩
    rw [Ms.bl_leb, HY.out.2 h0]
    rfl) (by rw [Ms.bl_len]; exact lebS_size HY.out.1.2)
  have HW : Hid (∀ (w : World) gl, Blk w gl 22 #[.int .u64 y] → Calls Try.prog 24 #[.slice (some ⟨gl, 0, none⟩) 1 1] w (StPost (Num.lebS y) w)) := Lib.hid fun w gl h => uintsB HY.out.1 h
  clear h1 h2 h3 hg ho hl hL hB hyy hr
  cases bad with
  | true =>
    have hbt : bb = true := by rw [← hbb]; rfl
    clear hbb
    subst hbt
    go_enter Try.func20, Try.ntmps20
    go_upto_region 3 with fail
    have OV : Only (· = k) w (w.setCell ⟨k, 2, none⟩ (.bool true)) := (Only.refl _ w).set1
    have HBV : Hid (Blk (w.setCell ⟨k, 2, none⟩ (.bool true)) k 51 #[.pointer none, .slice pO out'.length cO, .bool true]) := Lib.hid (HBK.out.set 2 (.bool true))
    have HRV := Lib.hid (owns_only HRW.out OV (owns_ne HRW.out HBK.out (by decide)))
    have HOV : Hid (OnW B k w (w.setCell ⟨k, 2, none⟩ (.bool true))) := Lib.hid (OV.mono fun j _ e => .inl e)
    have y1 := HOV.out.cell HG.out hx
    have HAV := Lib.hid (HG.out.onW HOV.out (World.block_lt_of_cell? _ _ hx))
    have HBS : Hid (B ≤ ((w.setCell ⟨k, 2, none⟩ (.bool true))).heap.size) := Lib.hid (Nat.le_trans HB.out OV.size)
    clear OV c0 c1 c2 cf hx
    generalize (w.setCell ⟨k, 2, none⟩ (.bool true)) = V at *
    have HI0 : Hid (PutI V B k g o (.slice pO out'.length cO) true (.int .u8 x) V) := Lib.hid ⟨HBV.out, y1, OnW.refl _ _ _, HAV.out⟩
    have HROW : Hid (V.drew.ownsRow B 5 1 (.slice pO out'.length cO) out'.length (Lib.byteCells out') ∧ B ≤ V.drew.heap.size) := Lib.hid ⟨HRV.out, HBS.out⟩
    have HLT : Hid (∀ j, (Value.slice pO out'.length cO).ownBlock = some j → j < V.heap.size) := Lib.hid fun j hj => (owns_type HRV.out hj).choose_spec.2.2
    clear y1
    refine Reg.wp_rely 14 (PutI V B k g o (.slice pO out'.length cO) true (.int .u8 x)) (by kernel_rfl) (Reg.relyOk_of (by kernel_rfl)) HI0.out.drew (fun w w' h hI => hI.below h) ?_
    refine Reg.rely_plain (.pointer (some ⟨k, 0, none⟩)) rfl (fun a w hI hF => by
        have f1 : a.tmps.getD 0 undef = .pointer (some ⟨k, 0, none⟩) := hF 0 (Reg.looksB (by kernel_rfl))
        clear hF hI
        simp only [Array.getD_eq_getD_getElem?] at f1
        simp only [execOp]; go_simp) ?_
    refine Reg.rely_plain (.pointer (some ⟨k, 0, none⟩)) rfl (fun a w hI hF => by
        have f1 : a.tmps.getD 0 undef = .pointer (some ⟨k, 0, none⟩) := hF 0 (Reg.looksB (by kernel_rfl))
        clear hF hI
        simp only [Array.getD_eq_getD_getElem?] at f1
        simp only [execOp]; go_simp) ?_
    refine Reg.rely_plain (.pointer (some ⟨k, 0, none⟩)) rfl (fun a w hI hF => by
        have f1 : a.tmps.getD 42 undef = .pointer (some ⟨k, 0, none⟩) := hF 42 (Reg.looksB (by kernel_rfl))
        clear hF hI
        simp only [Array.getD_eq_getD_getElem?] at f1
        simp only [execOp]; go_simp) ?_
    refine Reg.rely_plain (.pointer (some ⟨k, 1, none⟩)) rfl (fun a w hI hF => by
        have f1 : a.tmps.getD 43 undef = .pointer (some ⟨k, 0, none⟩) := hF 43 (Reg.looksB (by kernel_rfl))
        clear hF hI
        simp only [Array.getD_eq_getD_getElem?] at f1
        simp only [execOp]; go_simp) ?_
    refine Reg.rely_plain (.slice pO out'.length cO) rfl (fun a w hI hF => by
        have f1 : a.tmps.getD 44 undef = .pointer (some ⟨k, 1, none⟩) := hF 44 (Reg.looksB (by kernel_rfl))
        have hc : w.cell? ⟨k, 1, none⟩ = some (.slice pO out'.length cO) := by rw [hI.kb.cell 1]; rfl
        clear hF hI
        simp only [Array.getD_eq_getD_getElem?] at f1
        simp only [execOp]; go_simp) ?_
    refine Reg.rely_plain (.pointer (some ⟨g, o, none⟩)) rfl (fun a w hI hF => by
        have f1 : a.tmps.getD 1 undef = .pointer (some ⟨g, o, none⟩) := hF 1 (Reg.looksB (by kernel_rfl))
        clear hF hI
        simp only [Array.getD_eq_getD_getElem?] at f1
        simp only [execOp]; go_simp) ?_
    refine Reg.rely_plain (.pointer (some ⟨g, o, none⟩)) rfl (fun a w hI hF => by
        have f1 : a.tmps.getD 46 undef = .pointer (some ⟨g, o, none⟩) := hF 46 (Reg.looksB (by kernel_rfl))
        clear hF hI
        simp only [Array.getD_eq_getD_getElem?] at f1
        simp only [execOp]; go_simp) ?_
    refine Reg.rely_plain (.int .u8 x) rfl (fun a w hI hF => by
        have f1 : a.tmps.getD 47 undef = .pointer (some ⟨g, o, none⟩) := hF 47 (Reg.looksB (by kernel_rfl))
        have hc := hI.cell
        clear hF hI
        simp only [Array.getD_eq_getD_getElem?] at f1
        simp only [execOp]; go_simp) ?_
    refine Reg.rely_plain (.int .u64 y) rfl (fun a w hI hF => by
        have f1 : a.tmps.getD 48 undef = .int .u8 x := hF 48 (Reg.looksB (by kernel_rfl))
        clear hF hI
        simp only [Array.getD_eq_getD_getElem?] at f1
        simp only [execOp]; go_simp) ?_
    refine Reg.rely_rel (fun v w => ∃ gl, v = .slice (some ⟨gl, 0, none⟩) 1 1 ∧ V.heap.size ≤ gl ∧ Blk w gl 22 #[.int .u64 y]) (fun v w w' h hS => by obtain ⟨gl, h1, h2, h3⟩ := hS; exact ⟨gl, h1, h2, h3.below h⟩) (fun G hG => by cases hG) rfl (fun a w hI hF => by
      have f1 : a.tmps.getD 49 undef = .int .u64 y := hF 49 (Reg.looksB (by kernel_rfl))
      have hK := Lib.hid (Blk.new w 22 #[.int .u64 y])
      have hQ := Lib.hid hI.on.size
      have hW := Lib.hid (show Reg.Grow w (w.alloc (.cells #[.int .u64 y] 22)) from (Below.refl _ w).alloc (Nat.le_refl _) _)
      clear hF hI
      simp only [Array.getD_eq_getD_getElem?] at f1
      unfold Oper.wp
      simp only [execOp]
      go_simp
      exact ⟨_, rfl, ⟨_, rfl, hQ.out, hK.out⟩, hW.out⟩) ?_
    refine Reg.rely_call0 (Reg.Is (.string (Num.lebS y))) (Reg.stab_is _ _) (fun G hG => by cases hG) rfl (fun a w hI hF => by
      obtain ⟨gl, f1, hg1, hgl⟩ : ∃ gl, a.tmps.getD 50 undef = .slice (some ⟨gl, 0, none⟩) 1 1 ∧ V.heap.size ≤ gl ∧ Blk w gl 22 #[.int .u64 y] := hF 50 (Reg.looksB (by kernel_rfl))
      refine ⟨24, #[.slice (some ⟨gl, 0, none⟩) 1 1], ?_, (HW.out w gl hgl).mono fun e w' h => ⟨_, h.1, rfl, h.2⟩⟩
      clear hF hI hgl hg1
      simp only [Array.getD_eq_getD_getElem?] at f1
      simp only [execOp]; go_simp) ?_
    refine Reg.rely_turn (fun v w => w.ownsRow B 5 1 v (out' ++ Ms.bl (Num.lebS y)).length (Lib.byteCells (out' ++ Ms.bl (Num.lebS y)))) (PutG V.heap.size B (.slice pO out'.length cO)) (fun w => w.ownsRow B 5 1 (.slice pO out'.length cO) out'.length (Lib.byteCells out') ∧ B ≤ w.heap.size) (fun v w w' h hS => owns_below hS h) (fun G hG => by cases hG) (fun w w' h hI => hI.turn h) ?_ rfl (fun w w' h hJ => ⟨owns_below hJ.1 h, Nat.le_trans hJ.2 h.size⟩) ⟨HROW.out.1, HROW.out.2⟩ (fun G hG => by cases hG) (fun G hG => by cases hG) (fun a w hI hJ hF => ?_) ?_
    · intro p hp
      repeat (rcases List.mem_cons.1 hp with rfl | hp; first | exact Reg.stab_is _ _ | exact fun v w w' h hS => by obtain ⟨gl, h1, h2, h3⟩ := hS; exact ⟨gl, h1, h2, h.keep h2 h3⟩)
      cases hp
    · have f1 : a.tmps.getD 45 undef = .slice pO out'.length cO := hF 45 (Reg.looksB (by kernel_rfl))
      have f2 : a.tmps.getD 51 undef = .string (Num.lebS y) := hF 51 (Reg.looksB (by kernel_rfl))
      exact putRun (t := 49) (u := 9) (sl := .tmp 45) (x := .tmp 51) rfl Try.underlying49 Try.underlying9 info_u8 rfl f1 f2 hJ.1 HLEN.out hJ.2 HLT.out
    refine Reg.rely_is (.pointer (some ⟨k, 0, none⟩)) (fun a w hI hF => Reg.det_plain rfl ?_) ?_
    · have f1 : a.tmps.getD 41 undef = .pointer (some ⟨k, 0, none⟩) := hF 41 (Reg.looksB (by kernel_rfl))
      clear hF hI
      simp only [Array.getD_eq_getD_getElem?] at f1
      simp only [execOp]; go_simp
    refine Reg.rely_is (.pointer (some ⟨k, 1, none⟩)) (fun a w hI hF => Reg.det_plain rfl ?_) ?_
    · have f1 : a.tmps.getD 53 undef = .pointer (some ⟨k, 0, none⟩) := hF 53 (Reg.looksB (by kernel_rfl))
      clear hF hI
      simp only [Array.getD_eq_getD_getElem?] at f1
      simp only [execOp]; go_simp
    refine Reg.rely_nil ?_
    refine Reg.final_is ?_
    refine Reg.final_is ?_
    refine Reg.final_rel (fun v11 => ?_)
    refine Reg.final_is ?_
    refine Reg.final_rel (fun v9 => ?_)
    refine Reg.final_is ?_
    refine Reg.final_is ?_
    refine Reg.final_is ?_
    refine Reg.final_is ?_
    refine Reg.final_is ?_
    refine Reg.final_is ?_
    refine Reg.final_is ?_
    refine Reg.final_is ?_
    refine Reg.final_is ?_
    refine Reg.final_nil (fun w9 hF => ?_)
    have HI9 := Lib.hid hF.1.1
    have HS9 := Lib.hid hF.1.2
    clear hF
    simp only [List.drop_succ_cons, List.drop_zero]
    go_simp
    have d1 : w9.cell? ⟨k, 1, none⟩ = some (.slice pO out'.length cO) := by rw [HI9.out.kb.cell 1]; rfl
    have f1 := HI9.out.kb.frozen 1
    obtain ⟨p9, c9, rfl⟩ := owns_slice HS9.out
    go_wp2_with fail
    refine Reg.fin (by kernel_rfl) ?_
    go_wp2_with fail
    go_end0
    have hkw := KWr.put2 HI9.out.kb HGE.out HS9.out
    simp only [List.length_append] at hkw
    exact ⟨rfl, HFB.out hkw.1, HOV.out.trans (HI9.out.on.trans hkw.2)⟩
  | false =>
    have hbb2 : decide (most < y) = bb := by rw [← hbb, HY.out.2 (by omega)]; unfold nb; rw [decide_eq_false hx0]; rfl
    clear hbb
    go_enter Try.func20, Try.ntmps20
    go_upto_region 3 with fail
    have OV : Only (· = k) w (w.setCell ⟨k, 2, none⟩ (.bool bb)) := (Only.refl _ w).set1
    have HBV : Hid (Blk (w.setCell ⟨k, 2, none⟩ (.bool bb)) k 51 #[.pointer none, .slice pO out'.length cO, .bool bb]) := Lib.hid (HBK.out.set 2 (.bool bb))
    have HRV := Lib.hid (owns_only HRW.out OV (owns_ne HRW.out HBK.out (by decide)))
    have HOV : Hid (OnW B k w (w.setCell ⟨k, 2, none⟩ (.bool bb))) := Lib.hid (OV.mono fun j _ e => .inl e)
    have y1 := HOV.out.cell HG.out hx
    have HAV := Lib.hid (HG.out.onW HOV.out (World.block_lt_of_cell? _ _ hx))
    have HBS : Hid (B ≤ ((w.setCell ⟨k, 2, none⟩ (.bool bb))).heap.size) := Lib.hid (Nat.le_trans HB.out OV.size)
    clear OV c0 c1 c2 cf hx
    generalize (w.setCell ⟨k, 2, none⟩ (.bool bb)) = V at *
    have HI0 : Hid (PutI V B k g o (.slice pO out'.length cO) bb (.int .u8 x) V) := Lib.hid ⟨HBV.out, y1, OnW.refl _ _ _, HAV.out⟩
    have HROW : Hid (V.drew.ownsRow B 5 1 (.slice pO out'.length cO) out'.length (Lib.byteCells out') ∧ B ≤ V.drew.heap.size) := Lib.hid ⟨HRV.out, HBS.out⟩
    have HLT : Hid (∀ j, (Value.slice pO out'.length cO).ownBlock = some j → j < V.heap.size) := Lib.hid fun j hj => (owns_type HRV.out hj).choose_spec.2.2
    clear y1
    refine Reg.wp_rely 14 (PutI V B k g o (.slice pO out'.length cO) bb (.int .u8 x)) (by kernel_rfl) (Reg.relyOk_of (by kernel_rfl)) HI0.out.drew (fun w w' h hI => hI.below h) ?_
    refine Reg.rely_plain (.pointer (some ⟨k, 0, none⟩)) rfl (fun a w hI hF => by
        have f1 : a.tmps.getD 0 undef = .pointer (some ⟨k, 0, none⟩) := hF 0 (Reg.looksB (by kernel_rfl))
        clear hF hI
        simp only [Array.getD_eq_getD_getElem?] at f1
        simp only [execOp]; go_simp) ?_
    refine Reg.rely_plain (.pointer (some ⟨k, 0, none⟩)) rfl (fun a w hI hF => by
        have f1 : a.tmps.getD 0 undef = .pointer (some ⟨k, 0, none⟩) := hF 0 (Reg.looksB (by kernel_rfl))
        clear hF hI
        simp only [Array.getD_eq_getD_getElem?] at f1
        simp only [execOp]; go_simp) ?_
    refine Reg.rely_plain (.pointer (some ⟨k, 0, none⟩)) rfl (fun a w hI hF => by
        have f1 : a.tmps.getD 42 undef = .pointer (some ⟨k, 0, none⟩) := hF 42 (Reg.looksB (by kernel_rfl))
        clear hF hI
        simp only [Array.getD_eq_getD_getElem?] at f1
        simp only [execOp]; go_simp) ?_
    refine Reg.rely_plain (.pointer (some ⟨k, 1, none⟩)) rfl (fun a w hI hF => by
        have f1 : a.tmps.getD 43 undef = .pointer (some ⟨k, 0, none⟩) := hF 43 (Reg.looksB (by kernel_rfl))
        clear hF hI
        simp only [Array.getD_eq_getD_getElem?] at f1
        simp only [execOp]; go_simp) ?_
    refine Reg.rely_plain (.slice pO out'.length cO) rfl (fun a w hI hF => by
        have f1 : a.tmps.getD 44 undef = .pointer (some ⟨k, 1, none⟩) := hF 44 (Reg.looksB (by kernel_rfl))
        have hc : w.cell? ⟨k, 1, none⟩ = some (.slice pO out'.length cO) := by rw [hI.kb.cell 1]; rfl
        clear hF hI
        simp only [Array.getD_eq_getD_getElem?] at f1
        simp only [execOp]; go_simp) ?_
    refine Reg.rely_plain (.pointer (some ⟨g, o, none⟩)) rfl (fun a w hI hF => by
        have f1 : a.tmps.getD 1 undef = .pointer (some ⟨g, o, none⟩) := hF 1 (Reg.looksB (by kernel_rfl))
        clear hF hI
        simp only [Array.getD_eq_getD_getElem?] at f1
        simp only [execOp]; go_simp) ?_
    refine Reg.rely_plain (.pointer (some ⟨g, o, none⟩)) rfl (fun a w hI hF => by
        have f1 : a.tmps.getD 46 undef = .pointer (some ⟨g, o, none⟩) := hF 46 (Reg.looksB (by kernel_rfl))
        clear hF hI
        simp only [Array.getD_eq_getD_getElem?] at f1
        simp only [execOp]; go_simp) ?_
    refine Reg.rely_plain (.int .u8 x) rfl (fun a w hI hF => by
        have f1 : a.tmps.getD 47 undef = .pointer (some ⟨g, o, none⟩) := hF 47 (Reg.looksB (by kernel_rfl))
        have hc := hI.cell
        clear hF hI
        simp only [Array.getD_eq_getD_getElem?] at f1
        simp only [execOp]; go_simp) ?_
    refine Reg.rely_plain (.int .u64 y) rfl (fun a w hI hF => by
        have f1 : a.tmps.getD 48 undef = .int .u8 x := hF 48 (Reg.looksB (by kernel_rfl))
        clear hF hI
        simp only [Array.getD_eq_getD_getElem?] at f1
        simp only [execOp]; go_simp) ?_
    refine Reg.rely_rel (fun v w => ∃ gl, v = .slice (some ⟨gl, 0, none⟩) 1 1 ∧ V.heap.size ≤ gl ∧ Blk w gl 22 #[.int .u64 y]) (fun v w w' h hS => by obtain ⟨gl, h1, h2, h3⟩ := hS; exact ⟨gl, h1, h2, h3.below h⟩) (fun G hG => by cases hG) rfl (fun a w hI hF => by
      have f1 : a.tmps.getD 49 undef = .int .u64 y := hF 49 (Reg.looksB (by kernel_rfl))
      have hK := Lib.hid (Blk.new w 22 #[.int .u64 y])
      have hQ := Lib.hid hI.on.size
      have hW := Lib.hid (show Reg.Grow w (w.alloc (.cells #[.int .u64 y] 22)) from (Below.refl _ w).alloc (Nat.le_refl _) _)
      clear hF hI
      simp only [Array.getD_eq_getD_getElem?] at f1
      unfold Oper.wp
      simp only [execOp]
      go_simp
      exact ⟨_, rfl, ⟨_, rfl, hQ.out, hK.out⟩, hW.out⟩) ?_
    refine Reg.rely_call0 (Reg.Is (.string (Num.lebS y))) (Reg.stab_is _ _) (fun G hG => by cases hG) rfl (fun a w hI hF => by
      obtain ⟨gl, f1, hg1, hgl⟩ : ∃ gl, a.tmps.getD 50 undef = .slice (some ⟨gl, 0, none⟩) 1 1 ∧ V.heap.size ≤ gl ∧ Blk w gl 22 #[.int .u64 y] := hF 50 (Reg.looksB (by kernel_rfl))
      refine ⟨24, #[.slice (some ⟨gl, 0, none⟩) 1 1], ?_, (HW.out w gl hgl).mono fun e w' h => ⟨_, h.1, rfl, h.2⟩⟩
      clear hF hI hgl hg1
      simp only [Array.getD_eq_getD_getElem?] at f1
      simp only [execOp]; go_simp) ?_
    refine Reg.rely_turn (fun v w => w.ownsRow B 5 1 v (out' ++ Ms.bl (Num.lebS y)).length (Lib.byteCells (out' ++ Ms.bl (Num.lebS y)))) (PutG V.heap.size B (.slice pO out'.length cO)) (fun w => w.ownsRow B 5 1 (.slice pO out'.length cO) out'.length (Lib.byteCells out') ∧ B ≤ w.heap.size) (fun v w w' h hS => owns_below hS h) (fun G hG => by cases hG) (fun w w' h hI => hI.turn h) ?_ rfl (fun w w' h hJ => ⟨owns_below hJ.1 h, Nat.le_trans hJ.2 h.size⟩) ⟨HROW.out.1, HROW.out.2⟩ (fun G hG => by cases hG) (fun G hG => by cases hG) (fun a w hI hJ hF => ?_) ?_
    · intro p hp
      repeat (rcases List.mem_cons.1 hp with rfl | hp; first | exact Reg.stab_is _ _ | exact fun v w w' h hS => by obtain ⟨gl, h1, h2, h3⟩ := hS; exact ⟨gl, h1, h2, h.keep h2 h3⟩)
      cases hp
    · have f1 : a.tmps.getD 45 undef = .slice pO out'.length cO := hF 45 (Reg.looksB (by kernel_rfl))
      have f2 : a.tmps.getD 51 undef = .string (Num.lebS y) := hF 51 (Reg.looksB (by kernel_rfl))
      exact putRun (t := 49) (u := 9) (sl := .tmp 45) (x := .tmp 51) rfl Try.underlying49 Try.underlying9 info_u8 rfl f1 f2 hJ.1 HLEN.out hJ.2 HLT.out
    refine Reg.rely_is (.pointer (some ⟨k, 0, none⟩)) (fun a w hI hF => Reg.det_plain rfl ?_) ?_
    · have f1 : a.tmps.getD 41 undef = .pointer (some ⟨k, 0, none⟩) := hF 41 (Reg.looksB (by kernel_rfl))
      clear hF hI
      simp only [Array.getD_eq_getD_getElem?] at f1
      simp only [execOp]; go_simp
    refine Reg.rely_is (.pointer (some ⟨k, 1, none⟩)) (fun a w hI hF => Reg.det_plain rfl ?_) ?_
    · have f1 : a.tmps.getD 53 undef = .pointer (some ⟨k, 0, none⟩) := hF 53 (Reg.looksB (by kernel_rfl))
      clear hF hI
      simp only [Array.getD_eq_getD_getElem?] at f1
      simp only [execOp]; go_simp
    refine Reg.rely_nil ?_
    refine Reg.final_is ?_
    refine Reg.final_is ?_
    refine Reg.final_rel (fun v11 => ?_)
    refine Reg.final_is ?_
    refine Reg.final_rel (fun v9 => ?_)
    refine Reg.final_is ?_
    refine Reg.final_is ?_
    refine Reg.final_is ?_
    refine Reg.final_is ?_
    refine Reg.final_is ?_
    refine Reg.final_is ?_
    refine Reg.final_is ?_
    refine Reg.final_is ?_
    refine Reg.final_is ?_
    refine Reg.final_nil (fun w9 hF => ?_)
    have HI9 := Lib.hid hF.1.1
    have HS9 := Lib.hid hF.1.2
    clear hF
    simp only [List.drop_succ_cons, List.drop_zero]
    go_simp
    have d1 : w9.cell? ⟨k, 1, none⟩ = some (.slice pO out'.length cO) := by rw [HI9.out.kb.cell 1]; rfl
    have f1 := HI9.out.kb.frozen 1
    obtain ⟨p9, c9, rfl⟩ := owns_slice HS9.out
    go_wp2_with fail
    refine Reg.fin (by kernel_rfl) ?_
    go_wp2_with fail
    go_end0
    have hkw := KWr.put2 HI9.out.kb HGE.out HS9.out
    simp only [List.length_append] at hkw
    exact ⟨rfl, HFB.out hkw.1, HOV.out.trans (HI9.out.on.trans hkw.2)⟩
set_option maxRecDepth 100000 in
set_option maxHeartbeats 2000000 in
theorem numw_int {x most : Int} (c : KWb w B k out bad L) (hB : B ≤ w.heap.size) (hL : L ≤ 1000000000) (hx : w.cell? ⟨g, o, none⟩ = some (.int .i64 x)) (hg : Away w B k g) (hr : I64 x) :
    Calls Try.prog 44 #[.pointer (some ⟨k, 0, none⟩), .pointer (some ⟨g, o, none⟩), .int .u64 most] w (WrP w B k (out ++ wU x) (bad || nb x most) (L + 10)) := by
  obtain ⟨out', c, ho, hl⟩ := c
  obtain ⟨vO, h1, h2, h3⟩ := c
  obtain ⟨pO, cO, rfl⟩ := owns_slice h2
  have c0 : w.cell? ⟨k, 0, none⟩ = some (.pointer none) := by rw [h1.cell 0]; rfl
  have c1 : w.cell? ⟨k, 1, none⟩ = some (.slice pO out'.length cO) := by rw [h1.cell 1]; rfl
  have c2 : w.cell? ⟨k, 2, none⟩ = some (.bool bad) := by rw [h1.cell 2]; rfl
  have cf := h1.frozen
  have HBK := Lib.hid h1
  have HRW := Lib.hid h2
  have HGE := Lib.hid h3
  have HG := Lib.hid hg
  have HO := Lib.hid (And.intro ho hl)
  have HL := Lib.hid hL
  have HB := Lib.hid hB
  have hyy : U64 (IntKind.u64.wrap x) ∧ (0 ≤ x → IntKind.u64.wrap x = x) := by rw [IntKind.wrap_u64]; unfold U64; unfold I64 at hr; omega
  obtain ⟨y, hy⟩ : ∃ y, IntKind.u64.wrap x = y := ⟨_, rfl⟩
  rw [hy] at hyy
  have HY := Lib.hid hyy
  obtain ⟨bb, hbb⟩ : ∃ bb, (bad || nb x most) = bb := ⟨_, rfl⟩
  rw [hbb]
  have HBB := Lib.hid hbb
  have HLEN : Hid (out'.length + (Num.lebS y).size ≤ 140737488355328) := Lib.hid (by have := lebS_size HY.out.1.2; have := HO.out.2; have := HL.out; omega)
  have HFB : Hid (∀ {W : World}, KWr W B k (out' ++ Ms.bl (Num.lebS y)) bb → KWb W B k (out ++ wU x) bb (L + 10)) := Lib.hid fun h => KWr.kwb h HO.out.1 HO.out.2 (fun e => by
    have h := HBB.out
    rw [e, Bool.or_eq_false_iff] at h
    have h0 := (nb_false.1 h.2).1
    refine ⟨h.1, ?_⟩
    rw [Ms.bl_leb, HY.out.2 h0]
    rfl) (by rw [Ms.bl_len]; exact lebS_size HY.out.1.2)
  have HW : Hid (∀ (w : World) gl, Blk w gl 22 #[.int .u64 y] → Calls Try.prog 24 #[.slice (some ⟨gl, 0, none⟩) 1 1] w (StPost (Num.lebS y) w)) := Lib.hid fun w gl h => uintsB HY.out.1 h
  clear h1 h2 h3 hg ho hl hL hB hyy hr
  cases bad with
  | true =>
    have hbt : bb = true := by rw [← hbb]; rfl
    clear hbb
    subst hbt
    go_enter Try.func44, Try.ntmps44
    go_upto_region 3 with fail
    have OV : Only (· = k) w (w.setCell ⟨k, 2, none⟩ (.bool true)) := (Only.refl _ w).set1
    have HBV : Hid (Blk (w.setCell ⟨k, 2, none⟩ (.bool true)) k 51 #[.pointer none, .slice pO out'.length cO, .bool true]) := Lib.hid (HBK.out.set 2 (.bool true))
    have HRV := Lib.hid (owns_only HRW.out OV (owns_ne HRW.out HBK.out (by decide)))
    have HOV : Hid (OnW B k w (w.setCell ⟨k, 2, none⟩ (.bool true))) := Lib.hid (OV.mono fun j _ e => .inl e)
    have y1 := HOV.out.cell HG.out hx
    have HAV := Lib.hid (HG.out.onW HOV.out (World.block_lt_of_cell? _ _ hx))
    have HBS : Hid (B ≤ ((w.setCell ⟨k, 2, none⟩ (.bool true))).heap.size) := Lib.hid (Nat.le_trans HB.out OV.size)
    clear OV c0 c1 c2 cf hx
    generalize (w.setCell ⟨k, 2, none⟩ (.bool true)) = V at *
    have HI0 : Hid (PutI V B k g o (.slice pO out'.length cO) true (.int .i64 x) V) := Lib.hid ⟨HBV.out, y1, OnW.refl _ _ _, HAV.out⟩
    have HROW : Hid (V.drew.ownsRow B 5 1 (.slice pO out'.length cO) out'.length (Lib.byteCells out') ∧ B ≤ V.drew.heap.size) := Lib.hid ⟨HRV.out, HBS.out⟩
    have HLT : Hid (∀ j, (Value.slice pO out'.length cO).ownBlock = some j → j < V.heap.size) := Lib.hid fun j hj => (owns_type HRV.out hj).choose_spec.2.2
    clear y1
    refine Reg.wp_rely 14 (PutI V B k g o (.slice pO out'.length cO) true (.int .i64 x)) (by kernel_rfl) (Reg.relyOk_of (by kernel_rfl)) HI0.out.drew (fun w w' h hI => hI.below h) ?_
    refine Reg.rely_plain (.pointer (some ⟨k, 0, none⟩)) rfl (fun a w hI hF => by
        have f1 : a.tmps.getD 0 undef = .pointer (some ⟨k, 0, none⟩) := hF 0 (Reg.looksB (by kernel_rfl))
        clear hF hI
        simp only [Array.getD_eq_getD_getElem?] at f1
        simp only [execOp]; go_simp) ?_
    refine Reg.rely_plain (.pointer (some ⟨k, 0, none⟩)) rfl (fun a w hI hF => by
        have f1 : a.tmps.getD 0 undef = .pointer (some ⟨k, 0, none⟩) := hF 0 (Reg.looksB (by kernel_rfl))
        clear hF hI
        simp only [Array.getD_eq_getD_getElem?] at f1
        simp only [execOp]; go_simp) ?_
    refine Reg.rely_plain (.pointer (some ⟨k, 0, none⟩)) rfl (fun a w hI hF => by
        have f1 : a.tmps.getD 42 undef = .pointer (some ⟨k, 0, none⟩) := hF 42 (Reg.looksB (by kernel_rfl))
        clear hF hI
        simp only [Array.getD_eq_getD_getElem?] at f1
        simp only [execOp]; go_simp) ?_
    refine Reg.rely_plain (.pointer (some ⟨k, 1, none⟩)) rfl (fun a w hI hF => by
        have f1 : a.tmps.getD 43 undef = .pointer (some ⟨k, 0, none⟩) := hF 43 (Reg.looksB (by kernel_rfl))
        clear hF hI
        simp only [Array.getD_eq_getD_getElem?] at f1
        simp only [execOp]; go_simp) ?_
    refine Reg.rely_plain (.slice pO out'.length cO) rfl (fun a w hI hF => by
        have f1 : a.tmps.getD 44 undef = .pointer (some ⟨k, 1, none⟩) := hF 44 (Reg.looksB (by kernel_rfl))
        have hc : w.cell? ⟨k, 1, none⟩ = some (.slice pO out'.length cO) := by rw [hI.kb.cell 1]; rfl
        clear hF hI
        simp only [Array.getD_eq_getD_getElem?] at f1
        simp only [execOp]; go_simp) ?_
    refine Reg.rely_plain (.pointer (some ⟨g, o, none⟩)) rfl (fun a w hI hF => by
        have f1 : a.tmps.getD 1 undef = .pointer (some ⟨g, o, none⟩) := hF 1 (Reg.looksB (by kernel_rfl))
        clear hF hI
        simp only [Array.getD_eq_getD_getElem?] at f1
        simp only [execOp]; go_simp) ?_
    refine Reg.rely_plain (.pointer (some ⟨g, o, none⟩)) rfl (fun a w hI hF => by
        have f1 : a.tmps.getD 46 undef = .pointer (some ⟨g, o, none⟩) := hF 46 (Reg.looksB (by kernel_rfl))
        clear hF hI
        simp only [Array.getD_eq_getD_getElem?] at f1
        simp only [execOp]; go_simp) ?_
    refine Reg.rely_plain (.int .i64 x) rfl (fun a w hI hF => by
        have f1 : a.tmps.getD 47 undef = .pointer (some ⟨g, o, none⟩) := hF 47 (Reg.looksB (by kernel_rfl))
        have hc := hI.cell
        clear hF hI
        simp only [Array.getD_eq_getD_getElem?] at f1
        simp only [execOp]; go_simp) ?_
    refine Reg.rely_plain (.int .u64 y) rfl (fun a w hI hF => by
        have f1 : a.tmps.getD 48 undef = .int .i64 x := hF 48 (Reg.looksB (by kernel_rfl))
        clear hF hI
        simp only [Array.getD_eq_getD_getElem?] at f1
        simp only [execOp]; go_simp) ?_
    refine Reg.rely_rel (fun v w => ∃ gl, v = .slice (some ⟨gl, 0, none⟩) 1 1 ∧ V.heap.size ≤ gl ∧ Blk w gl 22 #[.int .u64 y]) (fun v w w' h hS => by obtain ⟨gl, h1, h2, h3⟩ := hS; exact ⟨gl, h1, h2, h3.below h⟩) (fun G hG => by cases hG) rfl (fun a w hI hF => by
      have f1 : a.tmps.getD 49 undef = .int .u64 y := hF 49 (Reg.looksB (by kernel_rfl))
      have hK := Lib.hid (Blk.new w 22 #[.int .u64 y])
      have hQ := Lib.hid hI.on.size
      have hW := Lib.hid (show Reg.Grow w (w.alloc (.cells #[.int .u64 y] 22)) from (Below.refl _ w).alloc (Nat.le_refl _) _)
      clear hF hI
      simp only [Array.getD_eq_getD_getElem?] at f1
      unfold Oper.wp
      simp only [execOp]
      go_simp
      exact ⟨_, rfl, ⟨_, rfl, hQ.out, hK.out⟩, hW.out⟩) ?_
    refine Reg.rely_call0 (Reg.Is (.string (Num.lebS y))) (Reg.stab_is _ _) (fun G hG => by cases hG) rfl (fun a w hI hF => by
      obtain ⟨gl, f1, hg1, hgl⟩ : ∃ gl, a.tmps.getD 50 undef = .slice (some ⟨gl, 0, none⟩) 1 1 ∧ V.heap.size ≤ gl ∧ Blk w gl 22 #[.int .u64 y] := hF 50 (Reg.looksB (by kernel_rfl))
      refine ⟨24, #[.slice (some ⟨gl, 0, none⟩) 1 1], ?_, (HW.out w gl hgl).mono fun e w' h => ⟨_, h.1, rfl, h.2⟩⟩
      clear hF hI hgl hg1
      simp only [Array.getD_eq_getD_getElem?] at f1
      simp only [execOp]; go_simp) ?_
    refine Reg.rely_turn (fun v w => w.ownsRow B 5 1 v (out' ++ Ms.bl (Num.lebS y)).length (Lib.byteCells (out' ++ Ms.bl (Num.lebS y)))) (PutG V.heap.size B (.slice pO out'.length cO)) (fun w => w.ownsRow B 5 1 (.slice pO out'.length cO) out'.length (Lib.byteCells out') ∧ B ≤ w.heap.size) (fun v w w' h hS => owns_below hS h) (fun G hG => by cases hG) (fun w w' h hI => hI.turn h) ?_ rfl (fun w w' h hJ => ⟨owns_below hJ.1 h, Nat.le_trans hJ.2 h.size⟩) ⟨HROW.out.1, HROW.out.2⟩ (fun G hG => by cases hG) (fun G hG => by cases hG) (fun a w hI hJ hF => ?_) ?_
    · intro p hp
      repeat (rcases List.mem_cons.1 hp with rfl | hp; first | exact Reg.stab_is _ _ | exact fun v w w' h hS => by obtain ⟨gl, h1, h2, h3⟩ := hS; exact ⟨gl, h1, h2, h.keep h2 h3⟩)
      cases hp
    · have f1 : a.tmps.getD 45 undef = .slice pO out'.length cO := hF 45 (Reg.looksB (by kernel_rfl))
      have f2 : a.tmps.getD 51 undef = .string (Num.lebS y) := hF 51 (Reg.looksB (by kernel_rfl))
      exact putRun (t := 49) (u := 9) (sl := .tmp 45) (x := .tmp 51) rfl Try.underlying49 Try.underlying9 info_u8 rfl f1 f2 hJ.1 HLEN.out hJ.2 HLT.out
    refine Reg.rely_is (.pointer (some ⟨k, 0, none⟩)) (fun a w hI hF => Reg.det_plain rfl ?_) ?_
    · have f1 : a.tmps.getD 41 undef = .pointer (some ⟨k, 0, none⟩) := hF 41 (Reg.looksB (by kernel_rfl))
      clear hF hI
      simp only [Array.getD_eq_getD_getElem?] at f1
      simp only [execOp]; go_simp
    refine Reg.rely_is (.pointer (some ⟨k, 1, none⟩)) (fun a w hI hF => Reg.det_plain rfl ?_) ?_
    · have f1 : a.tmps.getD 53 undef = .pointer (some ⟨k, 0, none⟩) := hF 53 (Reg.looksB (by kernel_rfl))
      clear hF hI
      simp only [Array.getD_eq_getD_getElem?] at f1
      simp only [execOp]; go_simp
    refine Reg.rely_nil ?_
    refine Reg.final_is ?_
    refine Reg.final_is ?_
    refine Reg.final_rel (fun v11 => ?_)
    refine Reg.final_is ?_
    refine Reg.final_rel (fun v9 => ?_)
    refine Reg.final_is ?_
    refine Reg.final_is ?_
    refine Reg.final_is ?_
    refine Reg.final_is ?_
    refine Reg.final_is ?_
    refine Reg.final_is ?_
    refine Reg.final_is ?_
    refine Reg.final_is ?_
    refine Reg.final_is ?_
    refine Reg.final_nil (fun w9 hF => ?_)
    have HI9 := Lib.hid hF.1.1
    have HS9 := Lib.hid hF.1.2
    clear hF
    simp only [List.drop_succ_cons, List.drop_zero]
    go_simp
    have d1 : w9.cell? ⟨k, 1, none⟩ = some (.slice pO out'.length cO) := by rw [HI9.out.kb.cell 1]; rfl
    have f1 := HI9.out.kb.frozen 1
    obtain ⟨p9, c9, rfl⟩ := owns_slice HS9.out
    go_wp2_with fail
    refine Reg.fin (by kernel_rfl) ?_
    go_wp2_with fail
    go_end0
    have hkw := KWr.put2 HI9.out.kb HGE.out HS9.out
    simp only [List.length_append] at hkw
    exact ⟨rfl, HFB.out hkw.1, HOV.out.trans (HI9.out.on.trans hkw.2)⟩
  | false =>
    by_cases hx0 : x < 0
    · have hbt : bb = true := by rw [← hbb]; unfold nb; rw [decide_eq_true hx0]; rfl
      clear hbb
      subst hbt
      go_enter Try.func44, Try.ntmps44
      go_upto_region 3 with fail
      have OV : Only (· = k) w (w.setCell ⟨k, 2, none⟩ (.bool true)) := (Only.refl _ w).set1
      have HBV : Hid (Blk (w.setCell ⟨k, 2, none⟩ (.bool true)) k 51 #[.pointer none, .slice pO out'.length cO, .bool true]) := Lib.hid (HBK.out.set 2 (.bool true))
      have HRV := Lib.hid (owns_only HRW.out OV (owns_ne HRW.out HBK.out (by decide)))
      have HOV : Hid (OnW B k w (w.setCell ⟨k, 2, none⟩ (.bool true))) := Lib.hid (OV.mono fun j _ e => .inl e)
      have y1 := HOV.out.cell HG.out hx
      have HAV := Lib.hid (HG.out.onW HOV.out (World.block_lt_of_cell? _ _ hx))
      have HBS : Hid (B ≤ ((w.setCell ⟨k, 2, none⟩ (.bool true))).heap.size) := Lib.hid (Nat.le_trans HB.out OV.size)
      clear OV c0 c1 c2 cf hx
      generalize (w.setCell ⟨k, 2, none⟩ (.bool true)) = V at *
      have HI0 : Hid (PutI V B k g o (.slice pO out'.length cO) true (.int .i64 x) V) := Lib.hid ⟨HBV.out, y1, OnW.refl _ _ _, HAV.out⟩
      have HROW : Hid (V.drew.ownsRow B 5 1 (.slice pO out'.length cO) out'.length (Lib.byteCells out') ∧ B ≤ V.drew.heap.size) := Lib.hid ⟨HRV.out, HBS.out⟩
      have HLT : Hid (∀ j, (Value.slice pO out'.length cO).ownBlock = some j → j < V.heap.size) := Lib.hid fun j hj => (owns_type HRV.out hj).choose_spec.2.2
      clear y1
      refine Reg.wp_rely 14 (PutI V B k g o (.slice pO out'.length cO) true (.int .i64 x)) (by kernel_rfl) (Reg.relyOk_of (by kernel_rfl)) HI0.out.drew (fun w w' h hI => hI.below h) ?_
      refine Reg.rely_plain (.pointer (some ⟨k, 0, none⟩)) rfl (fun a w hI hF => by
          have f1 : a.tmps.getD 0 undef = .pointer (some ⟨k, 0, none⟩) := hF 0 (Reg.looksB (by kernel_rfl))
          clear hF hI
          simp only [Array.getD_eq_getD_getElem?] at f1
          simp only [execOp]; go_simp) ?_
      refine Reg.rely_plain (.pointer (some ⟨k, 0, none⟩)) rfl (fun a w hI hF => by
          have f1 : a.tmps.getD 0 undef = .pointer (some ⟨k, 0, none⟩) := hF 0 (Reg.looksB (by kernel_rfl))
          clear hF hI
          simp only [Array.getD_eq_getD_getElem?] at f1
          simp only [execOp]; go_simp) ?_
      refine Reg.rely_plain (.pointer (some ⟨k, 0, none⟩)) rfl (fun a w hI hF => by
          have f1 : a.tmps.getD 42 undef = .pointer (some ⟨k, 0, none⟩) := hF 42 (Reg.looksB (by kernel_rfl))
          clear hF hI
          simp only [Array.getD_eq_getD_getElem?] at f1
          simp only [execOp]; go_simp) ?_
      refine Reg.rely_plain (.pointer (some ⟨k, 1, none⟩)) rfl (fun a w hI hF => by
          have f1 : a.tmps.getD 43 undef = .pointer (some ⟨k, 0, none⟩) := hF 43 (Reg.looksB (by kernel_rfl))
          clear hF hI
          simp only [Array.getD_eq_getD_getElem?] at f1
          simp only [execOp]; go_simp) ?_
      refine Reg.rely_plain (.slice pO out'.length cO) rfl (fun a w hI hF => by
          have f1 : a.tmps.getD 44 undef = .pointer (some ⟨k, 1, none⟩) := hF 44 (Reg.looksB (by kernel_rfl))
          have hc : w.cell? ⟨k, 1, none⟩ = some (.slice pO out'.length cO) := by rw [hI.kb.cell 1]; rfl
          clear hF hI
          simp only [Array.getD_eq_getD_getElem?] at f1
          simp only [execOp]; go_simp) ?_
      refine Reg.rely_plain (.pointer (some ⟨g, o, none⟩)) rfl (fun a w hI hF => by
          have f1 : a.tmps.getD 1 undef = .pointer (some ⟨g, o, none⟩) := hF 1 (Reg.looksB (by kernel_rfl))
          clear hF hI
          simp only [Array.getD_eq_getD_getElem?] at f1
          simp only [execOp]; go_simp) ?_
      refine Reg.rely_plain (.pointer (some ⟨g, o, none⟩)) rfl (fun a w hI hF => by
          have f1 : a.tmps.getD 46 undef = .pointer (some ⟨g, o, none⟩) := hF 46 (Reg.looksB (by kernel_rfl))
          clear hF hI
          simp only [Array.getD_eq_getD_getElem?] at f1
          simp only [execOp]; go_simp) ?_
      refine Reg.rely_plain (.int .i64 x) rfl (fun a w hI hF => by
          have f1 : a.tmps.getD 47 undef = .pointer (some ⟨g, o, none⟩) := hF 47 (Reg.looksB (by kernel_rfl))
          have hc := hI.cell
          clear hF hI
          simp only [Array.getD_eq_getD_getElem?] at f1
          simp only [execOp]; go_simp) ?_
      refine Reg.rely_plain (.int .u64 y) rfl (fun a w hI hF => by
          have f1 : a.tmps.getD 48 undef = .int .i64 x := hF 48 (Reg.looksB (by kernel_rfl))
          clear hF hI
          simp only [Array.getD_eq_getD_getElem?] at f1
          simp only [execOp]; go_simp) ?_
      refine Reg.rely_rel (fun v w => ∃ gl, v = .slice (some ⟨gl, 0, none⟩) 1 1 ∧ V.heap.size ≤ gl ∧ Blk w gl 22 #[.int .u64 y]) (fun v w w' h hS => by obtain ⟨gl, h1, h2, h3⟩ := hS; exact ⟨gl, h1, h2, h3.below h⟩) (fun G hG => by cases hG) rfl (fun a w hI hF => by
        have f1 : a.tmps.getD 49 undef = .int .u64 y := hF 49 (Reg.looksB (by kernel_rfl))
        have hK := Lib.hid (Blk.new w 22 #[.int .u64 y])
        have hQ := Lib.hid hI.on.size
        have hW := Lib.hid (show Reg.Grow w (w.alloc (.cells #[.int .u64 y] 22)) from (Below.refl _ w).alloc (Nat.le_refl _) _)
        clear hF hI
        simp only [Array.getD_eq_getD_getElem?] at f1
        unfold Oper.wp
        simp only [execOp]
        go_simp
        exact ⟨_, rfl, ⟨_, rfl, hQ.out, hK.out⟩, hW.out⟩) ?_
      refine Reg.rely_call0 (Reg.Is (.string (Num.lebS y))) (Reg.stab_is _ _) (fun G hG => by cases hG) rfl (fun a w hI hF => by
        obtain ⟨gl, f1, hg1, hgl⟩ : ∃ gl, a.tmps.getD 50 undef = .slice (some ⟨gl, 0, none⟩) 1 1 ∧ V.heap.size ≤ gl ∧ Blk w gl 22 #[.int .u64 y] := hF 50 (Reg.looksB (by kernel_rfl))
        refine ⟨24, #[.slice (some ⟨gl, 0, none⟩) 1 1], ?_, (HW.out w gl hgl).mono fun e w' h => ⟨_, h.1, rfl, h.2⟩⟩
        clear hF hI hgl hg1
        simp only [Array.getD_eq_getD_getElem?] at f1
        simp only [execOp]; go_simp) ?_
      refine Reg.rely_turn (fun v w => w.ownsRow B 5 1 v (out' ++ Ms.bl (Num.lebS y)).length (Lib.byteCells (out' ++ Ms.bl (Num.lebS y)))) (PutG V.heap.size B (.slice pO out'.length cO)) (fun w => w.ownsRow B 5 1 (.slice pO out'.length cO) out'.length (Lib.byteCells out') ∧ B ≤ w.heap.size) (fun v w w' h hS => owns_below hS h) (fun G hG => by cases hG) (fun w w' h hI => hI.turn h) ?_ rfl (fun w w' h hJ => ⟨owns_below hJ.1 h, Nat.le_trans hJ.2 h.size⟩) ⟨HROW.out.1, HROW.out.2⟩ (fun G hG => by cases hG) (fun G hG => by cases hG) (fun a w hI hJ hF => ?_) ?_
      · intro p hp
        repeat (rcases List.mem_cons.1 hp with rfl | hp; first | exact Reg.stab_is _ _ | exact fun v w w' h hS => by obtain ⟨gl, h1, h2, h3⟩ := hS; exact ⟨gl, h1, h2, h.keep h2 h3⟩)
        cases hp
      · have f1 : a.tmps.getD 45 undef = .slice pO out'.length cO := hF 45 (Reg.looksB (by kernel_rfl))
        have f2 : a.tmps.getD 51 undef = .string (Num.lebS y) := hF 51 (Reg.looksB (by kernel_rfl))
        exact putRun (t := 49) (u := 9) (sl := .tmp 45) (x := .tmp 51) rfl Try.underlying49 Try.underlying9 info_u8 rfl f1 f2 hJ.1 HLEN.out hJ.2 HLT.out
      refine Reg.rely_is (.pointer (some ⟨k, 0, none⟩)) (fun a w hI hF => Reg.det_plain rfl ?_) ?_
      · have f1 : a.tmps.getD 41 undef = .pointer (some ⟨k, 0, none⟩) := hF 41 (Reg.looksB (by kernel_rfl))
        clear hF hI
        simp only [Array.getD_eq_getD_getElem?] at f1
        simp only [execOp]; go_simp
      refine Reg.rely_is (.pointer (some ⟨k, 1, none⟩)) (fun a w hI hF => Reg.det_plain rfl ?_) ?_
      · have f1 : a.tmps.getD 53 undef = .pointer (some ⟨k, 0, none⟩) := hF 53 (Reg.looksB (by kernel_rfl))
        clear hF hI
        simp only [Array.getD_eq_getD_getElem?] at f1
        simp only [execOp]; go_simp
      refine Reg.rely_nil ?_
      refine Reg.final_is ?_
      refine Reg.final_is ?_
      refine Reg.final_rel (fun v11 => ?_)
      refine Reg.final_is ?_
      refine Reg.final_rel (fun v9 => ?_)
      refine Reg.final_is ?_
      refine Reg.final_is ?_
      refine Reg.final_is ?_
      refine Reg.final_is ?_
      refine Reg.final_is ?_
      refine Reg.final_is ?_
      refine Reg.final_is ?_
      refine Reg.final_is ?_
      refine Reg.final_is ?_
      refine Reg.final_nil (fun w9 hF => ?_)
      have HI9 := Lib.hid hF.1.1
      have HS9 := Lib.hid hF.1.2
      clear hF
      simp only [List.drop_succ_cons, List.drop_zero]
      go_simp
      have d1 : w9.cell? ⟨k, 1, none⟩ = some (.slice pO out'.length cO) := by rw [HI9.out.kb.cell 1]; rfl
      have f1 := HI9.out.kb.frozen 1
      obtain ⟨p9, c9, rfl⟩ := owns_slice HS9.out
      go_wp2_with fail
      refine Reg.fin (by kernel_rfl) ?_
      go_wp2_with fail
      go_end0
      have hkw := KWr.put2 HI9.out.kb HGE.out HS9.out
      simp only [List.length_append] at hkw
      exact ⟨rfl, HFB.out hkw.1, HOV.out.trans (HI9.out.on.trans hkw.2)⟩
    · have hbb2 : decide (most < y) = bb := by rw [← hbb, HY.out.2 (by omega)]; unfold nb; rw [decide_eq_false hx0]; rfl
      clear hbb
      go_enter Try.func44, Try.ntmps44
      go_upto_region 3 with fail
      have OV : Only (· = k) w (w.setCell ⟨k, 2, none⟩ (.bool bb)) := (Only.refl _ w).set1
      have HBV : Hid (Blk (w.setCell ⟨k, 2, none⟩ (.bool bb)) k 51 #[.pointer none, .slice pO out'.length cO, .bool bb]) := Lib.hid (HBK.out.set 2 (.bool bb))
      have HRV := Lib.hid (owns_only HRW.out OV (owns_ne HRW.out HBK.out (by decide)))
      have HOV : Hid (OnW B k w (w.setCell ⟨k, 2, none⟩ (.bool bb))) := Lib.hid (OV.mono fun j _ e => .inl e)
      have y1 := HOV.out.cell HG.out hx
      have HAV := Lib.hid (HG.out.onW HOV.out (World.block_lt_of_cell? _ _ hx))
      have HBS : Hid (B ≤ ((w.setCell ⟨k, 2, none⟩ (.bool bb))).heap.size) := Lib.hid (Nat.le_trans HB.out OV.size)
      clear OV c0 c1 c2 cf hx
      generalize (w.setCell ⟨k, 2, none⟩ (.bool bb)) = V at *
      have HI0 : Hid (PutI V B k g o (.slice pO out'.length cO) bb (.int .i64 x) V) := Lib.hid ⟨HBV.out, y1, OnW.refl _ _ _, HAV.out⟩
      have HROW : Hid (V.drew.ownsRow B 5 1 (.slice pO out'.length cO) out'.length (Lib.byteCells out') ∧ B ≤ V.drew.heap.size) := Lib.hid ⟨HRV.out, HBS.out⟩
      have HLT : Hid (∀ j, (Value.slice pO out'.length cO).ownBlock = some j → j < V.heap.size) := Lib.hid fun j hj => (owns_type HRV.out hj).choose_spec.2.2
      clear y1
      refine Reg.wp_rely 14 (PutI V B k g o (.slice pO out'.length cO) bb (.int .i64 x)) (by kernel_rfl) (Reg.relyOk_of (by kernel_rfl)) HI0.out.drew (fun w w' h hI => hI.below h) ?_
      refine Reg.rely_plain (.pointer (some ⟨k, 0, none⟩)) rfl (fun a w hI hF => by
          have f1 : a.tmps.getD 0 undef = .pointer (some ⟨k, 0, none⟩) := hF 0 (Reg.looksB (by kernel_rfl))
          clear hF hI
          simp only [Array.getD_eq_getD_getElem?] at f1
          simp only [execOp]; go_simp) ?_
      refine Reg.rely_plain (.pointer (some ⟨k, 0, none⟩)) rfl (fun a w hI hF => by
          have f1 : a.tmps.getD 0 undef = .pointer (some ⟨k, 0, none⟩) := hF 0 (Reg.looksB (by kernel_rfl))
          clear hF hI
          simp only [Array.getD_eq_getD_getElem?] at f1
          simp only [execOp]; go_simp) ?_
      refine Reg.rely_plain (.pointer (some ⟨k, 0, none⟩)) rfl (fun a w hI hF => by
          have f1 : a.tmps.getD 42 undef = .pointer (some ⟨k, 0, none⟩) := hF 42 (Reg.looksB (by kernel_rfl))
          clear hF hI
          simp only [Array.getD_eq_getD_getElem?] at f1
          simp only [execOp]; go_simp) ?_
      refine Reg.rely_plain (.pointer (some ⟨k, 1, none⟩)) rfl (fun a w hI hF => by
          have f1 : a.tmps.getD 43 undef = .pointer (some ⟨k, 0, none⟩) := hF 43 (Reg.looksB (by kernel_rfl))
          clear hF hI
          simp only [Array.getD_eq_getD_getElem?] at f1
          simp only [execOp]; go_simp) ?_
      refine Reg.rely_plain (.slice pO out'.length cO) rfl (fun a w hI hF => by
          have f1 : a.tmps.getD 44 undef = .pointer (some ⟨k, 1, none⟩) := hF 44 (Reg.looksB (by kernel_rfl))
          have hc : w.cell? ⟨k, 1, none⟩ = some (.slice pO out'.length cO) := by rw [hI.kb.cell 1]; rfl
          clear hF hI
          simp only [Array.getD_eq_getD_getElem?] at f1
          simp only [execOp]; go_simp) ?_
      refine Reg.rely_plain (.pointer (some ⟨g, o, none⟩)) rfl (fun a w hI hF => by
          have f1 : a.tmps.getD 1 undef = .pointer (some ⟨g, o, none⟩) := hF 1 (Reg.looksB (by kernel_rfl))
          clear hF hI
          simp only [Array.getD_eq_getD_getElem?] at f1
          simp only [execOp]; go_simp) ?_
      refine Reg.rely_plain (.pointer (some ⟨g, o, none⟩)) rfl (fun a w hI hF => by
          have f1 : a.tmps.getD 46 undef = .pointer (some ⟨g, o, none⟩) := hF 46 (Reg.looksB (by kernel_rfl))
          clear hF hI
          simp only [Array.getD_eq_getD_getElem?] at f1
          simp only [execOp]; go_simp) ?_
      refine Reg.rely_plain (.int .i64 x) rfl (fun a w hI hF => by
          have f1 : a.tmps.getD 47 undef = .pointer (some ⟨g, o, none⟩) := hF 47 (Reg.looksB (by kernel_rfl))
          have hc := hI.cell
          clear hF hI
          simp only [Array.getD_eq_getD_getElem?] at f1
          simp only [execOp]; go_simp) ?_
      refine Reg.rely_plain (.int .u64 y) rfl (fun a w hI hF => by
          have f1 : a.tmps.getD 48 undef = .int .i64 x := hF 48 (Reg.looksB (by kernel_rfl))
          clear hF hI
          simp only [Array.getD_eq_getD_getElem?] at f1
          simp only [execOp]; go_simp) ?_
      refine Reg.rely_rel (fun v w => ∃ gl, v = .slice (some ⟨gl, 0, none⟩) 1 1 ∧ V.heap.size ≤ gl ∧ Blk w gl 22 #[.int .u64 y]) (fun v w w' h hS => by obtain ⟨gl, h1, h2, h3⟩ := hS; exact ⟨gl, h1, h2, h3.below h⟩) (fun G hG => by cases hG) rfl (fun a w hI hF => by
        have f1 : a.tmps.getD 49 undef = .int .u64 y := hF 49 (Reg.looksB (by kernel_rfl))
        have hK := Lib.hid (Blk.new w 22 #[.int .u64 y])
        have hQ := Lib.hid hI.on.size
        have hW := Lib.hid (show Reg.Grow w (w.alloc (.cells #[.int .u64 y] 22)) from (Below.refl _ w).alloc (Nat.le_refl _) _)
        clear hF hI
        simp only [Array.getD_eq_getD_getElem?] at f1
        unfold Oper.wp
        simp only [execOp]
        go_simp
        exact ⟨_, rfl, ⟨_, rfl, hQ.out, hK.out⟩, hW.out⟩) ?_
      refine Reg.rely_call0 (Reg.Is (.string (Num.lebS y))) (Reg.stab_is _ _) (fun G hG => by cases hG) rfl (fun a w hI hF => by
        obtain ⟨gl, f1, hg1, hgl⟩ : ∃ gl, a.tmps.getD 50 undef = .slice (some ⟨gl, 0, none⟩) 1 1 ∧ V.heap.size ≤ gl ∧ Blk w gl 22 #[.int .u64 y] := hF 50 (Reg.looksB (by kernel_rfl))
        refine ⟨24, #[.slice (some ⟨gl, 0, none⟩) 1 1], ?_, (HW.out w gl hgl).mono fun e w' h => ⟨_, h.1, rfl, h.2⟩⟩
        clear hF hI hgl hg1
        simp only [Array.getD_eq_getD_getElem?] at f1
        simp only [execOp]; go_simp) ?_
      refine Reg.rely_turn (fun v w => w.ownsRow B 5 1 v (out' ++ Ms.bl (Num.lebS y)).length (Lib.byteCells (out' ++ Ms.bl (Num.lebS y)))) (PutG V.heap.size B (.slice pO out'.length cO)) (fun w => w.ownsRow B 5 1 (.slice pO out'.length cO) out'.length (Lib.byteCells out') ∧ B ≤ w.heap.size) (fun v w w' h hS => owns_below hS h) (fun G hG => by cases hG) (fun w w' h hI => hI.turn h) ?_ rfl (fun w w' h hJ => ⟨owns_below hJ.1 h, Nat.le_trans hJ.2 h.size⟩) ⟨HROW.out.1, HROW.out.2⟩ (fun G hG => by cases hG) (fun G hG => by cases hG) (fun a w hI hJ hF => ?_) ?_
      · intro p hp
        repeat (rcases List.mem_cons.1 hp with rfl | hp; first | exact Reg.stab_is _ _ | exact fun v w w' h hS => by obtain ⟨gl, h1, h2, h3⟩ := hS; exact ⟨gl, h1, h2, h.keep h2 h3⟩)
        cases hp
      · have f1 : a.tmps.getD 45 undef = .slice pO out'.length cO := hF 45 (Reg.looksB (by kernel_rfl))
        have f2 : a.tmps.getD 51 undef = .string (Num.lebS y) := hF 51 (Reg.looksB (by kernel_rfl))
        exact putRun (t := 49) (u := 9) (sl := .tmp 45) (x := .tmp 51) rfl Try.underlying49 Try.underlying9 info_u8 rfl f1 f2 hJ.1 HLEN.out hJ.2 HLT.out
      refine Reg.rely_is (.pointer (some ⟨k, 0, none⟩)) (fun a w hI hF => Reg.det_plain rfl ?_) ?_
      · have f1 : a.tmps.getD 41 undef = .pointer (some ⟨k, 0, none⟩) := hF 41 (Reg.looksB (by kernel_rfl))
        clear hF hI
        simp only [Array.getD_eq_getD_getElem?] at f1
        simp only [execOp]; go_simp
      refine Reg.rely_is (.pointer (some ⟨k, 1, none⟩)) (fun a w hI hF => Reg.det_plain rfl ?_) ?_
      · have f1 : a.tmps.getD 53 undef = .pointer (some ⟨k, 0, none⟩) := hF 53 (Reg.looksB (by kernel_rfl))
        clear hF hI
        simp only [Array.getD_eq_getD_getElem?] at f1
        simp only [execOp]; go_simp
      refine Reg.rely_nil ?_
      refine Reg.final_is ?_
      refine Reg.final_is ?_
      refine Reg.final_rel (fun v11 => ?_)
      refine Reg.final_is ?_
      refine Reg.final_rel (fun v9 => ?_)
      refine Reg.final_is ?_
      refine Reg.final_is ?_
      refine Reg.final_is ?_
      refine Reg.final_is ?_
      refine Reg.final_is ?_
      refine Reg.final_is ?_
      refine Reg.final_is ?_
      refine Reg.final_is ?_
      refine Reg.final_is ?_
      refine Reg.final_nil (fun w9 hF => ?_)
      have HI9 := Lib.hid hF.1.1
      have HS9 := Lib.hid hF.1.2
      clear hF
      simp only [List.drop_succ_cons, List.drop_zero]
      go_simp
      have d1 : w9.cell? ⟨k, 1, none⟩ = some (.slice pO out'.length cO) := by rw [HI9.out.kb.cell 1]; rfl
      have f1 := HI9.out.kb.frozen 1
      obtain ⟨p9, c9, rfl⟩ := owns_slice HS9.out
      go_wp2_with fail
      refine Reg.fin (by kernel_rfl) ?_
      go_wp2_with fail
      go_end0
      have hkw := KWr.put2 HI9.out.kb HGE.out HS9.out
      simp only [List.length_append] at hkw
      exact ⟨rfl, HFB.out hkw.1, HOV.out.trans (HI9.out.on.trans hkw.2)⟩
set_option maxRecDepth 100000 in
set_option maxHeartbeats 2000000 in
theorem numw_err {x most : Int} (c : KWb w B k out bad L) (hB : B ≤ w.heap.size) (hL : L ≤ 1000000000) (hx : w.cell? ⟨g, o, none⟩ = some (.int .i64 x)) (hg : Away w B k g) (hr : I64 x) :
    Calls Try.prog 46 #[.pointer (some ⟨k, 0, none⟩), .pointer (some ⟨g, o, none⟩), .int .u64 most] w (WrP w B k (out ++ wU x) (bad || nb x most) (L + 10)) := by
  obtain ⟨out', c, ho, hl⟩ := c
  obtain ⟨vO, h1, h2, h3⟩ := c
  obtain ⟨pO, cO, rfl⟩ := owns_slice h2
  have c0 : w.cell? ⟨k, 0, none⟩ = some (.pointer none) := by rw [h1.cell 0]; rfl
  have c1 : w.cell? ⟨k, 1, none⟩ = some (.slice pO out'.length cO) := by rw [h1.cell 1]; rfl
  have c2 : w.cell? ⟨k, 2, none⟩ = some (.bool bad) := by rw [h1.cell 2]; rfl
  have cf := h1.frozen
  have HBK := Lib.hid h1
  have HRW := Lib.hid h2
  have HGE := Lib.hid h3
  have HG := Lib.hid hg
  have HO := Lib.hid (And.intro ho hl)
  have HL := Lib.hid hL
  have HB := Lib.hid hB
  have hyy : U64 (IntKind.u64.wrap x) ∧ (0 ≤ x → IntKind.u64.wrap x = x) := by rw [IntKind.wrap_u64]; unfold U64; unfold I64 at hr; omega
  obtain ⟨y, hy⟩ : ∃ y, IntKind.u64.wrap x = y := ⟨_, rfl⟩
  rw [hy] at hyy
  have HY := Lib.hid hyy
  obtain ⟨bb, hbb⟩ : ∃ bb, (bad || nb x most) = bb := ⟨_, rfl⟩
  rw [hbb]
  have HBB := Lib.hid hbb
  have HLEN : Hid (out'.length + (Num.lebS y).size ≤ 140737488355328) := Lib.hid (by have := lebS_size HY.out.1.2; have := HO.out.2; have := HL.out; omega)
  have HFB : Hid (∀ {W : World}, KWr W B k (out' ++ Ms.bl (Num.lebS y)) bb → KWb W B k (out ++ wU x) bb (L + 10)) := Lib.hid fun h => KWr.kwb h HO.out.1 HO.out.2 (fun e => by
    have h := HBB.out
    rw [e, Bool.or_eq_false_iff] at h
    have h0 := (nb_false.1 h.2).1
    refine ⟨h.1, ?_⟩
    rw [Ms.bl_leb, HY.out.2 h0]
    rfl) (by rw [Ms.bl_len]; exact lebS_size HY.out.1.2)
  have HW : Hid (∀ (w : World) gl, Blk w gl 22 #[.int .u64 y] → Calls Try.prog 24 #[.slice (some ⟨gl, 0, none⟩) 1 1] w (StPost (Num.lebS y) w)) := Lib.hid fun w gl h => uintsB HY.out.1 h
  clear h1 h2 h3 hg ho hl hL hB hyy hr
  cases bad with
  | true =>
    have hbt : bb = true := by rw [← hbb]; rfl
    clear hbb
    subst hbt
    go_enter Try.func46, Try.ntmps46
    go_upto_region 3 with fail
    have OV : Only (· = k) w (w.setCell ⟨k, 2, none⟩ (.bool true)) := (Only.refl _ w).set1
    have HBV : Hid (Blk (w.setCell ⟨k, 2, none⟩ (.bool true)) k 51 #[.pointer none, .slice pO out'.length cO, .bool true]) := Lib.hid (HBK.out.set 2 (.bool true))
    have HRV := Lib.hid (owns_only HRW.out OV (owns_ne HRW.out HBK.out (by decide)))
    have HOV : Hid (OnW B k w (w.setCell ⟨k, 2, none⟩ (.bool true))) := Lib.hid (OV.mono fun j _ e => .inl e)
    have y1 := HOV.out.cell HG.out hx
    have HAV := Lib.hid (HG.out.onW HOV.out (World.block_lt_of_cell? _ _ hx))
    have HBS : Hid (B ≤ ((w.setCell ⟨k, 2, none⟩ (.bool true))).heap.size) := Lib.hid (Nat.le_trans HB.out OV.size)
    clear OV c0 c1 c2 cf hx
    generalize (w.setCell ⟨k, 2, none⟩ (.bool true)) = V at *
    have HI0 : Hid (PutI V B k g o (.slice pO out'.length cO) true (.int .i64 x) V) := Lib.hid ⟨HBV.out, y1, OnW.refl _ _ _, HAV.out⟩
    have HROW : Hid (V.drew.ownsRow B 5 1 (.slice pO out'.length cO) out'.length (Lib.byteCells out') ∧ B ≤ V.drew.heap.size) := Lib.hid ⟨HRV.out, HBS.out⟩
    have HLT : Hid (∀ j, (Value.slice pO out'.length cO).ownBlock = some j → j < V.heap.size) := Lib.hid fun j hj => (owns_type HRV.out hj).choose_spec.2.2
    clear y1
    refine Reg.wp_rely 14 (PutI V B k g o (.slice pO out'.length cO) true (.int .i64 x)) (by kernel_rfl) (Reg.relyOk_of (by kernel_rfl)) HI0.out.drew (fun w w' h hI => hI.below h) ?_
    refine Reg.rely_plain (.pointer (some ⟨k, 0, none⟩)) rfl (fun a w hI hF => by
        have f1 : a.tmps.getD 0 undef = .pointer (some ⟨k, 0, none⟩) := hF 0 (Reg.looksB (by kernel_rfl))
        clear hF hI
        simp only [Array.getD_eq_getD_getElem?] at f1
        simp only [execOp]; go_simp) ?_
    refine Reg.rely_plain (.pointer (some ⟨k, 0, none⟩)) rfl (fun a w hI hF => by
        have f1 : a.tmps.getD 0 undef = .pointer (some ⟨k, 0, none⟩) := hF 0 (Reg.looksB (by kernel_rfl))
        clear hF hI
        simp only [Array.getD_eq_getD_getElem?] at f1
        simp only [execOp]; go_simp) ?_
    refine Reg.rely_plain (.pointer (some ⟨k, 0, none⟩)) rfl (fun a w hI hF => by
        have f1 : a.tmps.getD 42 undef = .pointer (some ⟨k, 0, none⟩) := hF 42 (Reg.looksB (by kernel_rfl))
        clear hF hI
        simp only [Array.getD_eq_getD_getElem?] at f1
        simp only [execOp]; go_simp) ?_
    refine Reg.rely_plain (.pointer (some ⟨k, 1, none⟩)) rfl (fun a w hI hF => by
        have f1 : a.tmps.getD 43 undef = .pointer (some ⟨k, 0, none⟩) := hF 43 (Reg.looksB (by kernel_rfl))
        clear hF hI
        simp only [Array.getD_eq_getD_getElem?] at f1
        simp only [execOp]; go_simp) ?_
    refine Reg.rely_plain (.slice pO out'.length cO) rfl (fun a w hI hF => by
        have f1 : a.tmps.getD 44 undef = .pointer (some ⟨k, 1, none⟩) := hF 44 (Reg.looksB (by kernel_rfl))
        have hc : w.cell? ⟨k, 1, none⟩ = some (.slice pO out'.length cO) := by rw [hI.kb.cell 1]; rfl
        clear hF hI
        simp only [Array.getD_eq_getD_getElem?] at f1
        simp only [execOp]; go_simp) ?_
    refine Reg.rely_plain (.pointer (some ⟨g, o, none⟩)) rfl (fun a w hI hF => by
        have f1 : a.tmps.getD 1 undef = .pointer (some ⟨g, o, none⟩) := hF 1 (Reg.looksB (by kernel_rfl))
        clear hF hI
        simp only [Array.getD_eq_getD_getElem?] at f1
        simp only [execOp]; go_simp) ?_
    refine Reg.rely_plain (.pointer (some ⟨g, o, none⟩)) rfl (fun a w hI hF => by
        have f1 : a.tmps.getD 46 undef = .pointer (some ⟨g, o, none⟩) := hF 46 (Reg.looksB (by kernel_rfl))
        clear hF hI
        simp only [Array.getD_eq_getD_getElem?] at f1
        simp only [execOp]; go_simp) ?_
    refine Reg.rely_plain (.int .i64 x) rfl (fun a w hI hF => by
        have f1 : a.tmps.getD 47 undef = .pointer (some ⟨g, o, none⟩) := hF 47 (Reg.looksB (by kernel_rfl))
        have hc := hI.cell
        clear hF hI
        simp only [Array.getD_eq_getD_getElem?] at f1
        simp only [execOp]; go_simp) ?_
    refine Reg.rely_plain (.int .u64 y) rfl (fun a w hI hF => by
        have f1 : a.tmps.getD 48 undef = .int .i64 x := hF 48 (Reg.looksB (by kernel_rfl))
        clear hF hI
        simp only [Array.getD_eq_getD_getElem?] at f1
        simp only [execOp]; go_simp) ?_
    refine Reg.rely_rel (fun v w => ∃ gl, v = .slice (some ⟨gl, 0, none⟩) 1 1 ∧ V.heap.size ≤ gl ∧ Blk w gl 22 #[.int .u64 y]) (fun v w w' h hS => by obtain ⟨gl, h1, h2, h3⟩ := hS; exact ⟨gl, h1, h2, h3.below h⟩) (fun G hG => by cases hG) rfl (fun a w hI hF => by
      have f1 : a.tmps.getD 49 undef = .int .u64 y := hF 49 (Reg.looksB (by kernel_rfl))
      have hK := Lib.hid (Blk.new w 22 #[.int .u64 y])
      have hQ := Lib.hid hI.on.size
      have hW := Lib.hid (show Reg.Grow w (w.alloc (.cells #[.int .u64 y] 22)) from (Below.refl _ w).alloc (Nat.le_refl _) _)
      clear hF hI
      simp only [Array.getD_eq_getD_getElem?] at f1
      unfold Oper.wp
      simp only [execOp]
      go_simp
      exact ⟨_, rfl, ⟨_, rfl, hQ.out, hK.out⟩, hW.out⟩) ?_
    refine Reg.rely_call0 (Reg.Is (.string (Num.lebS y))) (Reg.stab_is _ _) (fun G hG => by cases hG) rfl (fun a w hI hF => by
      obtain ⟨gl, f1, hg1, hgl⟩ : ∃ gl, a.tmps.getD 50 undef = .slice (some ⟨gl, 0, none⟩) 1 1 ∧ V.heap.size ≤ gl ∧ Blk w gl 22 #[.int .u64 y] := hF 50 (Reg.looksB (by kernel_rfl))
      refine ⟨24, #[.slice (some ⟨gl, 0, none⟩) 1 1], ?_, (HW.out w gl hgl).mono fun e w' h => ⟨_, h.1, rfl, h.2⟩⟩
      clear hF hI hgl hg1
      simp only [Array.getD_eq_getD_getElem?] at f1
      simp only [execOp]; go_simp) ?_
    refine Reg.rely_turn (fun v w => w.ownsRow B 5 1 v (out' ++ Ms.bl (Num.lebS y)).length (Lib.byteCells (out' ++ Ms.bl (Num.lebS y)))) (PutG V.heap.size B (.slice pO out'.length cO)) (fun w => w.ownsRow B 5 1 (.slice pO out'.length cO) out'.length (Lib.byteCells out') ∧ B ≤ w.heap.size) (fun v w w' h hS => owns_below hS h) (fun G hG => by cases hG) (fun w w' h hI => hI.turn h) ?_ rfl (fun w w' h hJ => ⟨owns_below hJ.1 h, Nat.le_trans hJ.2 h.size⟩) ⟨HROW.out.1, HROW.out.2⟩ (fun G hG => by cases hG) (fun G hG => by cases hG) (fun a w hI hJ hF => ?_) ?_
    · intro p hp
      repeat (rcases List.mem_cons.1 hp with rfl | hp; first | exact Reg.stab_is _ _ | exact fun v w w' h hS => by obtain ⟨gl, h1, h2, h3⟩ := hS; exact ⟨gl, h1, h2, h.keep h2 h3⟩)
      cases hp
    · have f1 : a.tmps.getD 45 undef = .slice pO out'.length cO := hF 45 (Reg.looksB (by kernel_rfl))
      have f2 : a.tmps.getD 51 undef = .string (Num.lebS y) := hF 51 (Reg.looksB (by kernel_rfl))
      exact putRun (t := 49) (u := 9) (sl := .tmp 45) (x := .tmp 51) rfl Try.underlying49 Try.underlying9 info_u8 rfl f1 f2 hJ.1 HLEN.out hJ.2 HLT.out
    refine Reg.rely_is (.pointer (some ⟨k, 0, none⟩)) (fun a w hI hF => Reg.det_plain rfl ?_) ?_
    · have f1 : a.tmps.getD 41 undef = .pointer (some ⟨k, 0, none⟩) := hF 41 (Reg.looksB (by kernel_rfl))
      clear hF hI
      simp only [Array.getD_eq_getD_getElem?] at f1
      simp only [execOp]; go_simp
    refine Reg.rely_is (.pointer (some ⟨k, 1, none⟩)) (fun a w hI hF => Reg.det_plain rfl ?_) ?_
    · have f1 : a.tmps.getD 53 undef = .pointer (some ⟨k, 0, none⟩) := hF 53 (Reg.looksB (by kernel_rfl))
      clear hF hI
      simp only [Array.getD_eq_getD_getElem?] at f1
      simp only [execOp]; go_simp
    refine Reg.rely_nil ?_
    refine Reg.final_is ?_
    refine Reg.final_is ?_
    refine Reg.final_rel (fun v11 => ?_)
    refine Reg.final_is ?_
    refine Reg.final_rel (fun v9 => ?_)
    refine Reg.final_is ?_
    refine Reg.final_is ?_
    refine Reg.final_is ?_
    refine Reg.final_is ?_
    refine Reg.final_is ?_
    refine Reg.final_is ?_
    refine Reg.final_is ?_
    refine Reg.final_is ?_
    refine Reg.final_is ?_
    refine Reg.final_nil (fun w9 hF => ?_)
    have HI9 := Lib.hid hF.1.1
    have HS9 := Lib.hid hF.1.2
    clear hF
    simp only [List.drop_succ_cons, List.drop_zero]
    go_simp
    have d1 : w9.cell? ⟨k, 1, none⟩ = some (.slice pO out'.length cO) := by rw [HI9.out.kb.cell 1]; rfl
    have f1 := HI9.out.kb.frozen 1
    obtain ⟨p9, c9, rfl⟩ := owns_slice HS9.out
    go_wp2_with fail
    refine Reg.fin (by kernel_rfl) ?_
    go_wp2_with fail
    go_end0
    have hkw := KWr.put2 HI9.out.kb HGE.out HS9.out
    simp only [List.length_append] at hkw
    exact ⟨rfl, HFB.out hkw.1, HOV.out.trans (HI9.out.on.trans hkw.2)⟩
  | false =>
    by_cases hx0 : x < 0
    · have hbt : bb = true := by rw [← hbb]; unfold nb; rw [decide_eq_true hx0]; rfl
      clear hbb
      subst hbt
      go_enter Try.func46, Try.ntmps46
      go_upto_region 3 with fail
      have OV : Only (· = k) w (w.setCell ⟨k, 2, none⟩ (.bool true)) := (Only.refl _ w).set1
      have HBV : Hid (Blk (w.setCell ⟨k, 2, none⟩ (.bool true)) k 51 #[.pointer none, .slice pO out'.length cO, .bool true]) := Lib.hid (HBK.out.set 2 (.bool true))
      have HRV := Lib.hid (owns_only HRW.out OV (owns_ne HRW.out HBK.out (by decide)))
      have HOV : Hid (OnW B k w (w.setCell ⟨k, 2, none⟩ (.bool true))) := Lib.hid (OV.mono fun j _ e => .inl e)
      have y1 := HOV.out.cell HG.out hx
      have HAV := Lib.hid (HG.out.onW HOV.out (World.block_lt_of_cell? _ _ hx))
      have HBS : Hid (B ≤ ((w.setCell ⟨k, 2, none⟩ (.bool true))).heap.size) := Lib.hid (Nat.le_trans HB.out OV.size)
      clear OV c0 c1 c2 cf hx
      generalize (w.setCell ⟨k, 2, none⟩ (.bool true)) = V at *
      have HI0 : Hid (PutI V B k g o (.slice pO out'.length cO) true (.int .i64 x) V) := Lib.hid ⟨HBV.out, y1, OnW.refl _ _ _, HAV.out⟩
      have HROW : Hid (V.drew.ownsRow B 5 1 (.slice pO out'.length cO) out'.length (Lib.byteCells out') ∧ B ≤ V.drew.heap.size) := Lib.hid ⟨HRV.out, HBS.out⟩
      have HLT : Hid (∀ j, (Value.slice pO out'.length cO).ownBlock = some j → j < V.heap.size) := Lib.hid fun j hj => (owns_type HRV.out hj).choose_spec.2.2
      clear y1
      refine Reg.wp_rely 14 (PutI V B k g o (.slice pO out'.length cO) true (.int .i64 x)) (by kernel_rfl) (Reg.relyOk_of (by kernel_rfl)) HI0.out.drew (fun w w' h hI => hI.below h) ?_
      refine Reg.rely_plain (.pointer (some ⟨k, 0, none⟩)) rfl (fun a w hI hF => by
          have f1 : a.tmps.getD 0 undef = .pointer (some ⟨k, 0, none⟩) := hF 0 (Reg.looksB (by kernel_rfl))
          clear hF hI
          simp only [Array.getD_eq_getD_getElem?] at f1
          simp only [execOp]; go_simp) ?_
      refine Reg.rely_plain (.pointer (some ⟨k, 0, none⟩)) rfl (fun a w hI hF => by
          have f1 : a.tmps.getD 0 undef = .pointer (some ⟨k, 0, none⟩) := hF 0 (Reg.looksB (by kernel_rfl))
          clear hF hI
          simp only [Array.getD_eq_getD_getElem?] at f1
          simp only [execOp]; go_simp) ?_
      refine Reg.rely_plain (.pointer (some ⟨k, 0, none⟩)) rfl (fun a w hI hF => by
          have f1 : a.tmps.getD 42 undef = .pointer (some ⟨k, 0, none⟩) := hF 42 (Reg.looksB (by kernel_rfl))
          clear hF hI
          simp only [Array.getD_eq_getD_getElem?] at f1
          simp only [execOp]; go_simp) ?_
      refine Reg.rely_plain (.pointer (some ⟨k, 1, none⟩)) rfl (fun a w hI hF => by
          have f1 : a.tmps.getD 43 undef = .pointer (some ⟨k, 0, none⟩) := hF 43 (Reg.looksB (by kernel_rfl))
          clear hF hI
          simp only [Array.getD_eq_getD_getElem?] at f1
          simp only [execOp]; go_simp) ?_
      refine Reg.rely_plain (.slice pO out'.length cO) rfl (fun a w hI hF => by
          have f1 : a.tmps.getD 44 undef = .pointer (some ⟨k, 1, none⟩) := hF 44 (Reg.looksB (by kernel_rfl))
          have hc : w.cell? ⟨k, 1, none⟩ = some (.slice pO out'.length cO) := by rw [hI.kb.cell 1]; rfl
          clear hF hI
          simp only [Array.getD_eq_getD_getElem?] at f1
          simp only [execOp]; go_simp) ?_
      refine Reg.rely_plain (.pointer (some ⟨g, o, none⟩)) rfl (fun a w hI hF => by
          have f1 : a.tmps.getD 1 undef = .pointer (some ⟨g, o, none⟩) := hF 1 (Reg.looksB (by kernel_rfl))
          clear hF hI
          simp only [Array.getD_eq_getD_getElem?] at f1
          simp only [execOp]; go_simp) ?_
      refine Reg.rely_plain (.pointer (some ⟨g, o, none⟩)) rfl (fun a w hI hF => by
          have f1 : a.tmps.getD 46 undef = .pointer (some ⟨g, o, none⟩) := hF 46 (Reg.looksB (by kernel_rfl))
          clear hF hI
          simp only [Array.getD_eq_getD_getElem?] at f1
          simp only [execOp]; go_simp) ?_
      refine Reg.rely_plain (.int .i64 x) rfl (fun a w hI hF => by
          have f1 : a.tmps.getD 47 undef = .pointer (some ⟨g, o, none⟩) := hF 47 (Reg.looksB (by kernel_rfl))
          have hc := hI.cell
          clear hF hI
          simp only [Array.getD_eq_getD_getElem?] at f1
          simp only [execOp]; go_simp) ?_
      refine Reg.rely_plain (.int .u64 y) rfl (fun a w hI hF => by
          have f1 : a.tmps.getD 48 undef = .int .i64 x := hF 48 (Reg.looksB (by kernel_rfl))
          clear hF hI
          simp only [Array.getD_eq_getD_getElem?] at f1
          simp only [execOp]; go_simp) ?_
      refine Reg.rely_rel (fun v w => ∃ gl, v = .slice (some ⟨gl, 0, none⟩) 1 1 ∧ V.heap.size ≤ gl ∧ Blk w gl 22 #[.int .u64 y]) (fun v w w' h hS => by obtain ⟨gl, h1, h2, h3⟩ := hS; exact ⟨gl, h1, h2, h3.below h⟩) (fun G hG => by cases hG) rfl (fun a w hI hF => by
        have f1 : a.tmps.getD 49 undef = .int .u64 y := hF 49 (Reg.looksB (by kernel_rfl))
        have hK := Lib.hid (Blk.new w 22 #[.int .u64 y])
        have hQ := Lib.hid hI.on.size
        have hW := Lib.hid (show Reg.Grow w (w.alloc (.cells #[.int .u64 y] 22)) from (Below.refl _ w).alloc (Nat.le_refl _) _)
        clear hF hI
        simp only [Array.getD_eq_getD_getElem?] at f1
        unfold Oper.wp
        simp only [execOp]
        go_simp
        exact ⟨_, rfl, ⟨_, rfl, hQ.out, hK.out⟩, hW.out⟩) ?_
      refine Reg.rely_call0 (Reg.Is (.string (Num.lebS y))) (Reg.stab_is _ _) (fun G hG => by cases hG) rfl (fun a w hI hF => by
        obtain ⟨gl, f1, hg1, hgl⟩ : ∃ gl, a.tmps.getD 50 undef = .slice (some ⟨gl, 0, none⟩) 1 1 ∧ V.heap.size ≤ gl ∧ Blk w gl 22 #[.int .u64 y] := hF 50 (Reg.looksB (by kernel_rfl))
        refine ⟨24, #[.slice (some ⟨gl, 0, none⟩) 1 1], ?_, (HW.out w gl hgl).mono fun e w' h => ⟨_, h.1, rfl, h.2⟩⟩
        clear hF hI hgl hg1
        simp only [Array.getD_eq_getD_getElem?] at f1
        simp only [execOp]; go_simp) ?_
      refine Reg.rely_turn (fun v w => w.ownsRow B 5 1 v (out' ++ Ms.bl (Num.lebS y)).length (Lib.byteCells (out' ++ Ms.bl (Num.lebS y)))) (PutG V.heap.size B (.slice pO out'.length cO)) (fun w => w.ownsRow B 5 1 (.slice pO out'.length cO) out'.length (Lib.byteCells out') ∧ B ≤ w.heap.size) (fun v w w' h hS => owns_below hS h) (fun G hG => by cases hG) (fun w w' h hI => hI.turn h) ?_ rfl (fun w w' h hJ => ⟨owns_below hJ.1 h, Nat.le_trans hJ.2 h.size⟩) ⟨HROW.out.1, HROW.out.2⟩ (fun G hG => by cases hG) (fun G hG => by cases hG) (fun a w hI hJ hF => ?_) ?_
      · intro p hp
        repeat (rcases List.mem_cons.1 hp with rfl | hp; first | exact Reg.stab_is _ _ | exact fun v w w' h hS => by obtain ⟨gl, h1, h2, h3⟩ := hS; exact ⟨gl, h1, h2, h.keep h2 h3⟩)
        cases hp
      · have f1 : a.tmps.getD 45 undef = .slice pO out'.length cO := hF 45 (Reg.looksB (by kernel_rfl))
        have f2 : a.tmps.getD 51 undef = .string (Num.lebS y) := hF 51 (Reg.looksB (by kernel_rfl))
        exact putRun (t := 49) (u := 9) (sl := .tmp 45) (x := .tmp 51) rfl Try.underlying49 Try.underlying9 info_u8 rfl f1 f2 hJ.1 HLEN.out hJ.2 HLT.out
      refine Reg.rely_is (.pointer (some ⟨k, 0, none⟩)) (fun a w hI hF => Reg.det_plain rfl ?_) ?_
      · have f1 : a.tmps.getD 41 undef = .pointer (some ⟨k, 0, none⟩) := hF 41 (Reg.looksB (by kernel_rfl))
        clear hF hI
        simp only [Array.getD_eq_getD_getElem?] at f1
        simp only [execOp]; go_simp
      refine Reg.rely_is (.pointer (some ⟨k, 1, none⟩)) (fun a w hI hF => Reg.det_plain rfl ?_) ?_
      · have f1 : a.tmps.getD 53 undef = .pointer (some ⟨k, 0, none⟩) := hF 53 (Reg.looksB (by kernel_rfl))
        clear hF hI
        simp only [Array.getD_eq_getD_getElem?] at f1
        simp only [execOp]; go_simp
      refine Reg.rely_nil ?_
      refine Reg.final_is ?_
      refine Reg.final_is ?_
      refine Reg.final_rel (fun v11 => ?_)
      refine Reg.final_is ?_
      refine Reg.final_rel (fun v9 => ?_)
      refine Reg.final_is ?_
      refine Reg.final_is ?_
      refine Reg.final_is ?_
      refine Reg.final_is ?_
      refine Reg.final_is ?_
      refine Reg.final_is ?_
      refine Reg.final_is ?_
      refine Reg.final_is ?_
      refine Reg.final_is ?_
      refine Reg.final_nil (fun w9 hF => ?_)
      have HI9 := Lib.hid hF.1.1
      have HS9 := Lib.hid hF.1.2
      clear hF
      simp only [List.drop_succ_cons, List.drop_zero]
      go_simp
      have d1 : w9.cell? ⟨k, 1, none⟩ = some (.slice pO out'.length cO) := by rw [HI9.out.kb.cell 1]; rfl
      have f1 := HI9.out.kb.frozen 1
      obtain ⟨p9, c9, rfl⟩ := owns_slice HS9.out
      go_wp2_with fail
      refine Reg.fin (by kernel_rfl) ?_
      go_wp2_with fail
      go_end0
      have hkw := KWr.put2 HI9.out.kb HGE.out HS9.out
      simp only [List.length_append] at hkw
      exact ⟨rfl, HFB.out hkw.1, HOV.out.trans (HI9.out.on.trans hkw.2)⟩
    · have hbb2 : decide (most < y) = bb := by rw [← hbb, HY.out.2 (by omega)]; unfold nb; rw [decide_eq_false hx0]; rfl
      clear hbb
      go_enter Try.func46, Try.ntmps46
      go_upto_region 3 with fail
      have OV : Only (· = k) w (w.setCell ⟨k, 2, none⟩ (.bool bb)) := (Only.refl _ w).set1
      have HBV : Hid (Blk (w.setCell ⟨k, 2, none⟩ (.bool bb)) k 51 #[.pointer none, .slice pO out'.length cO, .bool bb]) := Lib.hid (HBK.out.set 2 (.bool bb))
      have HRV := Lib.hid (owns_only HRW.out OV (owns_ne HRW.out HBK.out (by decide)))
      have HOV : Hid (OnW B k w (w.setCell ⟨k, 2, none⟩ (.bool bb))) := Lib.hid (OV.mono fun j _ e => .inl e)
      have y1 := HOV.out.cell HG.out hx
      have HAV := Lib.hid (HG.out.onW HOV.out (World.block_lt_of_cell? _ _ hx))
      have HBS : Hid (B ≤ ((w.setCell ⟨k, 2, none⟩ (.bool bb))).heap.size) := Lib.hid (Nat.le_trans HB.out OV.size)
      clear OV c0 c1 c2 cf hx
      generalize (w.setCell ⟨k, 2, none⟩ (.bool bb)) = V at *
      have HI0 : Hid (PutI V B k g o (.slice pO out'.length cO) bb (.int .i64 x) V) := Lib.hid ⟨HBV.out, y1, OnW.refl _ _ _, HAV.out⟩
      have HROW : Hid (V.drew.ownsRow B 5 1 (.slice pO out'.length cO) out'.length (Lib.byteCells out') ∧ B ≤ V.drew.heap.size) := Lib.hid ⟨HRV.out, HBS.out⟩
      have HLT : Hid (∀ j, (Value.slice pO out'.length cO).ownBlock = some j → j < V.heap.size) := Lib.hid fun j hj => (owns_type HRV.out hj).choose_spec.2.2
      clear y1
      refine Reg.wp_rely 14 (PutI V B k g o (.slice pO out'.length cO) bb (.int .i64 x)) (by kernel_rfl) (Reg.relyOk_of (by kernel_rfl)) HI0.out.drew (fun w w' h hI => hI.below h) ?_
      refine Reg.rely_plain (.pointer (some ⟨k, 0, none⟩)) rfl (fun a w hI hF => by
          have f1 : a.tmps.getD 0 undef = .pointer (some ⟨k, 0, none⟩) := hF 0 (Reg.looksB (by kernel_rfl))
          clear hF hI
          simp only [Array.getD_eq_getD_getElem?] at f1
          simp only [execOp]; go_simp) ?_
      refine Reg.rely_plain (.pointer (some ⟨k, 0, none⟩)) rfl (fun a w hI hF => by
          have f1 : a.tmps.getD 0 undef = .pointer (some ⟨k, 0, none⟩) := hF 0 (Reg.looksB (by kernel_rfl))
          clear hF hI
          simp only [Array.getD_eq_getD_getElem?] at f1
          simp only [execOp]; go_simp) ?_
      refine Reg.rely_plain (.pointer (some ⟨k, 0, none⟩)) rfl (fun a w hI hF => by
          have f1 : a.tmps.getD 42 undef = .pointer (some ⟨k, 0, none⟩) := hF 42 (Reg.looksB (by kernel_rfl))
          clear hF hI
          simp only [Array.getD_eq_getD_getElem?] at f1
          simp only [execOp]; go_simp) ?_
      refine Reg.rely_plain (.pointer (some ⟨k, 1, none⟩)) rfl (fun a w hI hF => by
          have f1 : a.tmps.getD 43 undef = .pointer (some ⟨k, 0, none⟩) := hF 43 (Reg.looksB (by kernel_rfl))
          clear hF hI
          simp only [Array.getD_eq_getD_getElem?] at f1
          simp only [execOp]; go_simp) ?_
      refine Reg.rely_plain (.slice pO out'.length cO) rfl (fun a w hI hF => by
          have f1 : a.tmps.getD 44 undef = .pointer (some ⟨k, 1, none⟩) := hF 44 (Reg.looksB (by kernel_rfl))
          have hc : w.cell? ⟨k, 1, none⟩ = some (.slice pO out'.length cO) := by rw [hI.kb.cell 1]; rfl
          clear hF hI
          simp only [Array.getD_eq_getD_getElem?] at f1
          simp only [execOp]; go_simp) ?_
      refine Reg.rely_plain (.pointer (some ⟨g, o, none⟩)) rfl (fun a w hI hF => by
          have f1 : a.tmps.getD 1 undef = .pointer (some ⟨g, o, none⟩) := hF 1 (Reg.looksB (by kernel_rfl))
          clear hF hI
          simp only [Array.getD_eq_getD_getElem?] at f1
          simp only [execOp]; go_simp) ?_
      refine Reg.rely_plain (.pointer (some ⟨g, o, none⟩)) rfl (fun a w hI hF => by
          have f1 : a.tmps.getD 46 undef = .pointer (some ⟨g, o, none⟩) := hF 46 (Reg.looksB (by kernel_rfl))
          clear hF hI
          simp only [Array.getD_eq_getD_getElem?] at f1
          simp only [execOp]; go_simp) ?_
      refine Reg.rely_plain (.int .i64 x) rfl (fun a w hI hF => by
          have f1 : a.tmps.getD 47 undef = .pointer (some ⟨g, o, none⟩) := hF 47 (Reg.looksB (by kernel_rfl))
          have hc := hI.cell
          clear hF hI
          simp only [Array.getD_eq_getD_getElem?] at f1
          simp only [execOp]; go_simp) ?_
      refine Reg.rely_plain (.int .u64 y) rfl (fun a w hI hF => by
          have f1 : a.tmps.getD 48 undef = .int .i64 x := hF 48 (Reg.looksB (by kernel_rfl))
          clear hF hI
          simp only [Array.getD_eq_getD_getElem?] at f1
          simp only [execOp]; go_simp) ?_
      refine Reg.rely_rel (fun v w => ∃ gl, v = .slice (some ⟨gl, 0, none⟩) 1 1 ∧ V.heap.size ≤ gl ∧ Blk w gl 22 #[.int .u64 y]) (fun v w w' h hS => by obtain ⟨gl, h1, h2, h3⟩ := hS; exact ⟨gl, h1, h2, h3.below h⟩) (fun G hG => by cases hG) rfl (fun a w hI hF => by
        have f1 : a.tmps.getD 49 undef = .int .u64 y := hF 49 (Reg.looksB (by kernel_rfl))
        have hK := Lib.hid (Blk.new w 22 #[.int .u64 y])
        have hQ := Lib.hid hI.on.size
        have hW := Lib.hid (show Reg.Grow w (w.alloc (.cells #[.int .u64 y] 22)) from (Below.refl _ w).alloc (Nat.le_refl _) _)
        clear hF hI
        simp only [Array.getD_eq_getD_getElem?] at f1
        unfold Oper.wp
        simp only [execOp]
        go_simp
        exact ⟨_, rfl, ⟨_, rfl, hQ.out, hK.out⟩, hW.out⟩) ?_
      refine Reg.rely_call0 (Reg.Is (.string (Num.lebS y))) (Reg.stab_is _ _) (fun G hG => by cases hG) rfl (fun a w hI hF => by
        obtain ⟨gl, f1, hg1, hgl⟩ : ∃ gl, a.tmps.getD 50 undef = .slice (some ⟨gl, 0, none⟩) 1 1 ∧ V.heap.size ≤ gl ∧ Blk w gl 22 #[.int .u64 y] := hF 50 (Reg.looksB (by kernel_rfl))
        refine ⟨24, #[.slice (some ⟨gl, 0, none⟩) 1 1], ?_, (HW.out w gl hgl).mono fun e w' h => ⟨_, h.1, rfl, h.2⟩⟩
        clear hF hI hgl hg1
        simp only [Array.getD_eq_getD_getElem?] at f1
        simp only [execOp]; go_simp) ?_
      refine Reg.rely_turn (fun v w => w.ownsRow B 5 1 v (out' ++ Ms.bl (Num.lebS y)).length (Lib.byteCells (out' ++ Ms.bl (Num.lebS y)))) (PutG V.heap.size B (.slice pO out'.length cO)) (fun w => w.ownsRow B 5 1 (.slice pO out'.length cO) out'.length (Lib.byteCells out') ∧ B ≤ w.heap.size) (fun v w w' h hS => owns_below hS h) (fun G hG => by cases hG) (fun w w' h hI => hI.turn h) ?_ rfl (fun w w' h hJ => ⟨owns_below hJ.1 h, Nat.le_trans hJ.2 h.size⟩) ⟨HROW.out.1, HROW.out.2⟩ (fun G hG => by cases hG) (fun G hG => by cases hG) (fun a w hI hJ hF => ?_) ?_
      · intro p hp
        repeat (rcases List.mem_cons.1 hp with rfl | hp; first | exact Reg.stab_is _ _ | exact fun v w w' h hS => by obtain ⟨gl, h1, h2, h3⟩ := hS; exact ⟨gl, h1, h2, h.keep h2 h3⟩)
        cases hp
      · have f1 : a.tmps.getD 45 undef = .slice pO out'.length cO := hF 45 (Reg.looksB (by kernel_rfl))
        have f2 : a.tmps.getD 51 undef = .string (Num.lebS y) := hF 51 (Reg.looksB (by kernel_rfl))
        exact putRun (t := 49) (u := 9) (sl := .tmp 45) (x := .tmp 51) rfl Try.underlying49 Try.underlying9 info_u8 rfl f1 f2 hJ.1 HLEN.out hJ.2 HLT.out
      refine Reg.rely_is (.pointer (some ⟨k, 0, none⟩)) (fun a w hI hF => Reg.det_plain rfl ?_) ?_
      · have f1 : a.tmps.getD 41 undef = .pointer (some ⟨k, 0, none⟩) := hF 41 (Reg.looksB (by kernel_rfl))
        clear hF hI
        simp only [Array.getD_eq_getD_getElem?] at f1
        simp only [execOp]; go_simp
      refine Reg.rely_is (.pointer (some ⟨k, 1, none⟩)) (fun a w hI hF => Reg.det_plain rfl ?_) ?_
      · have f1 : a.tmps.getD 53 undef = .pointer (some ⟨k, 0, none⟩) := hF 53 (Reg.looksB (by kernel_rfl))
        clear hF hI
        simp only [Array.getD_eq_getD_getElem?] at f1
        simp only [execOp]; go_simp
      refine Reg.rely_nil ?_
      refine Reg.final_is ?_
      refine Reg.final_is ?_
      refine Reg.final_rel (fun v11 => ?_)
      refine Reg.final_is ?_
      refine Reg.final_rel (fun v9 => ?_)
      refine Reg.final_is ?_
      refine Reg.final_is ?_
      refine Reg.final_is ?_
      refine Reg.final_is ?_
      refine Reg.final_is ?_
      refine Reg.final_is ?_
      refine Reg.final_is ?_
      refine Reg.final_is ?_
      refine Reg.final_is ?_
      refine Reg.final_nil (fun w9 hF => ?_)
      have HI9 := Lib.hid hF.1.1
      have HS9 := Lib.hid hF.1.2
      clear hF
      simp only [List.drop_succ_cons, List.drop_zero]
      go_simp
      have d1 : w9.cell? ⟨k, 1, none⟩ = some (.slice pO out'.length cO) := by rw [HI9.out.kb.cell 1]; rfl
      have f1 := HI9.out.kb.frozen 1
      obtain ⟨p9, c9, rfl⟩ := owns_slice HS9.out
      go_wp2_with fail
      refine Reg.fin (by kernel_rfl) ?_
      go_wp2_with fail
      go_end0
      have hkw := KWr.put2 HI9.out.kb HGE.out HS9.out
      simp only [List.length_append] at hkw
      exact ⟨rfl, HFB.out hkw.1, HOV.out.trans (HI9.out.on.trans hkw.2)⟩
end
end Go.Proofs.Ytghbjknpffiaiaa


/- The walks of a coder's bricks: whole, text, writing; all of them, reading. Printed by mkMsI.py. No condition but that numbers fit their kinds. -/
namespace Go.Proofs.Ytghbjknpffiaiaa
open Go.RowKit Wire Ms
set_option linter.unusedVariables false
set_option linter.unusedSimpArgs false
def RdP (w : World) (k rb g : Nat) (T : TypeId) (A : Array Value) (q : RS) (bad : Bool) (e : Ending) (w' : World) : Prop := e = .returned (.tuple #[]) ∧ Blk w' g T A ∧ KRd w' k rb q bad ∧ Only (fun j => j = k ∨ j = rb ∨ j = g) w w'
section
variable {w : World} {B k g o : Nat} {out : Ls} {bad : Bool} {L : Nat}
set_option maxRecDepth 100000 in
set_option maxHeartbeats 2000000 in
theorem wholew_any {x : Int} (c : KWb w B k out bad L) (hB : B ≤ w.heap.size) (hL : L ≤ 1000000000) (hx : w.cell? ⟨g, o, none⟩ = some (.int .i64 x)) (hg : Away w B k g) (hr : I64 x) :
    Calls Try.prog 54 #[.pointer (some ⟨k, 0, none⟩), .pointer (some ⟨g, o, none⟩)] w (WrP w B k (out ++ wI x) bad (L + 10)) := by
  obtain ⟨out', c, ho, hl⟩ := c
  obtain ⟨vO, h1, h2, h3⟩ := c
  obtain ⟨pO, cO, rfl⟩ := owns_slice h2
  have c0 : w.cell? ⟨k, 0, none⟩ = some (.pointer none) := by rw [h1.cell 0]; rfl
  have c1 : w.cell? ⟨k, 1, none⟩ = some (.slice pO out'.length cO) := by rw [h1.cell 1]; rfl
  have c2 : w.cell? ⟨k, 2, none⟩ = some (.bool bad) := by rw [h1.cell 2]; rfl
  have cf := h1.frozen
  have HBK := Lib.hid h1
  have HRW := Lib.hid h2
  have HGE := Lib.hid h3
  have HG := Lib.hid hg
  have HO := Lib.hid (And.intro ho hl)
  have HL := Lib.hid hL
  have HB := Lib.hid hB
  have hsz : (intS x).size ≤ 10 := lebS_size (U64_zig hr).2
  have HLEN : Hid (out'.length + (intS x).size ≤ 140737488355328) := Lib.hid (by have := HO.out.2; have := HL.out; omega)
  have HFB : Hid (∀ {W : World}, KWr W B k (out' ++ Ms.bl (intS x)) bad → KWb W B k (out ++ wI x) bad (L + 10)) := Lib.hid fun h => KWr.kwb h HO.out.1 HO.out.2 (fun e => ⟨e, Ms.bl_intS x⟩) (by rw [Ms.bl_len]; exact hsz)
  have HW : Hid (∀ (w : World) gl, Blk w gl 2 #[.int .i64 x] → Calls Try.prog 70 #[.slice (some ⟨gl, 0, none⟩) 1 1] w (StPost (intS x) w)) := Lib.hid fun w gl h => intsB hr h
  clear h1 h2 h3 hg ho hl hL hB hr hsz
  go_enter Try.func54, Try.ntmps54
  go_upto_region 2 with fail
  obtain ⟨V, hV⟩ : ∃ V, V = w := ⟨_, rfl⟩
  subst hV
  have HBV := HBK
  have HRV := HRW
  have HOV : Hid (OnW B k V V) := Lib.hid (OnW.refl _ _ _)
  have y1 := hx
  have HAV := HG
  have HBS := HB
  clear c0 c1 c2 cf hx
  have HI0 : Hid (PutI V B k g o (.slice pO out'.length cO) bad (.int .i64 x) V) := Lib.hid ⟨HBV.out, y1, OnW.refl _ _ _, HAV.out⟩
  have HROW : Hid (V.drew.ownsRow B 5 1 (.slice pO out'.length cO) out'.length (Lib.byteCells out') ∧ B ≤ V.drew.heap.size) := Lib.hid ⟨HRV.out, HBS.out⟩
  have HLT : Hid (∀ j, (Value.slice pO out'.length cO).ownBlock = some j → j < V.heap.size) := Lib.hid fun j hj => (owns_type HRV.out hj).choose_spec.2.2
  clear y1
  refine Reg.wp_rely 13 (PutI V B k g o (.slice pO out'.length cO) bad (.int .i64 x)) (by kernel_rfl) (Reg.relyOk_of (by kernel_rfl)) HI0.out.drew (fun w w' h hI => hI.below h) ?_
  refine Reg.rely_plain (.pointer (some ⟨k, 0, none⟩)) rfl (fun a w hI hF => by
      have f1 : a.tmps.getD 0 undef = .pointer (some ⟨k, 0, none⟩) := hF 0 (Reg.looksB (by kernel_rfl))
      clear hF hI
      simp only [Array.getD_eq_getD_getElem?] at f1
      simp only [execOp]; go_simp) ?_
  refine Reg.rely_plain (.pointer (some ⟨k, 0, none⟩)) rfl (fun a w hI hF => by
      have f1 : a.tmps.getD 0 undef = .pointer (some ⟨k, 0, none⟩) := hF 0 (Reg.looksB (by kernel_rfl))
      clear hF hI
      simp only [Array.getD_eq_getD_getElem?] at f1
      simp only [execOp]; go_simp) ?_
  refine Reg.rely_plain (.pointer (some ⟨k, 0, none⟩)) rfl (fun a w hI hF => by
      have f1 : a.tmps.getD 17 undef = .pointer (some ⟨k, 0, none⟩) := hF 17 (Reg.looksB (by kernel_rfl))
      clear hF hI
      simp only [Array.getD_eq_getD_getElem?] at f1
      simp only [execOp]; go_simp) ?_
  refine Reg.rely_plain (.pointer (some ⟨k, 1, none⟩)) rfl (fun a w hI hF => by
      have f1 : a.tmps.getD 18 undef = .pointer (some ⟨k, 0, none⟩) := hF 18 (Reg.looksB (by kernel_rfl))
      clear hF hI
      simp only [Array.getD_eq_getD_getElem?] at f1
      simp only [execOp]; go_simp) ?_
  refine Reg.rely_plain (.slice pO out'.length cO) rfl (fun a w hI hF => by
      have f1 : a.tmps.getD 19 undef = .pointer (some ⟨k, 1, none⟩) := hF 19 (Reg.looksB (by kernel_rfl))
      have hc : w.cell? ⟨k, 1, none⟩ = some (.slice pO out'.length cO) := by rw [hI.kb.cell 1]; rfl
      clear hF hI
      simp only [Array.getD_eq_getD_getElem?] at f1
      simp only [execOp]; go_simp) ?_
  refine Reg.rely_plain (.pointer (some ⟨g, o, none⟩)) rfl (fun a w hI hF => by
      have f1 : a.tmps.getD 1 undef = .pointer (some ⟨g, o, none⟩) := hF 1 (Reg.looksB (by kernel_rfl))
      clear hF hI
      simp only [Array.getD_eq_getD_getElem?] at f1
      simp only [execOp]; go_simp) ?_
  refine Reg.rely_plain (.pointer (some ⟨g, o, none⟩)) rfl (fun a w hI hF => by
      have f1 : a.tmps.getD 21 undef = .pointer (some ⟨g, o, none⟩) := hF 21 (Reg.looksB (by kernel_rfl))
      clear hF hI
      simp only [Array.getD_eq_getD_getElem?] at f1
      simp only [execOp]; go_simp) ?_
  refine Reg.rely_plain (.int .i64 x) rfl (fun a w hI hF => by
      have f1 : a.tmps.getD 22 undef = .pointer (some ⟨g, o, none⟩) := hF 22 (Reg.looksB (by kernel_rfl))
      have hc := hI.cell
      clear hF hI
      simp only [Array.getD_eq_getD_getElem?] at f1
      simp only [execOp]; go_simp) ?_
  refine Reg.rely_rel (fun v w => ∃ gl, v = .slice (some ⟨gl, 0, none⟩) 1 1 ∧ V.heap.size ≤ gl ∧ Blk w gl 2 #[.int .i64 x]) (fun v w w' h hS => by obtain ⟨gl, h1, h2, h3⟩ := hS; exact ⟨gl, h1, h2, h3.below h⟩) (fun G hG => by cases hG) rfl (fun a w hI hF => by
    have f1 : a.tmps.getD 23 undef = .int .i64 x := hF 23 (Reg.looksB (by kernel_rfl))
    have hK := Lib.hid (Blk.new w 2 #[.int .i64 x])
    have hQ := Lib.hid hI.on.size
    have hW := Lib.hid (show Reg.Grow w (w.alloc (.cells #[.int .i64 x] 2)) from (Below.refl _ w).alloc (Nat.le_refl _) _)
    clear hF hI
    simp only [Array.getD_eq_getD_getElem?] at f1
    unfold Oper.wp
    simp only [execOp]
    go_simp
    exact ⟨_, rfl, ⟨_, rfl, hQ.out, hK.out⟩, hW.out⟩) ?_
  refine Reg.rely_call0 (Reg.Is (.string (intS x))) (Reg.stab_is _ _) (fun G hG => by cases hG) rfl (fun a w hI hF => by
    obtain ⟨gl, f1, hg1, hgl⟩ : ∃ gl, a.tmps.getD 24 undef = .slice (some ⟨gl, 0, none⟩) 1 1 ∧ V.heap.size ≤ gl ∧ Blk w gl 2 #[.int .i64 x] := hF 24 (Reg.looksB (by kernel_rfl))
    refine ⟨70, #[.slice (some ⟨gl, 0, none⟩) 1 1], ?_, (HW.out w gl hgl).mono fun e w' h => ⟨_, h.1, rfl, h.2⟩⟩
    clear hF hI hgl hg1
    simp only [Array.getD_eq_getD_getElem?] at f1
    simp only [execOp]; go_simp) ?_
  refine Reg.rely_turn (fun v w => w.ownsRow B 5 1 v (out' ++ Ms.bl (intS x)).length (Lib.byteCells (out' ++ Ms.bl (intS x)))) (PutG V.heap.size B (.slice pO out'.length cO)) (fun w => w.ownsRow B 5 1 (.slice pO out'.length cO) out'.length (Lib.byteCells out') ∧ B ≤ w.heap.size) (fun v w w' h hS => owns_below hS h) (fun G hG => by cases hG) (fun w w' h hI => hI.turn h) ?_ rfl (fun w w' h hJ => ⟨owns_below hJ.1 h, Nat.le_trans hJ.2 h.size⟩) ⟨HROW.out.1, HROW.out.2⟩ (fun G hG => by cases hG) (fun G hG => by cases hG) (fun a w hI hJ hF => ?_) ?_
  · intro p hp
    repeat (rcases List.mem_cons.1 hp with rfl | hp; first | exact Reg.stab_is _ _ | exact fun v w w' h hS => by obtain ⟨gl, h1, h2, h3⟩ := hS; exact ⟨gl, h1, h2, h.keep h2 h3⟩)
    cases hp
  · have f1 : a.tmps.getD 20 undef = .slice pO out'.length cO := hF 20 (Reg.looksB (by kernel_rfl))
    have f2 : a.tmps.getD 25 undef = .string (intS x) := hF 25 (Reg.looksB (by kernel_rfl))
    exact putRun (t := 49) (u := 9) (sl := .tmp 20) (x := .tmp 25) rfl Try.underlying49 Try.underlying9 info_u8 rfl f1 f2 hJ.1 HLEN.out hJ.2 HLT.out
  refine Reg.rely_is (.pointer (some ⟨k, 0, none⟩)) (fun a w hI hF => Reg.det_plain rfl ?_) ?_
  · have f1 : a.tmps.getD 16 undef = .pointer (some ⟨k, 0, none⟩) := hF 16 (Reg.looksB (by kernel_rfl))
    clear hF hI
    simp only [Array.getD_eq_getD_getElem?] at f1
    simp only [execOp]; go_simp
  refine Reg.rely_is (.pointer (some ⟨k, 1, none⟩)) (fun a w hI hF => Reg.det_plain rfl ?_) ?_
  · have f1 : a.tmps.getD 27 undef = .pointer (some ⟨k, 0, none⟩) := hF 27 (Reg.looksB (by kernel_rfl))
    clear hF hI
    simp only [Array.getD_eq_getD_getElem?] at f1
    simp only [execOp]; go_simp
  refine Reg.rely_nil ?_
  refine Reg.final_is ?_
  refine Reg.final_is ?_
  refine Reg.final_rel (fun v10 => ?_)
  refine Reg.final_is ?_
  refine Reg.final_rel (fun v8 => ?_)
  refine Reg.final_is ?_
  refine Reg.final_is ?_
  refine Reg.final_is ?_
  refine Reg.final_is ?_
  refine Reg.final_is ?_
  refine Reg.final_is ?_
  refine Reg.final_is ?_
  refine Reg.final_is ?_
  refine Reg.final_nil (fun w9 hF => ?_)
  have HI9 := Lib.hid hF.1.1
  have HS9 := Lib.hid hF.1.2
  clear hF
  simp only [List.drop_succ_cons, List.drop_zero]
  go_simp
  have d1 : w9.cell? ⟨k, 1, none⟩ = some (.slice pO out'.length cO) := by rw [HI9.out.kb.cell 1]; rfl
  have f1 := HI9.out.kb.frozen 1
  obtain ⟨p9, c9, rfl⟩ := owns_slice HS9.out
  go_wp2_with fail
  refine Reg.fin (by kernel_rfl) ?_
  go_wp2_with fail
  go_end0
  have hkw := KWr.put2 HI9.out.kb HGE.out HS9.out
  simp only [List.length_append] at hkw
  exact ⟨rfl, HFB.out hkw.1, HOV.out.trans (HI9.out.on.trans hkw.2)⟩
set_option maxRecDepth 100000 in
set_option maxHeartbeats 2000000 in
theorem textw_any {s : ByteArray} {most : Int} (c : KWb w B k out bad L) (hB : B ≤ w.heap.size) (hL : L ≤ 1000000000) (hx : w.cell? ⟨g, o, none⟩ = some (.string s)) (hg : Away w B k g) (hr : s.size ≤ 1073741824) :
    Calls Try.prog 51 #[.pointer (some ⟨k, 0, none⟩), .pointer (some ⟨g, o, none⟩), .int .i64 most] w (WrP w B k (out ++ wT s) (bad || decide (most < (s.size : Int))) (L + (s.size + 10))) := by
  obtain ⟨out', c, ho, hl⟩ := c
  obtain ⟨vO, h1, h2, h3⟩ := c
  obtain ⟨pO, cO, rfl⟩ := owns_slice h2
  have c0 : w.cell? ⟨k, 0, none⟩ = some (.pointer none) := by rw [h1.cell 0]; rfl
  have c1 : w.cell? ⟨k, 1, none⟩ = some (.slice pO out'.length cO) := by rw [h1.cell 1]; rfl
  have c2 : w.cell? ⟨k, 2, none⟩ = some (.bool bad) := by rw [h1.cell 2]; rfl
  have cf := h1.frozen
  have HBK := Lib.hid h1
  have HRW := Lib.hid h2
  have HGE := Lib.hid h3
  have HG := Lib.hid hg
  have HO := Lib.hid (And.intro ho hl)
  have HL := Lib.hid hL
  have HB := Lib.hid hB
  have hsz : (textS s).size ≤ s.size + 10 := by unfold textS; rw [ByteArray.size_append]; have := lebS_size (x := (s.size : Int)) (by omega); omega
  have HLEN : Hid (out'.length + (textS s).size ≤ 140737488355328) := Lib.hid (by have := HO.out.2; have := HL.out; omega)
  obtain ⟨bb, hbb⟩ : ∃ bb, (bad || decide (most < (s.size : Int))) = bb := ⟨_, rfl⟩
  rw [hbb]
  have HBB := Lib.hid hbb
  have HFB : Hid (∀ {W : World}, KWr W B k (out' ++ Ms.bl (textS s)) bb → KWb W B k (out ++ wT s) bb (L + (s.size + 10))) := Lib.hid fun h => KWr.kwb h HO.out.1 HO.out.2 (fun e => by
    have h := HBB.out
    rw [e, Bool.or_eq_false_iff] at h
    exact ⟨h.1, Ms.bl_textS s⟩) (by rw [Ms.bl_len]; exact hsz)
  have HW : Hid (∀ (w : World) gl, Blk w gl 9 #[.string s] → Calls Try.prog 67 #[.slice (some ⟨gl, 0, none⟩) 1 1] w (StPost (textS s) w)) := Lib.hid fun w gl h => textsB hr h
  clear h1 h2 h3 hg ho hl hL hB hr hsz
  cases bad with
  | true =>
    have hbt : bb = true := by rw [← hbb]; rfl
    clear hbb
    subst hbt
    go_enter Try.func51, Try.ntmps51
    go_upto_region 3 with fail
    have OV : Only (· = k) w (w.setCell ⟨k, 2, none⟩ (.bool true)) := (Only.refl _ w).set1
    have HBV : Hid (Blk (w.setCell ⟨k, 2, none⟩ (.bool true)) k 51 #[.pointer none, .slice pO out'.length cO, .bool true]) := Lib.hid (HBK.out.set 2 (.bool true))
    have HRV := Lib.hid (owns_only HRW.out OV (owns_ne HRW.out HBK.out (by decide)))
    have HOV : Hid (OnW B k w (w.setCell ⟨k, 2, none⟩ (.bool true))) := Lib.hid (OV.mono fun j _ e => .inl e)
    have y1 := HOV.out.cell HG.out hx
    have HAV := Lib.hid (HG.out.onW HOV.out (World.block_lt_of_cell? _ _ hx))
    have HBS : Hid (B ≤ ((w.setCell ⟨k, 2, none⟩ (.bool true))).heap.size) := Lib.hid (Nat.le_trans HB.out OV.size)
    clear OV c0 c1 c2 cf hx
    generalize (w.setCell ⟨k, 2, none⟩ (.bool true)) = V at *
    have HI0 : Hid (PutI V B k g o (.slice pO out'.length cO) true (.string s) V) := Lib.hid ⟨HBV.out, y1, OnW.refl _ _ _, HAV.out⟩
    have HROW : Hid (V.drew.ownsRow B 5 1 (.slice pO out'.length cO) out'.length (Lib.byteCells out') ∧ B ≤ V.drew.heap.size) := Lib.hid ⟨HRV.out, HBS.out⟩
    have HLT : Hid (∀ j, (Value.slice pO out'.length cO).ownBlock = some j → j < V.heap.size) := Lib.hid fun j hj => (owns_type HRV.out hj).choose_spec.2.2
    clear y1
    refine Reg.wp_rely 13 (PutI V B k g o (.slice pO out'.length cO) true (.string s)) (by kernel_rfl) (Reg.relyOk_of (by kernel_rfl)) HI0.out.drew (fun w w' h hI => hI.below h) ?_
    refine Reg.rely_plain (.pointer (some ⟨k, 0, none⟩)) rfl (fun a w hI hF => by
        have f1 : a.tmps.getD 0 undef = .pointer (some ⟨k, 0, none⟩) := hF 0 (Reg.looksB (by kernel_rfl))
        clear hF hI
        simp only [Array.getD_eq_getD_getElem?] at f1
        simp only [execOp]; go_simp) ?_
    refine Reg.rely_plain (.pointer (some ⟨k, 0, none⟩)) rfl (fun a w hI hF => by
        have f1 : a.tmps.getD 0 undef = .pointer (some ⟨k, 0, none⟩) := hF 0 (Reg.looksB (by kernel_rfl))
        clear hF hI
        simp only [Array.getD_eq_getD_getElem?] at f1
        simp only [execOp]; go_simp) ?_
    refine Reg.rely_plain (.pointer (some ⟨k, 0, none⟩)) rfl (fun a w hI hF => by
        have f1 : a.tmps.getD 35 undef = .pointer (some ⟨k, 0, none⟩) := hF 35 (Reg.looksB (by kernel_rfl))
        clear hF hI
        simp only [Array.getD_eq_getD_getElem?] at f1
        simp only [execOp]; go_simp) ?_
    refine Reg.rely_plain (.pointer (some ⟨k, 1, none⟩)) rfl (fun a w hI hF => by
        have f1 : a.tmps.getD 36 undef = .pointer (some ⟨k, 0, none⟩) := hF 36 (Reg.looksB (by kernel_rfl))
        clear hF hI
        simp only [Array.getD_eq_getD_getElem?] at f1
        simp only [execOp]; go_simp) ?_
    refine Reg.rely_plain (.slice pO out'.length cO) rfl (fun a w hI hF => by
        have f1 : a.tmps.getD 37 undef = .pointer (some ⟨k, 1, none⟩) := hF 37 (Reg.looksB (by kernel_rfl))
        have hc : w.cell? ⟨k, 1, none⟩ = some (.slice pO out'.length cO) := by rw [hI.kb.cell 1]; rfl
        clear hF hI
        simp only [Array.getD_eq_getD_getElem?] at f1
        simp only [execOp]; go_simp) ?_
    refine Reg.rely_plain (.pointer (some ⟨g, o, none⟩)) rfl (fun a w hI hF => by
        have f1 : a.tmps.getD 1 undef = .pointer (some ⟨g, o, none⟩) := hF 1 (Reg.looksB (by kernel_rfl))
        clear hF hI
        simp only [Array.getD_eq_getD_getElem?] at f1
        simp only [execOp]; go_simp) ?_
    refine Reg.rely_plain (.pointer (some ⟨g, o, none⟩)) rfl (fun a w hI hF => by
        have f1 : a.tmps.getD 39 undef = .pointer (some ⟨g, o, none⟩) := hF 39 (Reg.looksB (by kernel_rfl))
        clear hF hI
        simp only [Array.getD_eq_getD_getElem?] at f1
        simp only [execOp]; go_simp) ?_
    refine Reg.rely_plain (.string s) rfl (fun a w hI hF => by
        have f1 : a.tmps.getD 40 undef = .pointer (some ⟨g, o, none⟩) := hF 40 (Reg.looksB (by kernel_rfl))
        have hc := hI.cell
        clear hF hI
        simp only [Array.getD_eq_getD_getElem?] at f1
        simp only [execOp]; go_simp) ?_
    refine Reg.rely_rel (fun v w => ∃ gl, v = .slice (some ⟨gl, 0, none⟩) 1 1 ∧ V.heap.size ≤ gl ∧ Blk w gl 9 #[.string s]) (fun v w w' h hS => by obtain ⟨gl, h1, h2, h3⟩ := hS; exact ⟨gl, h1, h2, h3.below h⟩) (fun G hG => by cases hG) rfl (fun a w hI hF => by
      have f1 : a.tmps.getD 41 undef = .string s := hF 41 (Reg.looksB (by kernel_rfl))
      have hK := Lib.hid (Blk.new w 9 #[.string s])
      have hQ := Lib.hid hI.on.size
      have hW := Lib.hid (show Reg.Grow w (w.alloc (.cells #[.string s] 9)) from (Below.refl _ w).alloc (Nat.le_refl _) _)
      clear hF hI
      simp only [Array.getD_eq_getD_getElem?] at f1
      unfold Oper.wp
      simp only [execOp]
      go_simp
      exact ⟨_, rfl, ⟨_, rfl, hQ.out, hK.out⟩, hW.out⟩) ?_
    refine Reg.rely_call0 (Reg.Is (.string (textS s))) (Reg.stab_is _ _) (fun G hG => by cases hG) rfl (fun a w hI hF => by
      obtain ⟨gl, f1, hg1, hgl⟩ : ∃ gl, a.tmps.getD 42 undef = .slice (some ⟨gl, 0, none⟩) 1 1 ∧ V.heap.size ≤ gl ∧ Blk w gl 9 #[.string s] := hF 42 (Reg.looksB (by kernel_rfl))
      refine ⟨67, #[.slice (some ⟨gl, 0, none⟩) 1 1], ?_, (HW.out w gl hgl).mono fun e w' h => ⟨_, h.1, rfl, h.2⟩⟩
      clear hF hI hgl hg1
      simp only [Array.getD_eq_getD_getElem?] at f1
      simp only [execOp]; go_simp) ?_
    refine Reg.rely_turn (fun v w => w.ownsRow B 5 1 v (out' ++ Ms.bl (textS s)).length (Lib.byteCells (out' ++ Ms.bl (textS s)))) (PutG V.heap.size B (.slice pO out'.length cO)) (fun w => w.ownsRow B 5 1 (.slice pO out'.length cO) out'.length (Lib.byteCells out') ∧ B ≤ w.heap.size) (fun v w w' h hS => owns_below hS h) (fun G hG => by cases hG) (fun w w' h hI => hI.turn h) ?_ rfl (fun w w' h hJ => ⟨owns_below hJ.1 h, Nat.le_trans hJ.2 h.size⟩) ⟨HROW.out.1, HROW.out.2⟩ (fun G hG => by cases hG) (fun G hG => by cases hG) (fun a w hI hJ hF => ?_) ?_
    · intro p hp
      repeat (rcases List.mem_cons.1 hp with rfl | hp; first | exact Reg.stab_is _ _ | exact fun v w w' h hS => by obtain ⟨gl, h1, h2, h3⟩ := hS; exact ⟨gl, h1, h2, h.keep h2 h3⟩)
      cases hp
    · have f1 : a.tmps.getD 38 undef = .slice pO out'.length cO := hF 38 (Reg.looksB (by kernel_rfl))
      have f2 : a.tmps.getD 43 undef = .string (textS s) := hF 43 (Reg.looksB (by kernel_rfl))
      exact putRun (t := 49) (u := 9) (sl := .tmp 38) (x := .tmp 43) rfl Try.underlying49 Try.underlying9 info_u8 rfl f1 f2 hJ.1 HLEN.out hJ.2 HLT.out
    refine Reg.rely_is (.pointer (some ⟨k, 0, none⟩)) (fun a w hI hF => Reg.det_plain rfl ?_) ?_
    · have f1 : a.tmps.getD 34 undef = .pointer (some ⟨k, 0, none⟩) := hF 34 (Reg.looksB (by kernel_rfl))
      clear hF hI
      simp only [Array.getD_eq_getD_getElem?] at f1
      simp only [execOp]; go_simp
    refine Reg.rely_is (.pointer (some ⟨k, 1, none⟩)) (fun a w hI hF => Reg.det_plain rfl ?_) ?_
    · have f1 : a.tmps.getD 45 undef = .pointer (some ⟨k, 0, none⟩) := hF 45 (Reg.looksB (by kernel_rfl))
      clear hF hI
      simp only [Array.getD_eq_getD_getElem?] at f1
      simp only [execOp]; go_simp
    refine Reg.rely_nil ?_
    refine Reg.final_is ?_
    refine Reg.final_is ?_
    refine Reg.final_rel (fun v10 => ?_)
    refine Reg.final_is ?_
    refine Reg.final_rel (fun v8 => ?_)
    refine Reg.final_is ?_
    refine Reg.final_is ?_
    refine Reg.final_is ?_
    refine Reg.final_is ?_
    refine Reg.final_is ?_
    refine Reg.final_is ?_
    refine Reg.final_is ?_
    refine Reg.final_is ?_
    refine Reg.final_nil (fun w9 hF => ?_)
    have HI9 := Lib.hid hF.1.1
    have HS9 := Lib.hid hF.1.2
    clear hF
    simp only [List.drop_succ_cons, List.drop_zero]
    go_simp
    have d1 : w9.cell? ⟨k, 1, none⟩ = some (.slice pO out'.length cO) := by rw [HI9.out.kb.cell 1]; rfl
    have f1 := HI9.out.kb.frozen 1
    obtain ⟨p9, c9, rfl⟩ := owns_slice HS9.out
    go_wp2_with fail
    refine Reg.fin (by kernel_rfl) ?_
    go_wp2_with fail
    go_end0
    have hkw := KWr.put2 HI9.out.kb HGE.out HS9.out
    simp only [List.length_append] at hkw
    exact ⟨rfl, HFB.out hkw.1, HOV.out.trans (HI9.out.on.trans hkw.2)⟩
  | false =>
    have hbb2 : decide (most < (s.size : Int)) = bb := by rw [← hbb]; rfl
    clear hbb
    go_enter Try.func51, Try.ntmps51
    go_upto_region 3 with fail
    have OV : Only (· = k) w (w.setCell ⟨k, 2, none⟩ (.bool bb)) := (Only.refl _ w).set1
    have HBV : Hid (Blk (w.setCell ⟨k, 2, none⟩ (.bool bb)) k 51 #[.pointer none, .slice pO out'.length cO, .bool bb]) := Lib.hid (HBK.out.set 2 (.bool bb))
    have HRV := Lib.hid (owns_only HRW.out OV (owns_ne HRW.out HBK.out (by decide)))
    have HOV : Hid (OnW B k w (w.setCell ⟨k, 2, none⟩ (.bool bb))) := Lib.hid (OV.mono fun j _ e => .inl e)
    have y1 := HOV.out.cell HG.out hx
    have HAV := Lib.hid (HG.out.onW HOV.out (World.block_lt_of_cell? _ _ hx))
    have HBS : Hid (B ≤ ((w.setCell ⟨k, 2, none⟩ (.bool bb))).heap.size) := Lib.hid (Nat.le_trans HB.out OV.size)
    clear OV c0 c1 c2 cf hx
    generalize (w.setCell ⟨k, 2, none⟩ (.bool bb)) = V at *
    have HI0 : Hid (PutI V B k g o (.slice pO out'.length cO) bb (.string s) V) := Lib.hid ⟨HBV.out, y1, OnW.refl _ _ _, HAV.out⟩
    have HROW : Hid (V.drew.ownsRow B 5 1 (.slice pO out'.length cO) out'.length (Lib.byteCells out') ∧ B ≤ V.drew.heap.size) := Lib.hid ⟨HRV.out, HBS.out⟩
    have HLT : Hid (∀ j, (Value.slice pO out'.length cO).ownBlock = some j → j < V.heap.size) := Lib.hid fun j hj => (owns_type HRV.out hj).choose_spec.2.2
    clear y1
    refine Reg.wp_rely 13 (PutI V B k g o (.slice pO out'.length cO) bb (.string s)) (by kernel_rfl) (Reg.relyOk_of (by kernel_rfl)) HI0.out.drew (fun w w' h hI => hI.below h) ?_
    refine Reg.rely_plain (.pointer (some ⟨k, 0, none⟩)) rfl (fun a w hI hF => by
        have f1 : a.tmps.getD 0 undef = .pointer (some ⟨k, 0, none⟩) := hF 0 (Reg.looksB (by kernel_rfl))
        clear hF hI
        simp only [Array.getD_eq_getD_getElem?] at f1
        simp only [execOp]; go_simp) ?_
    refine Reg.rely_plain (.pointer (some ⟨k, 0, none⟩)) rfl (fun a w hI hF => by
        have f1 : a.tmps.getD 0 undef = .pointer (some ⟨k, 0, none⟩) := hF 0 (Reg.looksB (by kernel_rfl))
        clear hF hI
        simp only [Array.getD_eq_getD_getElem?] at f1
        simp only [execOp]; go_simp) ?_
    refine Reg.rely_plain (.pointer (some ⟨k, 0, none⟩)) rfl (fun a w hI hF => by
        have f1 : a.tmps.getD 35 undef = .pointer (some ⟨k, 0, none⟩) := hF 35 (Reg.looksB (by kernel_rfl))
        clear hF hI
        simp only [Array.getD_eq_getD_getElem?] at f1
        simp only [execOp]; go_simp) ?_
    refine Reg.rely_plain (.pointer (some ⟨k, 1, none⟩)) rfl (fun a w hI hF => by
        have f1 : a.tmps.getD 36 undef = .pointer (some ⟨k, 0, none⟩) := hF 36 (Reg.looksB (by kernel_rfl))
        clear hF hI
        simp only [Array.getD_eq_getD_getElem?] at f1
        simp only [execOp]; go_simp) ?_
    refine Reg.rely_plain (.slice pO out'.length cO) rfl (fun a w hI hF => by
        have f1 : a.tmps.getD 37 undef = .pointer (some ⟨k, 1, none⟩) := hF 37 (Reg.looksB (by kernel_rfl))
        have hc : w.cell? ⟨k, 1, none⟩ = some (.slice pO out'.length cO) := by rw [hI.kb.cell 1]; rfl
        clear hF hI
        simp only [Array.getD_eq_getD_getElem?] at f1
        simp only [execOp]; go_simp) ?_
    refine Reg.rely_plain (.pointer (some ⟨g, o, none⟩)) rfl (fun a w hI hF => by
        have f1 : a.tmps.getD 1 undef = .pointer (some ⟨g, o, none⟩) := hF 1 (Reg.looksB (by kernel_rfl))
        clear hF hI
        simp only [Array.getD_eq_getD_getElem?] at f1
        simp only [execOp]; go_simp) ?_
    refine Reg.rely_plain (.pointer (some ⟨g, o, none⟩)) rfl (fun a w hI hF => by
        have f1 : a.tmps.getD 39 undef = .pointer (some ⟨g, o, none⟩) := hF 39 (Reg.looksB (by kernel_rfl))
        clear hF hI
        simp only [Array.getD_eq_getD_getElem?] at f1
        simp only [execOp]; go_simp) ?_
    refine Reg.rely_plain (.string s) rfl (fun a w hI hF => by
        have f1 : a.tmps.getD 40 undef = .pointer (some ⟨g, o, none⟩) := hF 40 (Reg.looksB (by kernel_rfl))
        have hc := hI.cell
        clear hF hI
        simp only [Array.getD_eq_getD_getElem?] at f1
        simp only [execOp]; go_simp) ?_
    refine Reg.rely_rel (fun v w => ∃ gl, v = .slice (some ⟨gl, 0, none⟩) 1 1 ∧ V.heap.size ≤ gl ∧ Blk w gl 9 #[.string s]) (fun v w w' h hS => by obtain ⟨gl, h1, h2, h3⟩ := hS; exact ⟨gl, h1, h2, h3.below h⟩) (fun G hG => by cases hG) rfl (fun a w hI hF => by
      have f1 : a.tmps.getD 41 undef = .string s := hF 41 (Reg.looksB (by kernel_rfl))
      have hK := Lib.hid (Blk.new w 9 #[.string s])
      have hQ := Lib.hid hI.on.size
      have hW := Lib.hid (show Reg.Grow w (w.alloc (.cells #[.string s] 9)) from (Below.refl _ w).alloc (Nat.le_refl _) _)
      clear hF hI
      simp only [Array.getD_eq_getD_getElem?] at f1
      unfold Oper.wp
      simp only [execOp]
      go_simp
      exact ⟨_, rfl, ⟨_, rfl, hQ.out, hK.out⟩, hW.out⟩) ?_
    refine Reg.rely_call0 (Reg.Is (.string (textS s))) (Reg.stab_is _ _) (fun G hG => by cases hG) rfl (fun a w hI hF => by
      obtain ⟨gl, f1, hg1, hgl⟩ : ∃ gl, a.tmps.getD 42 undef = .slice (some ⟨gl, 0, none⟩) 1 1 ∧ V.heap.size ≤ gl ∧ Blk w gl 9 #[.string s] := hF 42 (Reg.looksB (by kernel_rfl))
      refine ⟨67, #[.slice (some ⟨gl, 0, none⟩) 1 1], ?_, (HW.out w gl hgl).mono fun e w' h => ⟨_, h.1, rfl, h.2⟩⟩
      clear hF hI hgl hg1
      simp only [Array.getD_eq_getD_getElem?] at f1
      simp only [execOp]; go_simp) ?_
    refine Reg.rely_turn (fun v w => w.ownsRow B 5 1 v (out' ++ Ms.bl (textS s)).length (Lib.byteCells (out' ++ Ms.bl (textS s)))) (PutG V.heap.size B (.slice pO out'.length cO)) (fun w => w.ownsRow B 5 1 (.slice pO out'.length cO) out'.length (Lib.byteCells out') ∧ B ≤ w.heap.size) (fun v w w' h hS => owns_below hS h) (fun G hG => by cases hG) (fun w w' h hI => hI.turn h) ?_ rfl (fun w w' h hJ => ⟨owns_below hJ.1 h, Nat.le_trans hJ.2 h.size⟩) ⟨HROW.out.1, HROW.out.2⟩ (fun G hG => by cases hG) (fun G hG => by cases hG) (fun a w hI hJ hF => ?_) ?_
    · intro p hp
      repeat (rcases List.mem_cons.1 hp with rfl | hp; first | exact Reg.stab_is _ _ | exact fun v w w' h hS => by obtain ⟨gl, h1, h2, h3⟩ := hS; exact ⟨gl, h1, h2, h.keep h2 h3⟩)
      cases hp
    · have f1 : a.tmps.getD 38 undef = .slice pO out'.length cO := hF 38 (Reg.looksB (by kernel_rfl))
      have f2 : a.tmps.getD 43 undef = .string (textS s) := hF 43 (Reg.looksB (by kernel_rfl))
      exact putRun (t := 49) (u := 9) (sl := .tmp 38) (x := .tmp 43) rfl Try.underlying49 Try.underlying9 info_u8 rfl f1 f2 hJ.1 HLEN.out hJ.2 HLT.out
    refine Reg.rely_is (.pointer (some ⟨k, 0, none⟩)) (fun a w hI hF => Reg.det_plain rfl ?_) ?_
    · have f1 : a.tmps.getD 34 undef = .pointer (some ⟨k, 0, none⟩) := hF 34 (Reg.looksB (by kernel_rfl))
      clear hF hI
      simp only [Array.getD_eq_getD_getElem?] at f1
      simp only [execOp]; go_simp
    refine Reg.rely_is (.pointer (some ⟨k, 1, none⟩)) (fun a w hI hF => Reg.det_plain rfl ?_) ?_
    · have f1 : a.tmps.getD 45 undef = .pointer (some ⟨k, 0, none⟩) := hF 45 (Reg.looksB (by kernel_rfl))
      clear hF hI
      simp only [Array.getD_eq_getD_getElem?] at f1
      simp only [execOp]; go_simp
    refine Reg.rely_nil ?_
    refine Reg.final_is ?_
    refine Reg.final_is ?_
    refine Reg.final_rel (fun v10 => ?_)
    refine Reg.final_is ?_
    refine Reg.final_rel (fun v8 => ?_)
    refine Reg.final_is ?_
    refine Reg.final_is ?_
    refine Reg.final_is ?_
    refine Reg.final_is ?_
    refine Reg.final_is ?_
    refine Reg.final_is ?_
    refine Reg.final_is ?_
    refine Reg.final_is ?_
    refine Reg.final_nil (fun w9 hF => ?_)
    have HI9 := Lib.hid hF.1.1
    have HS9 := Lib.hid hF.1.2
    clear hF
    simp only [List.drop_succ_cons, List.drop_zero]
    go_simp
    have d1 : w9.cell? ⟨k, 1, none⟩ = some (.slice pO out'.length cO) := by rw [HI9.out.kb.cell 1]; rfl
    have f1 := HI9.out.kb.frozen 1
    obtain ⟨p9, c9, rfl⟩ := owns_slice HS9.out
    go_wp2_with fail
    refine Reg.fin (by kernel_rfl) ?_
    go_wp2_with fail
    go_end0
    have hkw := KWr.put2 HI9.out.kb HGE.out HS9.out
    simp only [List.length_append] at hkw
    exact ⟨rfl, HFB.out hkw.1, HOV.out.trans (HI9.out.on.trans hkw.2)⟩

end
section
variable {w : World} {k rb g o : Nat} {q : RS} {bad : Bool} {T : TypeId} {A : Array Value}
theorem KRd.end {w w1 : World} {v : Value} {q' : RS} (c : KRd w k rb q bad) (hb : Blk w g T A) (hgk : g ≠ k) (hgr : g ≠ rb) (hP : PR w1 rb q'.s q'.e) (hO : Only (· = rb) w w1) :
    Blk w1 g T A ∧ Blk (w1.setCell ⟨g, o, none⟩ v) g T (A.setIfInBounds o v) ∧ KRd (w1.setCell ⟨g, o, none⟩ v) k rb q' bad ∧ Only (fun j => j = k ∨ j = rb ∨ j = g) w (w1.setCell ⟨g, o, none⟩ v) := by
  have hkr : k ≠ rb := fun e => by have h1 := c.1; rw [e] at h1; exact absurd (blk_ne h1 c.2.blk) (by decide)
  have h1 := hb.only hO hgr
  have hk := c.1.only hO hkr
  have o7 : Only (· = g) w1 (w1.setCell ⟨g, o, none⟩ v) := (Only.refl _ w1).set1
  refine ⟨h1, h1.set o v, ⟨hk.only o7 (fun e => hgk e.symm), hP.only o7 (fun e => hgr e.symm)⟩, ?_⟩
  exact (hO.mono (S' := fun j => j = k ∨ j = rb ∨ j = g) fun j _ e => .inr (.inl e)).trans (o7.mono fun j _ e => .inr (.inr e))

set_option maxRecDepth 100000 in
set_option maxHeartbeats 1000000 in
theorem numr_u64 {most : Int} (c : KRd w k rb q bad) (hb : Blk w g T A) (ho : o < A.size) (hgk : g ≠ k) (hgr : g ≠ rb) :
    Calls Try.prog 45 #[.pointer (some ⟨k, 0, none⟩), .pointer (some ⟨g, o, none⟩), .int .u64 most] w (RdP w k rb g T (A.setIfInBounds o (.int .u64 (uV most q))) (uS most q) bad) := by
  have HC := Lib.hid c
  have HB := Lib.hid hb
  have HG := Lib.hid (And.intro hgk hgr)
  have HA := Lib.hid ho
  have c0 : w.cell? ⟨k, 0, none⟩ = some (.pointer (some ⟨rb, 0, none⟩)) := by rw [c.1.cell 0]; rfl
  have HU := Lib.hid (puint_any c.2 most)
  obtain ⟨v, hv⟩ : ∃ v, numV q.s q.e (uC q.s most) = v := ⟨_, rfl⟩
  rw [show uV most q = v from hv]
  rw [hv] at HU
  clear c hb ho hgk hgr
  go_enter Try.func45, Try.ntmps45
  go_wp2_with (go_at_call 23; go_loud ((with_reducible refine HU.out.mono ?_); rintro e w1 ⟨rfl, hP, hO⟩; have HE := Lib.hid (KRd.end (o := o) (v := .int .u64 v) (q' := uS most q) HC.out HB.out HG.out.1 HG.out.2 hP hO); have d1 : w1.cell? ⟨g, o, none⟩ = some (A[o]'HA.out) := (by rw [HE.out.1.cell o, Array.getElem?_eq_getElem HA.out]); have f1 := HE.out.1.frozen o; clear hP hO))
  go_end0
  exact ⟨rfl, HE.out.2.1, HE.out.2.2.1, HE.out.2.2.2⟩
set_option maxRecDepth 100000 in
set_option maxHeartbeats 1000000 in
theorem numr_u8 {most : Int} (c : KRd w k rb q bad) (hb : Blk w g T A) (ho : o < A.size) (hgk : g ≠ k) (hgr : g ≠ rb) (hm : 0 ≤ most ∧ most ≤ 255) :
    Calls Try.prog 20 #[.pointer (some ⟨k, 0, none⟩), .pointer (some ⟨g, o, none⟩), .int .u64 most] w (RdP w k rb g T (A.setIfInBounds o (.int .u8 (uV most q))) (uS most q) bad) := by
  have HC := Lib.hid c
  have HB := Lib.hid hb
  have HG := Lib.hid (And.intro hgk hgr)
  have HA := Lib.hid ho
  have c0 : w.cell? ⟨k, 0, none⟩ = some (.pointer (some ⟨rb, 0, none⟩)) := by rw [c.1.cell 0]; rfl
  have HU := Lib.hid (puint_any c.2 most)
  have hv1 := uV_rg hm.1 q
  have hv2 : IntKind.u8.wrap (uV most q) = uV most q := by rw [IntKind.wrap_u8]; omega
  obtain ⟨v, hv⟩ : ∃ v, numV q.s q.e (uC q.s most) = v := ⟨_, rfl⟩
  rw [show uV most q = v from hv] at hv2 ⊢
  rw [hv] at HU
  clear hv1 hm
  clear c hb ho hgk hgr
  go_enter Try.func20, Try.ntmps20
  go_wp2_with (go_at_call 23; go_loud ((with_reducible refine HU.out.mono ?_); rintro e w1 ⟨rfl, hP, hO⟩; have HE := Lib.hid (KRd.end (o := o) (v := .int .u8 v) (q' := uS most q) HC.out HB.out HG.out.1 HG.out.2 hP hO); have d1 : w1.cell? ⟨g, o, none⟩ = some (A[o]'HA.out) := (by rw [HE.out.1.cell o, Array.getElem?_eq_getElem HA.out]); have f1 := HE.out.1.frozen o; clear hP hO))
  go_end0
  exact ⟨rfl, HE.out.2.1, HE.out.2.2.1, HE.out.2.2.2⟩
set_option maxRecDepth 100000 in
set_option maxHeartbeats 1000000 in
theorem numr_int {most : Int} (c : KRd w k rb q bad) (hb : Blk w g T A) (ho : o < A.size) (hgk : g ≠ k) (hgr : g ≠ rb) (hm : 0 ≤ most ∧ most ≤ 9223372036854775807) :
    Calls Try.prog 44 #[.pointer (some ⟨k, 0, none⟩), .pointer (some ⟨g, o, none⟩), .int .u64 most] w (RdP w k rb g T (A.setIfInBounds o (.int .i64 (uV most q))) (uS most q) bad) := by
  have HC := Lib.hid c
  have HB := Lib.hid hb
  have HG := Lib.hid (And.intro hgk hgr)
  have HA := Lib.hid ho
  have c0 : w.cell? ⟨k, 0, none⟩ = some (.pointer (some ⟨rb, 0, none⟩)) := by rw [c.1.cell 0]; rfl
  have HU := Lib.hid (puint_any c.2 most)
  have hv1 := uV_rg hm.1 q
  have hv2 : IntKind.i64.wrap (uV most q) = uV most q := by rw [IntKind.wrap_i64]; omega
  obtain ⟨v, hv⟩ : ∃ v, numV q.s q.e (uC q.s most) = v := ⟨_, rfl⟩
  rw [show uV most q = v from hv] at hv2 ⊢
  rw [hv] at HU
  clear hv1 hm
  clear c hb ho hgk hgr
  go_enter Try.func44, Try.ntmps44
  go_wp2_with (go_at_call 23; go_loud ((with_reducible refine HU.out.mono ?_); rintro e w1 ⟨rfl, hP, hO⟩; have HE := Lib.hid (KRd.end (o := o) (v := .int .i64 v) (q' := uS most q) HC.out HB.out HG.out.1 HG.out.2 hP hO); have d1 : w1.cell? ⟨g, o, none⟩ = some (A[o]'HA.out) := (by rw [HE.out.1.cell o, Array.getElem?_eq_getElem HA.out]); have f1 := HE.out.1.frozen o; clear hP hO))
  go_end0
  exact ⟨rfl, HE.out.2.1, HE.out.2.2.1, HE.out.2.2.2⟩
set_option maxRecDepth 100000 in
set_option maxHeartbeats 1000000 in
theorem numr_err {most : Int} (c : KRd w k rb q bad) (hb : Blk w g T A) (ho : o < A.size) (hgk : g ≠ k) (hgr : g ≠ rb) (hm : 0 ≤ most ∧ most ≤ 9223372036854775807) :
    Calls Try.prog 46 #[.pointer (some ⟨k, 0, none⟩), .pointer (some ⟨g, o, none⟩), .int .u64 most] w (RdP w k rb g T (A.setIfInBounds o (.int .i64 (uV most q))) (uS most q) bad) := by
  have HC := Lib.hid c
  have HB := Lib.hid hb
  have HG := Lib.hid (And.intro hgk hgr)
  have HA := Lib.hid ho
  have c0 : w.cell? ⟨k, 0, none⟩ = some (.pointer (some ⟨rb, 0, none⟩)) := by rw [c.1.cell 0]; rfl
  have HU := Lib.hid (puint_any c.2 most)
  have hv1 := uV_rg hm.1 q
  have hv2 : IntKind.i64.wrap (uV most q) = uV most q := by rw [IntKind.wrap_i64]; omega
  obtain ⟨v, hv⟩ : ∃ v, numV q.s q.e (uC q.s most) = v := ⟨_, rfl⟩
  rw [show uV most q = v from hv] at hv2 ⊢
  rw [hv] at HU
  clear hv1 hm
  clear c hb ho hgk hgr
  go_enter Try.func46, Try.ntmps46
  go_wp2_with (go_at_call 23; go_loud ((with_reducible refine HU.out.mono ?_); rintro e w1 ⟨rfl, hP, hO⟩; have HE := Lib.hid (KRd.end (o := o) (v := .int .i64 v) (q' := uS most q) HC.out HB.out HG.out.1 HG.out.2 hP hO); have d1 : w1.cell? ⟨g, o, none⟩ = some (A[o]'HA.out) := (by rw [HE.out.1.cell o, Array.getElem?_eq_getElem HA.out]); have f1 := HE.out.1.frozen o; clear hP hO))
  go_end0
  exact ⟨rfl, HE.out.2.1, HE.out.2.2.1, HE.out.2.2.2⟩
set_option maxRecDepth 100000 in
set_option maxHeartbeats 1000000 in
theorem wholer_any (c : KRd w k rb q bad) (hb : Blk w g T A) (ho : o < A.size) (hgk : g ≠ k) (hgr : g ≠ rb) :
    Calls Try.prog 54 #[.pointer (some ⟨k, 0, none⟩), .pointer (some ⟨g, o, none⟩)] w (RdP w k rb g T (A.setIfInBounds o (.int .i64 (iV q))) (iS q) bad) := by
  have HC := Lib.hid c
  have HB := Lib.hid hb
  have HG := Lib.hid (And.intro hgk hgr)
  have HA := Lib.hid ho
  have c0 : w.cell? ⟨k, 0, none⟩ = some (.pointer (some ⟨rb, 0, none⟩)) := by rw [c.1.cell 0]; rfl
  have HU := Lib.hid (pint_any c.2 (-9223372036854775808) 9223372036854775807)
  obtain ⟨v, hv⟩ : ∃ v, iV q = v := ⟨_, rfl⟩
  rw [hv]
  rw [show Num.zag (numV q.s q.e (iC q.s (-9223372036854775808) 9223372036854775807)) = v from hv] at HU
  clear c hb ho hgk hgr
  go_enter Try.func54, Try.ntmps54
  go_wp2_with (go_at_call 69; go_loud ((with_reducible refine HU.out.mono ?_); rintro e w1 ⟨rfl, hP, hO⟩; have HE := Lib.hid (KRd.end (o := o) (v := .int .i64 v) (q' := iS q) HC.out HB.out HG.out.1 HG.out.2 hP hO); have d1 : w1.cell? ⟨g, o, none⟩ = some (A[o]'HA.out) := (by rw [HE.out.1.cell o, Array.getElem?_eq_getElem HA.out]); have f1 := HE.out.1.frozen o; clear hP hO))
  go_end0
  exact ⟨rfl, HE.out.2.1, HE.out.2.2.1, HE.out.2.2.2⟩
set_option maxRecDepth 100000 in
set_option maxHeartbeats 1000000 in
theorem textr_any {most : Int} (c : KRd w k rb q bad) (hb : Blk w g T A) (ho : o < A.size) (hgk : g ≠ k) (hgr : g ≠ rb) (hm : I64 most) :
    Calls Try.prog 51 #[.pointer (some ⟨k, 0, none⟩), .pointer (some ⟨g, o, none⟩), .int .i64 most] w (RdP w k rb g T (A.setIfInBounds o (.string (tV most q))) (tS most q) bad) := by
  have HC := Lib.hid c
  have HB := Lib.hid hb
  have HG := Lib.hid (And.intro hgk hgr)
  have HA := Lib.hid ho
  have c0 : w.cell? ⟨k, 0, none⟩ = some (.pointer (some ⟨rb, 0, none⟩)) := by rw [c.1.cell 0]; rfl
  have HU := Lib.hid (ptext_any c.2 most hm)
  obtain ⟨v, hv⟩ : ∃ v, tV most q = v := ⟨_, rfl⟩
  rw [hv]
  rw [show txV q.s q.e most = v from hv] at HU
  clear c hb ho hgk hgr
  go_enter Try.func51, Try.ntmps51
  go_wp2_with (go_at_call 66; go_loud ((with_reducible refine HU.out.mono ?_); rintro e w1 ⟨rfl, hP, hO⟩; have HE := Lib.hid (KRd.end (o := o) (v := .string v) (q' := tS most q) HC.out HB.out HG.out.1 HG.out.2 hP hO); have d1 : w1.cell? ⟨g, o, none⟩ = some (A[o]'HA.out) := (by rw [HE.out.1.cell o, Array.getElem?_eq_getElem HA.out]); have f1 := HE.out.1.frozen o; clear hP hO))
  go_end0
  exact ⟨rfl, HE.out.2.1, HE.out.2.2.1, HE.out.2.2.2⟩
end
end Go.Proofs.Ytghbjknpffiaiaa
