import Derived.Test.YtpidhcogaoehhaaMgg
import Derived.Test.YtpidhcogaoehhaaMgj
import Derived.Test.YtpidhcogaoehhaaMgd
import Derived.Test.YtpidhcogaoehhaaMgc

/- The law's own examples: programs that are written out; 'one'. No condition. -/
namespace Go.Proofs.Ytpidhcogaoehhaa
open Go.RowKit Cd
set_option linter.unusedVariables false
set_option linter.unusedSimpArgs false
theorem ops_blk {w : World} {g cap : Nat} {T : TypeId} {l : List OpV} (h : Blk w g T (rowsO l).toArray) : OpsAt w (.slice (some ⟨g, 0, none⟩) l.length cap) l := by
  refine ⟨_, cap, rfl, fun _ => ⟨g, 0, rfl, h.lt, fun i hi j hj => ?_⟩⟩
  have e2 : (rowsO l)[i * 5 + j]? = (opA l[i]).toList[j]? := Lea.flat_get (fun o => (opA o).toList) 5 (fun o => rfl) l i j hi hj
  rw [Nat.zero_add, h.cell, List.getElem?_toArray, e2, Array.getElem?_toList]
theorem funs_blk1 {w : World} {h : Nat} {T : TypeId} {a r : Int} {v : Value} {l : List OpV} {cap : Nat} (hb : Blk w h T #[.int .i64 a, .int .i64 r, v]) (ho : OpsAt w v l) : FunsAt w (.slice (some ⟨h, 0, none⟩) 1 cap) [⟨a, r, l⟩] := by
  refine ⟨_, cap, rfl, fun _ => ⟨h, 0, rfl, hb.lt, fun i hi => ?_⟩⟩
  have : i = 0 := by simp at hi; exact hi
  subst this
  exact ⟨hb.cell 0, hb.cell 1, v, hb.cell 2, ho⟩
theorem funs_blk2 {w : World} {h : Nat} {T : TypeId} {a r a' r' : Int} {v v' : Value} {l l' : List OpV} {cap : Nat} (hb : Blk w h T #[.int .i64 a, .int .i64 r, v, .int .i64 a', .int .i64 r', v']) (ho : OpsAt w v l) (ho' : OpsAt w v' l') : FunsAt w (.slice (some ⟨h, 0, none⟩) 2 cap) [⟨a, r, l⟩, ⟨a', r', l'⟩] := by
  refine ⟨_, cap, rfl, fun _ => ⟨h, 0, rfl, hb.lt, fun i hi => ?_⟩⟩
  have hi' : i = 0 ∨ i = 1 := by simp at hi; omega
  rcases hi' with rfl | rfl
  · exact ⟨hb.cell 0, hb.cell 1, v, hb.cell 2, ho⟩
  · exact ⟨hb.cell 3, hb.cell 4, v', hb.cell 5, ho'⟩
theorem Below.alloc2 {w : World} (o p : Obj) : Below w.heap.size w ((w.alloc o).alloc p) := ((Below.refl _ w).alloc (Nat.le_refl _) o).alloc (by simp) p
namespace Cd
def exA : List FunV := [⟨1, 1, [⟨14, 0, 0, 0, 0⟩]⟩]
def exB : List FunV := [⟨1, 1, [⟨14, 0, 1, 0, 0⟩]⟩]
def exC : List FunV := [⟨1, 1, [⟨10, 0, 0, 0, 1⟩]⟩]
def exD : List FunV := [⟨1, 1, [⟨14, 0, 0, 0, 0⟩]⟩, ⟨1, 1, [⟨13, 0, 0, 0, 0⟩, ⟨12, 0, 0, 0, 1⟩]⟩]
def exE : List FunV := [⟨1, 1, [⟨12, 0, 0, 0, 1⟩, ⟨14, 0, 0, 0, 0⟩]⟩, ⟨1, 1, [⟨14, 0, 0, 0, 0⟩]⟩]
theorem exA_look : lookE exA = (0, 0, 0) := by kernel_rfl
theorem exB_look : lookE exB = (111, 0, 0) := by kernel_rfl
theorem exC_look : lookE exC = (112, 0, 0) := by kernel_rfl
theorem ex0_look : lookE [] = (110, 0, 0) := by kernel_rfl
theorem exD_look : lookE exD = (113, 1, 1) := by kernel_rfl
theorem exE_look : lookE exE = (0, 0, 0) := by kernel_rfl
theorem one_lim (o : OpV) : Lim [⟨1, 1, [o]⟩] := ⟨by simp, fun f hf => by rw [List.mem_singleton] at hf; subst hf; simp⟩
theorem ex0_lim : Lim [] := ⟨by simp, fun f hf => by simp at hf⟩
theorem ex0_ok : OkP [] := fun f hf => by simp at hf
theorem exD_lim : Lim exD := ⟨by decide, fun f hf => by simp [exD] at hf; rcases hf with rfl | rfl <;> decide⟩
theorem exE_lim : Lim exE := ⟨by decide, fun f hf => by simp [exE] at hf; rcases hf with rfl | rfl <;> decide⟩
theorem exA_ok : OkP exA := fun f hf => by
  simp only [exA, List.mem_cons, List.mem_nil_iff, or_false] at hf
  subst hf
  refine ⟨by unfold I64; decide, by unfold I64; decide, fun o ho => ?_⟩
  simp only [List.mem_cons, List.mem_nil_iff, or_false] at ho
  subst ho; (unfold OkO U8 I64; decide)
theorem exB_ok : OkP exB := fun f hf => by
  simp only [exB, List.mem_cons, List.mem_nil_iff, or_false] at hf
  subst hf
  refine ⟨by unfold I64; decide, by unfold I64; decide, fun o ho => ?_⟩
  simp only [List.mem_cons, List.mem_nil_iff, or_false] at ho
  subst ho; (unfold OkO U8 I64; decide)
theorem exC_ok : OkP exC := fun f hf => by
  simp only [exC, List.mem_cons, List.mem_nil_iff, or_false] at hf
  subst hf
  refine ⟨by unfold I64; decide, by unfold I64; decide, fun o ho => ?_⟩
  simp only [List.mem_cons, List.mem_nil_iff, or_false] at ho
  subst ho; (unfold OkO U8 I64; decide)
theorem exD_ok : OkP exD := fun f hf => by
  simp only [exD, List.mem_cons, List.mem_nil_iff, or_false] at hf
  rcases hf with rfl | rfl
  · refine ⟨by unfold I64; decide, by unfold I64; decide, fun o ho => ?_⟩
    simp only [List.mem_cons, List.mem_nil_iff, or_false] at ho
    subst ho; (unfold OkO U8 I64; decide)
  · refine ⟨by unfold I64; decide, by unfold I64; decide, fun o ho => ?_⟩
    simp only [List.mem_cons, List.mem_nil_iff, or_false] at ho
    rcases ho with rfl | rfl <;> (unfold OkO U8 I64; decide)
theorem exE_ok : OkP exE := fun f hf => by
  simp only [exE, List.mem_cons, List.mem_nil_iff, or_false] at hf
  rcases hf with rfl | rfl
  · refine ⟨by unfold I64; decide, by unfold I64; decide, fun o ho => ?_⟩
    simp only [List.mem_cons, List.mem_nil_iff, or_false] at ho
    rcases ho with rfl | rfl <;> (unfold OkO U8 I64; decide)
  · refine ⟨by unfold I64; decide, by unfold I64; decide, fun o ho => ?_⟩
    simp only [List.mem_cons, List.mem_nil_iff, or_false] at ho
    subst ho; (unfold OkO U8 I64; decide)
theorem exE_fk {i j : Nat} (h : Fk exE i j) : i = 0 ∧ j = 1 := by
  obtain ⟨hi, o, ho, h12, hn⟩ := h
  have hi' : i = 0 ∨ i = 1 := by simp [exE] at hi; omega
  rcases hi' with rfl | rfl
  · simp [exE] at ho
    rcases ho with rfl | rfl
    · simp at hn; omega
    · simp at h12
  · simp [exE] at ho
    subst ho
    simp at h12
theorem exE_rch {i j : Nat} (h : Rch exE i j) : i = 0 ∧ j = 1 := by
  induction h with
  | one e => exact exE_fk e
  | more r e ih => have := exE_fk e; omega
theorem exE_one : Rch exE 0 1 := .one ⟨by decide, ⟨12, 0, 0, 0, 1⟩, by simp [exE], rfl, rfl⟩
theorem exE_reach0 : reachX exE 0 = [1] := by
  unfold reachX
  rw [if_pos ⟨by rw [exE_look], by decide, by decide⟩]
  have : reachL exE (0 : Int).toNat = [1] := by
    rw [← reachL_of (p := fun j => decide (j = 1))]
    · rfl
    · intro j hj
      rw [decide_eq_true_eq]
      exact ⟨fun h => by subst h; exact exE_one, fun h => (exE_rch h).2⟩
  rw [this]; rfl
theorem exE_reach1 : reachX exE 1 = [] := by
  unfold reachX
  rw [if_pos ⟨by rw [exE_look], by decide, by decide⟩]
  have : reachL exE (1 : Int).toNat = [] := by
    rw [← reachL_of (p := fun j => false)]
    · rfl
    · intro j hj
      exact ⟨fun h => (by cases h), fun h => absurd (exE_rch h).1 (by decide)⟩
  rw [this]; rfl
end Cd
set_option maxRecDepth 100000 in
set_option maxHeartbeats 1000000 in
theorem one_any {w : World} (k d a b n : Int) : Calls Try.prog 17 #[.agg #[.int .u8 k, .int .i64 d, .int .i64 a, .int .i64 b, .int .i64 n]] w fun e w' => ∃ v, e = .returned (.agg #[v]) ∧ FunsAt w' v [⟨1, 1, [⟨k, d, a, b, n⟩]⟩] ∧ Below w.heap.size w w' := by
  go_enter Try.func17, Try.ntmps17
  go_wp2_with fail
  have h1 : Blk ((((w.alloc (.cells #[.int .u8 k, .int .i64 d, .int .i64 a, .int .i64 b, .int .i64 n] 50)).alloc (.cells #[.slice (some ⟨w.heap.size + 1 + 1 + 1, 0, none⟩) 1 1] 24)).alloc (.cells #[.int .u8 k, .int .i64 d, .int .i64 a, .int .i64 b, .int .i64 n] 50)).alloc (.cells #[.int .i64 1, .int .i64 1, .slice (some ⟨w.heap.size + 1 + 1, 0, none⟩) 1 1] 47)) (w.heap.size + 1) 24 #[.slice (some ⟨w.heap.size + 1 + 1 + 1, 0, none⟩) 1 1] := by
    have := ((Blk.new (w.alloc (.cells #[.int .u8 k, .int .i64 d, .int .i64 a, .int .i64 b, .int .i64 n] 50)) 24 #[.slice (some ⟨w.heap.size + 1 + 1 + 1, 0, none⟩) 1 1]).alloc (.cells #[.int .u8 k, .int .i64 d, .int .i64 a, .int .i64 b, .int .i64 n] 50)).alloc (.cells #[.int .i64 1, .int .i64 1, .slice (some ⟨w.heap.size + 1 + 1, 0, none⟩) 1 1] 47)
    simpa using this
  have h2 : Blk ((((w.alloc (.cells #[.int .u8 k, .int .i64 d, .int .i64 a, .int .i64 b, .int .i64 n] 50)).alloc (.cells #[.slice (some ⟨w.heap.size + 1 + 1 + 1, 0, none⟩) 1 1] 24)).alloc (.cells #[.int .u8 k, .int .i64 d, .int .i64 a, .int .i64 b, .int .i64 n] 50)).alloc (.cells #[.int .i64 1, .int .i64 1, .slice (some ⟨w.heap.size + 1 + 1, 0, none⟩) 1 1] 47)) (w.heap.size + 1 + 1) 50 #[.int .u8 k, .int .i64 d, .int .i64 a, .int .i64 b, .int .i64 n] := by
    have := ((Blk.new ((w.alloc (.cells #[.int .u8 k, .int .i64 d, .int .i64 a, .int .i64 b, .int .i64 n] 50)).alloc (.cells #[.slice (some ⟨w.heap.size + 1 + 1 + 1, 0, none⟩) 1 1] 24)) 50 #[.int .u8 k, .int .i64 d, .int .i64 a, .int .i64 b, .int .i64 n])).alloc (.cells #[.int .i64 1, .int .i64 1, .slice (some ⟨w.heap.size + 1 + 1, 0, none⟩) 1 1] 47)
    simpa using this
  have h3 : Blk ((((w.alloc (.cells #[.int .u8 k, .int .i64 d, .int .i64 a, .int .i64 b, .int .i64 n] 50)).alloc (.cells #[.slice (some ⟨w.heap.size + 1 + 1 + 1, 0, none⟩) 1 1] 24)).alloc (.cells #[.int .u8 k, .int .i64 d, .int .i64 a, .int .i64 b, .int .i64 n] 50)).alloc (.cells #[.int .i64 1, .int .i64 1, .slice (some ⟨w.heap.size + 1 + 1, 0, none⟩) 1 1] 47)) (w.heap.size + 1 + 1 + 1) 47 #[.int .i64 1, .int .i64 1, .slice (some ⟨w.heap.size + 1 + 1, 0, none⟩) 1 1] := by
    have := Blk.new (((w.alloc (.cells #[.int .u8 k, .int .i64 d, .int .i64 a, .int .i64 b, .int .i64 n] 50)).alloc (.cells #[.slice (some ⟨w.heap.size + 1 + 1 + 1, 0, none⟩) 1 1] 24)).alloc (.cells #[.int .u8 k, .int .i64 d, .int .i64 a, .int .i64 b, .int .i64 n] 50)) 47 #[.int .i64 1, .int .i64 1, .slice (some ⟨w.heap.size + 1 + 1, 0, none⟩) 1 1]
    simpa using this
  have hB : Below w.heap.size w ((((w.alloc (.cells #[.int .u8 k, .int .i64 d, .int .i64 a, .int .i64 b, .int .i64 n] 50)).alloc (.cells #[.slice (some ⟨w.heap.size + 1 + 1 + 1, 0, none⟩) 1 1] 24)).alloc (.cells #[.int .u8 k, .int .i64 d, .int .i64 a, .int .i64 b, .int .i64 n] 50)).alloc (.cells #[.int .i64 1, .int .i64 1, .slice (some ⟨w.heap.size + 1 + 1, 0, none⟩) 1 1] 47)) :=
    (((Below.refl _ w).alloc (Nat.le_refl _) _).alloc (by simp) _).alloc (by simp; omega) _ |>.alloc (by simp; omega) _
  generalize (((w.alloc (.cells #[.int .u8 k, .int .i64 d, .int .i64 a, .int .i64 b, .int .i64 n] 50)).alloc (.cells #[.slice (some ⟨w.heap.size + 1 + 1 + 1, 0, none⟩) 1 1] 24)).alloc (.cells #[.int .u8 k, .int .i64 d, .int .i64 a, .int .i64 b, .int .i64 n] 50)).alloc (.cells #[.int .i64 1, .int .i64 1, .slice (some ⟨w.heap.size + 1 + 1, 0, none⟩) 1 1] 47) = w1 at *
  have z1 : w1.cell? ⟨w.heap.size + 1, 0, none⟩ = some (.slice (some ⟨w.heap.size + 1 + 1 + 1, 0, none⟩) 1 1) := h1.cell 0
  have HR := Lib.hid (funs_blk1 (cap := 1) h3 (ops_blk (l := [⟨k, d, a, b, n⟩]) (cap := 1) (g := w.heap.size + 1 + 1) (T := 50) (by exact h2)))
  have HB := Lib.hid hB
  clear h2 h3 hB
  try simp only [Exit.inBlock, Exit.then]
  exact ret_cell (cs := #[.slice (some ⟨w.heap.size + 1 + 1 + 1, 0, none⟩) 1 1]) (T := 24) rfl rfl h1 Try.underlying24 rfl (by kernel_rfl) rfl ⟨_, rfl, HR.out, HB.out⟩
end Go.Proofs.Ytpidhcogaoehhaa


/- More steps of the theorem on regions that draw their order: operations on two slots, calls that only make memory, guards. No condition. -/
namespace Go.Proofs.Ytpidhcogaoehhaa
namespace Reg
open Go.RowKit
set_option linter.unusedVariables false
section
variable {P : Program} {ops : Array Oper} {I : World → Prop} {a0 : Act} {R : Act → World → Prop} {o : Oper} {rest : List Oper} {K : List (Option Tmp × Spec)} {Gs : List (World → World → Prop)} {Js : List (World → Prop)} {w0 : World}
/-- An operation on two slots. -/
theorem rely_two (s t : Tmp) (u v c : Value) (hg : o.guard = none) (hop : o.op.operands = #[.tmp s, .tmp t]) (hu : ∀ x w, Fact K a0 s x w → x = u) (hv : ∀ x w, Fact K a0 t x w → x = v)
    (hrun : ∀ (ρ : Operand → Value) w, ρ (.tmp s) = u → ρ (.tmp t) = v → I w → (execOp ρ o).run P w = .ok (.value c) w)
    (hr : Rely P ops I w0 a0 R rest ((o.dst, Is c) :: K) Gs Js) : Rely P ops I w0 a0 R (o :: rest) K Gs Js :=
  rely_is c (fun a w hI hF => det_plain hg (hrun _ w (hu _ w (hF s (looksN hop (by simp)))) (hv _ w (hF t (looksN hop (by simp)))) hI)) hr
/-- A call that only makes memory. -/
theorem rely_mk (c : Value) (f : FuncId) (args : Array Value) (hg : o.guard = none)
    (hrun : ∀ (a : Act) (w : World), I w → (∀ t ∈ o.looksAt ops, Fact K a0 t (a.tmps.getD t undef) w) → (execOp a.eval o).run P w = .ok (.enter f args) w)
    (hc : ∀ w, I w → Calls P f args w fun e w' => e = .returned c ∧ Below w.heap.size w w')
    (hr : Rely P ops I w0 a0 R rest ((o.dst, Is c) :: K) Gs Js) : Rely P ops I w0 a0 R (o :: rest) K Gs Js := by
  refine rely_rel (Is c) (stab_is c _) (fun G _ => stab_is c G) hg (fun a w hi hF => ?_) hr
  unfold Oper.wp
  rw [hrun a w hi hF]
  simp only [Oper.upon]
  refine (hc w hi).mono fun e w' ⟨he, hb⟩ => ?_
  subst he
  exact ⟨c, rfl, rfl, hb⟩
theorem wanted_true {a : Act} {j : Nat} {g : Tmp} (hg : o.guard = some (j, true)) (hd : ((ops[j]?).bind (·.dst)) = some g) (hv : a.tmps.getD g undef = .bool true) : Region.wanted o (yielded ops a.tmps) = true := by
  unfold Region.wanted
  rw [hg]
  simp only [yielded, hd, Option.bind_some]
  rw [Array.getD_eq_getD_getElem?] at hv
  cases h : a.tmps[g]? with
  | none => rw [h] at hv; cases hv
  | some v => rw [h] at hv; simp only [Option.getD_some] at hv; subst hv; rfl
theorem looksG {j : Nat} {b : Bool} {g : Tmp} (hg : o.guard = some (j, b)) (hd : ((ops[j]?).bind (·.dst)) = some g) : g ∈ o.looksAt ops := by
  unfold Oper.looksAt
  rw [hg]
  simp [hd]
theorem rely_plain (c : Value) (hg : o.guard = none)
    (hrun : ∀ (a : Act) (w : World), I w → (∀ t ∈ o.looksAt ops, Fact K a0 t (a.tmps.getD t undef) w) → (execOp a.eval o).run P w = .ok (.value c) w)
    (hr : Rely P ops I w0 a0 R rest ((o.dst, Is c) :: K) Gs Js) : Rely P ops I w0 a0 R (o :: rest) K Gs Js :=
  rely_is c (fun a w hI hF => det_plain hg (hrun a w hI hF)) hr
/-- One under a guard that holds. -/
theorem rely_isg (c : Value) (j : Nat) (g : Tmp) (hg : o.guard = some (j, true)) (hd : ((ops[j]?).bind (·.dst)) = some g) (hgf : ∀ v w, Fact K a0 g v w → v = .bool true)
    (hrun : ∀ (a : Act) (w : World), I w → (∀ t ∈ o.looksAt ops, Fact K a0 t (a.tmps.getD t undef) w) → (execOp a.eval o).run P w = .ok (.value c) w)
    (hr : Rely P ops I w0 a0 R rest ((o.dst, Is c) :: K) Gs Js) : Rely P ops I w0 a0 R (o :: rest) K Gs Js :=
  rely_is c (fun a w hI hF => .inl ⟨wanted_true hg hd (hgf _ w (hF g (looksG hg hd))), hrun a w hI hF⟩) hr
/-- One that makes memory, under a guard that holds. -/
theorem rely_relg (S : Spec) (hS : Stab S Grow) (hG : ∀ G ∈ Gs, Stab S G) (j : Nat) (g : Tmp) (hg : o.guard = some (j, true)) (hd : ((ops[j]?).bind (·.dst)) = some g) (hgf : ∀ v w, Fact K a0 g v w → v = .bool true)
    (h : ∀ a w, I w → (∀ t ∈ o.looksAt ops, Fact K a0 t (a.tmps.getD t undef) w) → o.wp P a w (fun a' w' => ∃ v, a' = a.put o.dst v ∧ S v w' ∧ Grow w w') (fun _ _ _ => False))
    (hr : Rely P ops I w0 a0 R rest ((o.dst, S) :: K) Gs Js) : Rely P ops I w0 a0 R (o :: rest) K Gs Js :=
  .inl ⟨S, hS, hG, fun a w hI _ hF => by rw [if_pos (wanted_true hg hd (hgf _ w (hF g (looksG hg hd))))]; exact h a w hI hF, hr⟩
/-- A call whose arguments may lie anywhere, under a guard that holds. -/
theorem rely_callg (S : Spec) (hS : Stab S Grow) (hG : ∀ G ∈ Gs, Stab S G) (j : Nat) (g : Tmp) (hg : o.guard = some (j, true)) (hd : ((ops[j]?).bind (·.dst)) = some g) (hgf : ∀ v w, Fact K a0 g v w → v = .bool true)
    (h : ∀ (a : Act) (w : World), I w → (∀ t ∈ o.looksAt ops, Fact K a0 t (a.tmps.getD t undef) w) → ∃ f args, (execOp a.eval o).run P w = .ok (.enter f args) w ∧ Calls P f args w fun e w' => ∃ v, e = .returned v ∧ S v w' ∧ Below w.heap.size w w')
    (hr : Rely P ops I w0 a0 R rest ((o.dst, S) :: K) Gs Js) : Rely P ops I w0 a0 R (o :: rest) K Gs Js := by
  refine rely_relg S hS hG j g hg hd hgf (fun a w hi hF => ?_) hr
  obtain ⟨f, args, hrun, hc⟩ := h a w hi hF
  unfold Oper.wp
  rw [hrun]
  simp only [Oper.upon]
  refine hc.mono fun e w' ⟨v, he, h1, h2⟩ => ?_
  subst he
  exact ⟨v, rfl, h1, h2⟩
end
end Reg
end Go.Proofs.Ytpidhcogaoehhaa


/- The check of the theorem on regions that draw their order, reckoned so that great regions pass: an edge of its own is looked for first. No condition. -/
namespace Go.Proofs.Ytpidhcogaoehhaa
namespace Reg
open Go.RowKit
set_option linter.unusedVariables false
def near (md : Region.Mode) (ops : Array Oper) (j i : Nat) : Bool :=
  match ops[i]? with
  | some o => o.after.any fun e => Region.binds md e && e.on == j
  | none => false
def aheadQ (md : Region.Mode) (ops : Array Oper) (j i : Nat) : Bool := near md ops j i || ahead md ops ops.size j i
theorem aheadQ_imp {md : Region.Mode} {ops : Array Oper} {j i : Nat} (h : aheadQ md ops j i = true) : ahead md ops ops.size j i = true := by
  unfold aheadQ at h
  rw [Bool.or_eq_true] at h
  rcases h with h | h
  · unfold near at h
    cases ho : ops[i]? with
    | none => rw [ho] at h; cases h
    | some o =>
      rw [ho] at h
      simp only at h
      have hlt : i < ops.size := (Array.getElem?_eq_some_iff.1 ho).1
      obtain ⟨k, hk⟩ : ∃ k, ops.size = k + 1 := ⟨ops.size - 1, by omega⟩
      rw [hk]
      unfold ahead
      rw [ho]
      simp only
      rw [Array.any_eq_true] at h ⊢
      obtain ⟨x, hx, h2⟩ := h
      refine ⟨x, hx, ?_⟩
      rw [Bool.and_eq_true] at h2 ⊢
      exact ⟨h2.1, by rw [h2.2]; rfl⟩
  · exact h
def readsOkQ (md : Region.Mode) (ops : Array Oper) (n : Nat) (i : Nat) : Bool :=
  match ops[i]? with
  | some oi => (oi.looksAt ops).all fun t => (List.range n).all fun j =>
    (match ops[j]? with | some oj => oj.dst != some t || (decide (j < i) && aheadQ md ops j i) || (decide (i < j) && aheadQ md ops i j) | none => true)
  | none => false
def relyOkQ (P : Program) (md : Region.Mode) (ops : Array Oper) (n m : Nat) : Bool :=
  textOk P md ops n && decide (n ≤ ops.size) && (List.range n).all fun i => readsOkQ md ops n i && distOk ops n i &&
    ((List.range ops.size).all fun t => decide (t < n) || aheadQ md ops i t) &&
    (match (ops[i]?).bind (·.dst) with | some d => decide (d < m) | none => true)
theorem relyOk_of {P : Program} {md : Region.Mode} {ops : Array Oper} {n m : Nat} (h : relyOkQ P md ops n m = true) : relyOk P md ops n m = true := by
  unfold relyOkQ at h
  unfold relyOk
  rw [Bool.and_eq_true] at h ⊢
  refine ⟨h.1, ?_⟩
  have h2 := h.2
  rw [List.all_eq_true] at h2 ⊢
  intro i hi
  have h3 := h2 i hi
  rw [Bool.and_eq_true, Bool.and_eq_true, Bool.and_eq_true] at h3 ⊢
  obtain ⟨⟨⟨a, b⟩, c⟩, d⟩ := h3
  refine ⟨⟨⟨?_, b⟩, ?_⟩, d⟩
  · unfold readsOkQ at a
    unfold readsOk
    cases ho : ops[i]? with
    | none => rw [ho] at a; cases a
    | some oi =>
      rw [ho] at a
      simp only at a ⊢
      rw [List.all_eq_true] at a ⊢
      intro t ht
      have a1 := a t ht
      rw [List.all_eq_true] at a1 ⊢
      intro j hj
      have a2 := a1 j hj
      cases hj2 : ops[j]? with
      | none => rfl
      | some oj =>
        rw [hj2] at a2
        simp only [Bool.or_eq_true, Bool.and_eq_true] at a2 ⊢
        rcases a2 with (a2 | a2) | a2
        · exact .inl (.inl a2)
        · exact .inl (.inr ⟨a2.1, aheadQ_imp a2.2⟩)
        · exact .inr ⟨a2.1, aheadQ_imp a2.2⟩
  · rw [List.all_eq_true] at c ⊢
    intro t ht
    have c1 := c t ht
    rw [Bool.or_eq_true] at c1 ⊢
    exact c1.imp id aheadQ_imp
end Reg
end Go.Proofs.Ytpidhcogaoehhaa


/- More steps of the theorem on regions that draw their order: guards either way, calls without one. No condition. -/
namespace Go.Proofs.Ytpidhcogaoehhaa
namespace Reg
open Go.RowKit
set_option linter.unusedVariables false
section
variable {P : Program} {ops : Array Oper} {I : World → Prop} {a0 : Act} {R : Act → World → Prop} {o : Oper} {rest : List Oper} {K : List (Option Tmp × Spec)} {Gs : List (World → World → Prop)} {Js : List (World → Prop)} {w0 : World}
theorem wanted_b {a : Act} {j : Nat} {g : Tmp} {b : Bool} (hg : o.guard = some (j, b)) (hd : ((ops[j]?).bind (·.dst)) = some g) (hv : a.tmps.getD g undef = .bool b) : Region.wanted o (yielded ops a.tmps) = true := by
  unfold Region.wanted
  rw [hg]
  simp only [yielded, hd, Option.bind_some]
  rw [Array.getD_eq_getD_getElem?] at hv
  cases h : a.tmps[g]? with
  | none => rw [h] at hv; cases hv
  | some v => rw [h] at hv; simp only [Option.getD_some] at hv; subst hv; cases b <;> rfl
/-- One under a guard that holds. -/
theorem rely_isb (c : Value) (j : Nat) (b : Bool) (g : Tmp) (hg : o.guard = some (j, b)) (hd : ((ops[j]?).bind (·.dst)) = some g) (hgf : ∀ v w, Fact K a0 g v w → v = .bool b)
    (hrun : ∀ (a : Act) (w : World), I w → (∀ t ∈ o.looksAt ops, Fact K a0 t (a.tmps.getD t undef) w) → (execOp a.eval o).run P w = .ok (.value c) w)
    (hr : Rely P ops I w0 a0 R rest ((o.dst, Is c) :: K) Gs Js) : Rely P ops I w0 a0 R (o :: rest) K Gs Js :=
  rely_is c (fun a w hI hF => .inl ⟨wanted_b hg hd (hgf _ w (hF g (looksG hg hd))), hrun a w hI hF⟩) hr
/-- A call whose arguments may lie anywhere, under a guard that holds. -/
theorem rely_callb (S : Spec) (hS : Stab S Grow) (hG : ∀ G ∈ Gs, Stab S G) (j : Nat) (b : Bool) (g : Tmp) (hg : o.guard = some (j, b)) (hd : ((ops[j]?).bind (·.dst)) = some g) (hgf : ∀ v w, Fact K a0 g v w → v = .bool b)
    (h : ∀ (a : Act) (w : World), I w → (∀ t ∈ o.looksAt ops, Fact K a0 t (a.tmps.getD t undef) w) → ∃ f args, (execOp a.eval o).run P w = .ok (.enter f args) w ∧ Calls P f args w fun e w' => ∃ v, e = .returned v ∧ S v w' ∧ Below w.heap.size w w')
    (hr : Rely P ops I w0 a0 R rest ((o.dst, S) :: K) Gs Js) : Rely P ops I w0 a0 R (o :: rest) K Gs Js := by
  refine .inl ⟨S, hS, hG, fun a w hI _ hF => ?_, hr⟩
  rw [if_pos (wanted_b hg hd (hgf _ w (hF g (looksG hg hd))))]
  obtain ⟨f, args, hrun, hc⟩ := h a w hI hF
  unfold Oper.wp
  rw [hrun]
  simp only [Oper.upon]
  refine hc.mono fun e w' ⟨v, he, h1, h2⟩ => ?_
  subst he
  exact ⟨v, rfl, h1, h2⟩
/-- .. without a guard. -/
theorem rely_call0 (S : Spec) (hS : Stab S Grow) (hG : ∀ G ∈ Gs, Stab S G) (hg : o.guard = none)
    (h : ∀ (a : Act) (w : World), I w → (∀ t ∈ o.looksAt ops, Fact K a0 t (a.tmps.getD t undef) w) → ∃ f args, (execOp a.eval o).run P w = .ok (.enter f args) w ∧ Calls P f args w fun e w' => ∃ v, e = .returned v ∧ S v w' ∧ Below w.heap.size w w')
    (hr : Rely P ops I w0 a0 R rest ((o.dst, S) :: K) Gs Js) : Rely P ops I w0 a0 R (o :: rest) K Gs Js := by
  refine rely_rel S hS hG hg (fun a w hi hF => ?_) hr
  obtain ⟨f, args, hrun, hc⟩ := h a w hi hF
  unfold Oper.wp
  rw [hrun]
  simp only [Oper.upon]
  refine hc.mono fun e w' ⟨v, he, h1, h2⟩ => ?_
  subst he
  exact ⟨v, rfl, h1, h2⟩
end
end Reg
end Go.Proofs.Ytpidhcogaoehhaa
