
/- The same: the theorem. No condition. -/
import Derived.Test.YtfjadphgjjlhiaaReg
namespace Go.Proofs.Ytfjadphgjjlhiaa
namespace Reg
set_option linter.unusedVariables false
section
variable {P : Program} {ops : Array Oper} {Q : Exit → Act → World → Prop} {md : Region.Mode} {n : Nat}

def calmAll (P : Program) (ops : Array Oper) (n : Nat) (a : Act) : Bool :=
  (ops.toList.drop n).all fun o => !kind P o || now a.eval o || !Region.wanted o (yielded ops a.tmps)
/-- What the walk in the text's order comes to. -/
def RegQ (P : Program) (ops : Array Oper) (n : Nat) (Q : Exit → Act → World → Prop) : Exit → Act → World → Prop
  | .normal, a, w => calmAll P ops n a = true ∧ Q .normal a w
  | _, _, _ => False
theorem no_out : ¬ LetsOut (RegQ P ops n Q) := fun ⟨_, _, h⟩ => h
/-- What an operation does, it does: some frame and world behind it. -/
theorem wpOp_some {i : Nat} {K : Act → World → Prop} {a : Act} {w : World} (h : wpOp P ops (RegQ P ops n Q) i K a w) :
    ∃ a' w', K a' w' ∧ ∀ t, (∀ o, ops[i]? = some o → o.dst ≠ some t) → a'.tmps.getD t undef = a.tmps.getD t undef := by
  have put : ∀ (a : Act) (d : Option Tmp) (v : Value) (t : Nat), d ≠ some t → (a.put d v).tmps.getD t undef = a.tmps.getD t undef := by
    intro a d v t h
    cases d with
    | none => rfl
    | some d =>
      have hne : d ≠ t := fun e => h (by rw [e])
      simp only [Act.put, Array.getD_eq_getD_getElem?, Array.getElem?_setIfInBounds_ne hne]
  unfold wpOp at h
  cases ho : ops[i]? with
  | none => rw [ho] at h; exact ⟨a, w, h, fun _ _ => rfl⟩
  | some o =>
    rw [ho] at h
    simp only at h
    have key : ∀ v t, (∀ o', some o = some o' → o'.dst ≠ some t) → (a.put o.dst v).tmps.getD t undef = a.tmps.getD t undef := fun v t ht => put a o.dst v t (ht o rfl)
    split at h
    · rcases h with h | ⟨_, h⟩
      · unfold Oper.wp at h
        generalize (execOp a.eval o).run P w = r at h
        cases r with
        | ok n w' =>
          cases n <;> simp only [Oper.upon] at h
          case value v => exact ⟨_, _, h, key v⟩
          case skip => exact ⟨_, _, h, key _⟩
          case defer d => exact ⟨_, _, h, fun t ht => put _ _ _ _ (ht o rfl)⟩
          case enter f args =>
            obtain ⟨e, w'', fr, hR, _⟩ := h []
            cases e with
            | returned v => exact ⟨_, _, hR, key v⟩
            | panicked c => exact hR.elim
            | outgrown => exact (no_out hR).elim
          case row row args =>
            obtain ⟨v, w'', hR, _⟩ := h default []
            exact ⟨_, _, hR, key v⟩
        | halt x w' => cases x <;> simp only [Oper.upon] at h; exact h.elim
      · exact (no_out h).elim
    · exact ⟨_, _, h, key _⟩
theorem wpOp_up {i : Nat} {K K' : Act → World → Prop} (hK : ∀ a w, K a w → K' a w) {a : Act} {w : World} (h : wpOp P ops (RegQ P ops n Q) i K a w) : wpOp P ops Q i K' a w := by
  unfold wpOp at h ⊢
  cases ho : ops[i]? with
  | none => rw [ho] at h; exact hK _ _ h
  | some o =>
    rw [ho] at h
    simp only at h ⊢
    split at h
    · rename_i hw
      rw [if_pos hw]
      rcases h with h | ⟨_, h⟩
      · refine .inl ?_
        unfold Oper.wp at h ⊢
        generalize (execOp a.eval o).run P w = r at h
        cases r with
        | ok n w' =>
          cases n <;> simp only [Oper.upon] at h ⊢
          case value v => exact hK _ _ h
          case skip => exact hK _ _ h
          case defer d => exact hK _ _ h
          case enter f args =>
            refine Calls.mono h fun e w'' hR => ?_
            cases e with
            | returned v => exact hK _ _ hR
            | panicked c => exact hR.elim
            | outgrown => exact (no_out hR).elim
          case row row args => exact Rows.mono h fun v w'' hR => hK _ _ hR
        | halt x w' => cases x <;> simp only [Oper.upon] at h; exact h.elim
      · exact (no_out h).elim
    · rename_i hw
      rw [if_neg hw]; exact hK _ _ h
/-- What an operation that reckons yields, whatever the world. -/
theorem yields {i : Nat} {o : Oper} {K : Act → World → Prop} {a : Act} {w : World} (hi : ops[i]? = some o) (hc : Region.wanted o (yielded ops a.tmps) = true → CalmV P (execOp a.eval o))
    (h : wpOp P ops (RegQ P ops n Q) i K a w) : ∃ v, Yields P ops o v a ∧ K (a.put o.dst v) w := by
  unfold wpOp at h
  rw [hi] at h
  simp only at h
  split at h
  · rename_i hw
    rcases h with h | ⟨_, h⟩
    · rcases hc hw with ⟨v, hv⟩ | hh
      · unfold Oper.wp at h
        rw [hv w] at h
        exact ⟨v, .inl ⟨hw, hv⟩, h⟩
      · obtain ⟨x, w', e⟩ := hh w
        unfold Oper.wp at h
        rw [e] at h
        cases x <;> simp only [Oper.upon] at h
        exact h.elim
    · exact (no_out h).elim
  · rename_i hw
    exact ⟨undef, .inr ⟨by simpa using hw, rfl⟩, h⟩
theorem noSel (h : Region.noSelect ops = true) {i : Nat} {o : Oper} (hi : ops[i]? = some o) : ∀ cs b, o.op ≠ .select cs b := fun cs b => Region.noSelect_spec h i o cs b hi
theorem no_panic {d : Option Tmp} {v : Value} : ∀ c a w, RegQ P ops n Q (.panic c) (Act.put a d v) w → RegQ P ops n Q (.panic c) a w := fun _ _ _ h => h.elim
theorem yielded_getD (ops : Array Oper) (tmps : Array Value) (g : Nat) : yielded ops tmps g = (match (ops[g]?).bind (·.dst) with | some d => (match tmps.getD d undef with | .bool b => some b | _ => none) | none => none) := by
  unfold yielded
  cases (ops[g]?).bind (·.dst) with
  | none => rfl
  | some d =>
    simp only [Option.bind_some, Array.getD_eq_getD_getElem?]
    cases tmps[d]? with
    | none => rfl
    | some v => cases v <;> rfl
/-- A guard's slot that holds the same gives the same word. -/
theorem wanted_same {o : Oper} {a a' : Act} (h : ∀ t ∈ o.looksAt ops, a'.tmps.getD t undef = a.tmps.getD t undef) : Region.wanted o (yielded ops a'.tmps) = Region.wanted o (yielded ops a.tmps) := by
  unfold Region.wanted
  cases hg : o.guard with
  | none => rfl
  | some q =>
    obtain ⟨g, want⟩ := q
    simp only
    rw [yielded_getD, yielded_getD]
    cases hd : (ops[g]?).bind (·.dst) with
    | none => rfl
    | some d =>
      simp only
      rw [h d (List.mem_append_right _ (by simp [hg, hd]))]
theorem exec_same {o : Oper} {a a' : Act} (hs : ∀ cs b, o.op ≠ .select cs b) (h : ∀ t ∈ o.looksAt ops, a'.tmps.getD t undef = a.tmps.getD t undef) : ∀ x ∈ o.op.operands, a'.eval x = a.eval x := by
  intro x hx
  cases x with
  | tmp t => exact h t (List.mem_append_left _ (List.mem_filterMap.2 ⟨.tmp t, by simpa using hx, rfl⟩))
  | _ => rfl
/-- The later one reckons: it may go first. -/
theorem swap_i {i j : Nat} {oi oj : Oper} (hi : ops[i]? = some oi) (hj : ops[j]? = some oj) (hs : Region.noSelect ops = true) (hap : oi.apart ops oj = true)
    {K : Act → World → Prop} {a : Act} {w : World} (hc : Region.wanted oi (yielded ops a.tmps) = true → CalmV P (execOp a.eval oi))
    (h : wpOp P ops (RegQ P ops n Q) j (wpOp P ops (RegQ P ops n Q) i K) a w) : wpOp P ops (RegQ P ops n Q) i (wpOp P ops (RegQ P ops n Q) j K) a w := by
  obtain ⟨h1, h2, h3⟩ := Oper.apart_spec hap
  -- what i yields
  have hy : ∃ v, Yields P ops oi v a := by
    by_cases hw : Region.wanted oi (yielded ops a.tmps) = true
    · rcases hc hw with ⟨v, hv⟩ | hh
      · exact ⟨v, .inl ⟨hw, hv⟩⟩
      · exfalso
        obtain ⟨a', w', hk, hsame⟩ := wpOp_some h
        -- i does not run to its end behind j either
        have hlook : ∀ t ∈ oi.looksAt ops, a'.tmps.getD t undef = a.tmps.getD t undef := fun t ht => hsame t fun o ho hd => by
          rw [hj] at ho
          cases ho
          exact h3 t hd ht
        have he : execOp a'.eval oi = execOp a.eval oi := execOp_congr oi (noSel hs hi) (exec_same (noSel hs hi) hlook)
        have hw' : Region.wanted oi (yielded ops a'.tmps) = true := by rw [wanted_same hlook]; exact hw
        obtain ⟨v, hy', _⟩ := yields hi (fun _ => by rw [he]; exact .inr hh) hk
        rcases hy' with ⟨_, hv⟩ | ⟨hn, _⟩
        · obtain ⟨x, w2, e⟩ := hh w
          have := hv w
          rw [he, e] at this
          cases this
        · rw [hw'] at hn; cases hn
    · exact ⟨undef, .inr ⟨by simpa using hw, rfl⟩⟩
  obtain ⟨v, hy⟩ := hy
  refine hy.wpOp hi ?_
  have keep : ∀ u, Yields P ops oi v (a.put oj.dst u) := fun u =>
    hy.of_same (execOp_put oi (noSel hs hi) a oj.dst u h3) (wanted_put oi a oj.dst u h3)
  have keepD : ∀ d, Yields P ops oi v { a with defers := d :: a.defers } := fun d => hy.of_same rfl rfl
  have step : ∀ {a' : Act} {w'}, Yields P ops oi v a' → wpOp P ops (RegQ P ops n Q) i K a' w' → K (a'.put oi.dst v) w' := by
    intro a' w' hy' hk
    obtain ⟨u, hu, hK⟩ := yields hi (fun hw => by
      rcases hy' with ⟨_, hv⟩ | ⟨hn, _⟩
      · exact .inl ⟨v, hv⟩
      · rw [hw] at hn; cases hn) hk
    have : u = v := by
      rcases hu with ⟨hw, hv⟩ | ⟨hn, rfl⟩ <;> rcases hy' with ⟨hw', hv'⟩ | ⟨hn', rfl⟩
      · have := (hv w).symm.trans (hv' w); simpa using this
      · rw [hw] at hn'; cases hn'
      · rw [hn] at hw'; cases hw'
      · rfl
    rw [← this]; exact hK
  unfold wpOp at h ⊢
  rw [hj] at h ⊢
  simp only at h ⊢
  rw [wanted_put oj a oi.dst v h1]
  split at h
  · rename_i hw
    rw [if_pos hw]
    rcases h with h | ⟨_, h⟩
    · refine .inl ?_
      unfold Oper.wp at h ⊢
      rw [execOp_put oj (noSel hs hj) a oi.dst v h1]
      generalize (execOp a.eval oj).run P w = r at h
      cases r with
      | ok n w' =>
        cases n <;> simp only [Oper.upon] at h ⊢
        case value u => rw [Act.put_comm a v u h2]; exact step (keep u) h
        case skip => rw [Act.put_comm a v undef h2]; exact step (keep _) h
        case defer d =>
          rw [Act.put_defers, Act.put_comm _ v undef h2]
          exact step ((keepD d).of_same (execOp_put oi (noSel hs hi) _ oj.dst undef h3) (wanted_put oi _ oj.dst undef h3)) h
        case enter f args =>
          refine Calls.mono h fun e w'' he => ?_
          cases e with
          | returned u => simp only at he ⊢; rw [Act.put_comm a v u h2]; exact step (keep u) he
          | panicked c => exact he.elim
          | outgrown => exact (no_out he).elim
        case row row args => exact Rows.mono h fun u w'' he => by rw [Act.put_comm a v u h2]; exact step (keep u) he
      | halt x w' => cases x <;> simp only [Oper.upon] at h; exact h.elim
    · exact (no_out h).elim
  · rename_i hw
    rw [if_neg hw, Act.put_comm a v undef h2]
    exact step (keep _) h
/-- The earlier one reckons: it may go last. -/
theorem swap_j {i j : Nat} {oi oj : Oper} (hi : ops[i]? = some oi) (hj : ops[j]? = some oj) (hs : Region.noSelect ops = true) (hap : oj.apart ops oi = true)
    {K : Act → World → Prop} {a : Act} {w : World} (hc : Region.wanted oj (yielded ops a.tmps) = true → CalmV P (execOp a.eval oj))
    (h : wpOp P ops (RegQ P ops n Q) j (wpOp P ops (RegQ P ops n Q) i K) a w) : wpOp P ops (RegQ P ops n Q) i (wpOp P ops (RegQ P ops n Q) j K) a w := by
  obtain ⟨v, hy, h2⟩ := yields hj hc h
  exact wpOp_mono (fun a' w' h3 => h3.1.wpOp hj h3.2) (wpOp_put hi hap (noSel hs hj) (noSel hs hi) no_panic hy h2)
/-- What an operation yields that leaves the world as it is. -/
def Det (P : Program) (ops : Array Oper) (o : Oper) (a : Act) (w : World) (v : Value) : Prop :=
  (Region.wanted o (yielded ops a.tmps) = true ∧ (execOp a.eval o).run P w = .ok (.value v) w) ∨ (Region.wanted o (yielded ops a.tmps) = false ∧ v = undef)
theorem Det.to {i : Nat} {o : Oper} {a : Act} {w : World} {v : Value} (hi : ops[i]? = some o) (hd : Det P ops o a w v) {K : Act → World → Prop} (h : K (a.put o.dst v) w) : wpOp P ops Q i K a w := by
  unfold wpOp
  rw [hi]
  simp only
  rcases hd with ⟨hw, hr⟩ | ⟨hw, rfl⟩
  · rw [if_pos hw]; left; unfold Oper.wp; rw [hr]; exact h
  · rw [if_neg (by simp [hw])]; exact h
theorem Det.of {i : Nat} {o : Oper} {a : Act} {w : World} (hi : ops[i]? = some o) (hl : isLoad o = true) {K : Act → World → Prop} (h : wpOp P ops (RegQ P ops n Q) i K a w) : ∃ v, Det P ops o a w v ∧ K (a.put o.dst v) w := by
  unfold wpOp at h
  rw [hi] at h
  simp only at h
  split at h
  · rename_i hw
    rcases h with h | ⟨_, h⟩
    · unfold Oper.wp at h
      cases hr : (execOp a.eval o).run P w with
      | ok n w' =>
        obtain ⟨rfl, v, rfl⟩ := still_of hl w n w' hr
        rw [hr] at h
        exact ⟨v, .inl ⟨hw, hr⟩, h⟩
      | halt x w' => rw [hr] at h; cases x <;> simp only [Oper.upon] at h; exact h.elim
    · exact (no_out h).elim
  · rename_i hw
    exact ⟨undef, .inr ⟨by simpa using hw, rfl⟩, h⟩
theorem Det.same {o : Oper} {a a' : Act} {w : World} {v : Value} (he : execOp a'.eval o = execOp a.eval o) (hw : Region.wanted o (yielded ops a'.tmps) = Region.wanted o (yielded ops a.tmps)) (h : Det P ops o a w v) : Det P ops o a' w v := by
  unfold Det at *; rw [he, hw]; exact h
/-- Two loads change places. -/
theorem swap_loads {i j : Nat} {oi oj : Oper} (hi : ops[i]? = some oi) (hj : ops[j]? = some oj) (hs : Region.noSelect ops = true) (hap : oi.apart ops oj = true) (hap' : oj.apart ops oi = true)
    (hli : isLoad oi = true) (hlj : isLoad oj = true) {K : Act → World → Prop} {a : Act} {w : World}
    (h : wpOp P ops (RegQ P ops n Q) j (wpOp P ops (RegQ P ops n Q) i K) a w) : wpOp P ops (RegQ P ops n Q) i (wpOp P ops (RegQ P ops n Q) j K) a w := by
  obtain ⟨h1, h2, h3⟩ := Oper.apart_spec hap
  obtain ⟨h1', h2', h3'⟩ := Oper.apart_spec hap'
  obtain ⟨u, hu, hk⟩ := Det.of hj hlj h
  obtain ⟨v, hv, hK⟩ := Det.of hi hli hk
  have hv' : Det P ops oi a w v := hv.same (execOp_put oi (noSel hs hi) a oj.dst u h3).symm (wanted_put oi a oj.dst u h3).symm
  have hu' : Det P ops oj (a.put oi.dst v) w u := hu.same (execOp_put oj (noSel hs hj) a oi.dst v h1) (wanted_put oj a oi.dst v h1)
  refine hv'.to hi (hu'.to hj ?_)
  rw [Act.put_comm a v u h2]; exact hK

/-! ### The theorem -/
/-- What is left, in the text's order. -/
def left (n : Nat) (listed : Array Bool) : List Nat := (List.range n).filter fun i => !listed.getD i true
/-- Is j ahead of i, by edges? -/
def ahead (md : Region.Mode) (ops : Array Oper) : Nat → Nat → Nat → Bool
  | 0, _, _ => false
  | k + 1, j, i => match ops[i]? with
    | some o => o.after.any fun e => Region.binds md e && (e.on == j || ahead md ops k j e.on)
    | none => false
def static (o : Oper) : Bool :=
  match o.op with
  | .nilCheck _ | .binOp .. | .convert .. | .call _ => false
  | _ => true
def stableAt (P : Program) (ops : Array Oper) (i k : Nat) : Bool :=
  match ops[i]?, ops[k]? with
  | some oi, some ok => !kind P oi || static oi || (match ok.dst with | some d => !(oi.looksAt ops).contains d | none => true)
  | _, _ => true
def pairOk (P : Program) (md : Region.Mode) (ops : Array Oper) (j i : Nat) : Bool :=
  match ops[j]?, ops[i]? with
  | some oj, some oi => ahead md ops ops.size j i || (oi.apart ops oj && oj.apart ops oi && (kind P oi || kind P oj || (isLoad oi && isLoad oj)))
  | _, _ => false
def textOk (P : Program) (md : Region.Mode) (ops : Array Oper) (n : Nat) : Bool :=
  Region.noSelect ops && (List.range ops.size).all fun i =>
    (match ops[i]? with | some o => o.after.all fun e => !Region.binds md e || decide (e.on < i) | none => true) &&
    (decide (i < n) || ((List.range i).all fun j => decide (j < n) || pairOk P md ops j i) &&
    ((List.range ops.size).all fun k => decide (k < i) || stableAt P ops i k))
structure Ok (P : Program) (md : Region.Mode) (ops : Array Oper) (n : Nat) : Prop where
  sel : Region.noSelect ops = true
  edge : ∀ i o, ops[i]? = some o → ∀ e ∈ o.after, Region.binds md e = true → e.on < i
  pair : ∀ i j oi oj, n ≤ j → j < i → ops[i]? = some oi → ops[j]? = some oj → ahead md ops ops.size j i = true ∨ (oi.apart ops oj = true ∧ oj.apart ops oi = true ∧ (kind P oi = true ∨ kind P oj = true ∨ (isLoad oi = true ∧ isLoad oj = true)))
  stable : ∀ (i k : Nat) (oi o' : Oper) (d : Tmp), n ≤ i → i ≤ k → ops[i]? = some oi → ops[k]? = some o' → kind P oi = true → static oi = false → o'.dst = some d → d ∉ oi.looksAt ops
theorem ok_of (h : textOk P md ops n = true) : Ok P md ops n := by
  unfold textOk at h
  simp only [Bool.and_eq_true, List.all_eq_true, List.mem_range] at h
  obtain ⟨h1, h2⟩ := h
  have lt : ∀ {i : Nat} {o : Oper}, ops[i]? = some o → i < ops.size := fun h => (Array.getElem?_eq_some_iff.1 h).1
  refine ⟨h1, fun i o hi e he hb => ?_, fun i j oi oj hnj hji hi hj => ?_, fun i k oi ok d hni hik hi hk hki hst hd hm => ?_⟩
  · have := (h2 i (lt hi)).1
    rw [hi] at this
    simp only [Array.all_eq_true_iff_forall_mem] at this
    have := this e he
    simpa [hb] using this
  · have := (h2 i (lt hi)).2
    simp only [Bool.or_eq_true, Bool.and_eq_true, decide_eq_true_eq, List.all_eq_true, List.mem_range] at this
    have := (this.resolve_left (by omega)).1 j hji
    have := this.resolve_left (by omega)
    unfold pairOk at this
    rw [hi, hj] at this
    simp only [Bool.or_eq_true, Bool.and_eq_true] at this
    rcases this with h | ⟨⟨h3, h4⟩, h5⟩
    · exact .inl h
    · exact .inr ⟨h3, h4, by rcases h5 with (h5 | h5) | h5 <;> simp [h5]⟩
  · have := (h2 i (lt hi)).2
    simp only [Bool.or_eq_true, Bool.and_eq_true, decide_eq_true_eq, List.all_eq_true, List.mem_range] at this
    have := (this.resolve_left (by omega)).2 k (lt hk)
    unfold stableAt at this
    rw [hi, hk] at this
    simp only [hki, hst, hd, Bool.or_eq_true, Bool.not_true, Bool.false_eq_true, or_false, false_or, Bool.not_eq_true', List.contains_eq_mem, decide_eq_false_iff_not] at this
    rcases this with h | h
    · omega
    · exact h hm
/-- The frame behind what is left agrees on the slots that it doesn't write, and all that reckon are fit to. -/
theorem end_of : ∀ (R : List Nat) (a : Act) (w : World), wpOps P ops (RegQ P ops n Q) R a w →
    ∃ a', calmAll P ops n a' = true ∧ ∀ t, (∀ k ∈ R, ∀ o, ops[k]? = some o → o.dst ≠ some t) → a'.tmps.getD t undef = a.tmps.getD t undef := by
  intro R
  induction R with
  | nil => intro a w h; exact ⟨a, h.1, fun _ _ => rfl⟩
  | cons k R ih =>
    intro a w h
    rw [wpOps_cons] at h
    obtain ⟨a1, w1, h1, hs1⟩ := wpOp_some h
    obtain ⟨a2, h2, hs2⟩ := ih a1 w1 h1
    refine ⟨a2, h2, fun t ht => ?_⟩
    rw [hs2 t fun k' hk' => ht k' (List.mem_cons_of_mem _ hk'), hs1 t (ht k List.mem_cons_self)]
theorem now_of {R : List Nat} {a : Act} {w : World} (h : wpOps P ops (RegQ P ops n Q) R a w) (hsel : Region.noSelect ops = true) {i : Nat} {oi : Oper} (hni : n ≤ i) (hi : ops[i]? = some oi) (hk : kind P oi = true)
    (hst : static oi = false → ∀ k ∈ R, ∀ o d, ops[k]? = some o → o.dst = some d → d ∉ oi.looksAt ops)
    (hw : Region.wanted oi (yielded ops a.tmps) = true) : CalmV P (execOp a.eval oi) := by
  refine calm_of hk ?_
  cases hs : static oi with
  | true =>
    unfold static at hs
    unfold now
    cases hop : oi.op <;> simp only [hop] at hs ⊢ <;> cases hs
  | false =>
    obtain ⟨a', hc, hsame⟩ := end_of R a w h
    have hlook : ∀ t ∈ oi.looksAt ops, a'.tmps.getD t undef = a.tmps.getD t undef := fun t ht => hsame t fun k hk' o ho hd => hst hs k hk' o t ho hd ht
    unfold calmAll at hc
    rw [List.all_eq_true] at hc
    have hm := hc oi (List.mem_of_getElem? (i := i - n) (by rw [List.getElem?_drop, Nat.add_sub_cancel' hni]; simpa using hi))
    rw [wanted_same hlook, hw, hk] at hm
    rw [← now_congr (exec_same (noSel hsel hi) hlook)]
    simpa using hm
/-- One that may come now is taken out of the middle. -/
theorem take_out (ok : Ok P md ops n) {i : Nat} {oi : Oper} (hi : ops[i]? = some oi) : ∀ (pre post : List Nat) (a : Act) (w : World),
    (∀ k ∈ pre ++ i :: post, n ≤ k) → (pre ++ i :: post).Pairwise (· < ·) → (∀ j ∈ pre, ∃ oj, ops[j]? = some oj ∧ oi.apart ops oj = true ∧ oj.apart ops oi = true ∧ (kind P oi = true ∨ kind P oj = true ∨ (isLoad oi = true ∧ isLoad oj = true))) →
    wpOps P ops (RegQ P ops n Q) (pre ++ i :: post) a w → wpOp P ops (RegQ P ops n Q) i (wpOps P ops (RegQ P ops n Q) (pre ++ post)) a w := by
  intro pre
  induction pre with
  | nil => intro post a w _ _ _ h; rw [List.nil_append, wpOps_cons] at h; exact h
  | cons j pre ih =>
    intro post a w hge hsort hpre h
    have hni : n ≤ i := hge i (by simp)
    have hnj : n ≤ j := hge j (by simp)
    obtain ⟨oj, hj, hap1, hap2, hkk⟩ := hpre j List.mem_cons_self
    have hsort' : (j :: (pre ++ i :: post)).Pairwise (· < ·) := hsort
    rw [List.pairwise_cons] at hsort'
    have h0 := h
    rw [List.cons_append, wpOps_cons] at h
    have h1 : wpOp P ops (RegQ P ops n Q) j (wpOp P ops (RegQ P ops n Q) i (wpOps P ops (RegQ P ops n Q) (pre ++ post))) a w :=
      wpOp_mono (fun a' w' h' => ih post a' w' (fun k hk => hge k (List.mem_cons_of_mem _ hk)) hsort'.2 (fun k hk => hpre k (List.mem_cons_of_mem _ hk)) h') h
    have h2 : wpOp P ops (RegQ P ops n Q) i (wpOp P ops (RegQ P ops n Q) j (wpOps P ops (RegQ P ops n Q) (pre ++ post))) a w := by
      rcases hkk with hk | hk | hk
      · refine swap_i hi hj ok.sel hap1 (fun hw => ?_) h1
        refine now_of h0 ok.sel hni hi hk (fun hst k hkm o d ho hd => ?_) hw
        rcases List.mem_append.1 hkm with hkp | hkp
        · obtain ⟨o', ho', _, hb, _⟩ := hpre k hkp
          rw [ho'] at ho; cases ho
          exact (Oper.apart_spec hb).1 d hd
        · have hle : i ≤ k := by
            rcases List.mem_cons.1 hkp with rfl | hkp
            · exact Nat.le_refl _
            · have hs3 := (List.pairwise_append.1 hsort).2.1
              rw [List.pairwise_cons] at hs3
              exact Nat.le_of_lt (hs3.1 k hkp)
          exact ok.stable i k oi o d hni hle hi ho hk hst hd
      · refine swap_j hi hj ok.sel hap2 (fun hw => ?_) h1
        refine now_of h0 ok.sel hnj hj hk (fun hst k hkm o d ho hd => ?_) hw
        have hle : j ≤ k := by
          rcases List.mem_cons.1 hkm with rfl | hkm
          · exact Nat.le_refl _
          · exact Nat.le_of_lt (hsort'.1 k hkm)
        exact ok.stable j k oj o d hnj hle hj ho hk hst hd
      · exact swap_loads hi hj ok.sel hap1 hap2 hk.1 hk.2 h1
    rw [List.cons_append, show wpOps P ops (RegQ P ops n Q) (j :: (pre ++ post)) = wpOp P ops (RegQ P ops n Q) j (wpOps P ops (RegQ P ops n Q) (pre ++ post)) from funext fun a => funext fun w => wpOps_cons _ _ _ _]
    exact h2
def Closed (md : Region.Mode) (ops : Array Oper) (listed : Array Bool) : Prop :=
  listed.size = ops.size ∧ ∀ j oj, ops[j]? = some oj → listed.getD j false = true → ∀ e ∈ oj.after, Region.binds md e = true → listed.getD e.on false = true
theorem ahead_listed {listed : Array Bool} (hc : Closed md ops listed) : ∀ (k j i : Nat) (oi : Oper), ops[i]? = some oi → (∀ e ∈ oi.after, Region.binds md e = true → listed.getD e.on false = true) →
    ahead md ops k j i = true → listed.getD j false = true := by
  intro k
  induction k with
  | zero => intro j i oi _ _ h; simp [ahead] at h
  | succ k ih =>
    intro j i oi hi hall h
    simp only [ahead, hi, Array.any_eq_true', Bool.and_eq_true, Bool.or_eq_true, beq_iff_eq] at h
    obtain ⟨e, he, hb, h | h⟩ := h
    · rw [← h]; exact hall e he hb
    · have hl := hall e he hb
      cases hoe : ops[e.on]? with
      | none =>
        have hlt : ¬ e.on < ops.size := fun hlt => by rw [Array.getElem?_eq_getElem hlt] at hoe; cases hoe
        have : listed.getD e.on false = false := by
          rw [Array.getD_eq_getD_getElem?, Array.getElem?_eq_none (by rw [hc.1]; omega)]; rfl
        rw [this] at hl; cases hl
      | some oe => exact ih j e.on oe hoe (hc.2 e.on oe hoe hl) h
theorem mem_left {n : Nat} {listed : Array Bool} {i : Nat} : i ∈ left n listed ↔ i < n ∧ listed.getD i true = false := by
  unfold left; rw [List.mem_filter, List.mem_range]; simp
theorem left_sorted (n : Nat) (listed : Array Bool) : (left n listed).Pairwise (· < ·) := List.Pairwise.filter _ List.pairwise_lt_range
theorem left_set {n : Nat} {listed : Array Bool} (hs : listed.size = n) {i : Nat} {pre post : List Nat} (h : left n listed = pre ++ i :: post) : left n (listed.setIfInBounds i true) = pre ++ post := by
  have hnd : (left n listed).Nodup := (left_sorted n listed).imp fun h => Nat.ne_of_lt h
  have hfil : left n (listed.setIfInBounds i true) = (left n listed).filter (· != i) := by
    unfold left
    rw [List.filter_filter]
    apply List.filter_congr
    intro k hk
    have hk' := List.mem_range.1 hk
    by_cases hki : i = k
    · subst hki
      have : (listed.setIfInBounds i true).getD i true = true := by
        rw [Array.getD_eq_getD_getElem?, Array.getElem?_setIfInBounds_self]
        split <;> rfl
      rw [this]; simp
    · rw [getD_set_ne true hki]
      have : (k != i) = true := by simp; omega
      rw [this]; simp
  rw [hfil, h, List.filter_append, List.filter_cons]
  rw [h] at hnd
  have hn := List.nodup_append.1 hnd
  have h1 : pre.filter (· != i) = pre := List.filter_eq_self.2 fun k hk => by
    have := hn.2.2 k hk i List.mem_cons_self
    simpa using this
  have h2 : post.filter (· != i) = post := List.filter_eq_self.2 fun k hk => by
    have := (List.nodup_cons.1 hn.2.1).1
    have hne : k ≠ i := fun e => this (e ▸ hk)
    simpa using hne
  rw [h1, h2]; simp
theorem getD_tf {listed : Array Bool} {i : Nat} (h : listed.getD i true = false) : listed.getD i false = false := by
  rcases Nat.lt_or_ge i listed.size with h' | h'
  · simp [h'] at h ⊢; exact h
  · simp [Array.getElem?_eq_none h'] at h
theorem text_any (ok : Ok P md ops n) : ∀ (fuel : Nat) (listed : Array Bool) (a : Act) (w : World), Closed md ops listed → (∀ k ∈ left ops.size listed, n ≤ k) → (left ops.size listed).length ≤ fuel →
    wpOps P ops (RegQ P ops n Q) (left ops.size listed) a w → wpAny P md ops Q fuel listed a w := by
  have hempty : ∀ (listed : Array Bool), Closed md ops listed → Region.ready md ops listed = [] → left ops.size listed = [] := by
    intro listed hc hr
    cases hl : left ops.size listed with
    | nil => rfl
    | cons i R =>
      exfalso
      have hi := mem_left.1 (hl ▸ List.mem_cons_self : i ∈ left ops.size listed)
      have hoi : ops[i]? = some ops[i] := Array.getElem?_eq_getElem hi.1
      have : i ∈ Region.ready md ops listed := mem_ready.2 ⟨hi.2, _, hoi, fun e he hb => by
        have hlt := ok.edge i _ hoi e he hb
        cases hge : listed.getD e.on false with
        | true => rfl
        | false =>
          exfalso
          have hm : e.on ∈ left ops.size listed := mem_left.2 ⟨by omega, by
            rw [Array.getD_eq_getD_getElem?, Array.getElem?_eq_getElem (by rw [hc.1]; omega)] at hge ⊢; exact hge⟩
          rw [hl] at hm
          rcases List.mem_cons.1 hm with h | h
          · omega
          · have hs := left_sorted ops.size listed
            rw [hl, List.pairwise_cons] at hs
            have := hs.1 _ h
            omega⟩
      rw [hr] at this; cases this
  intro fuel
  induction fuel with
  | zero =>
    intro listed a w hc hge hlen h
    have hnil : left ops.size listed = [] := List.eq_nil_of_length_eq_zero (by omega)
    rw [hnil] at h
    refine ⟨?_, h.2⟩
    cases hr : Region.ready md ops listed with
    | nil => rfl
    | cons i rs =>
      exfalso
      obtain ⟨h1, o, h2, _⟩ := mem_ready.1 (hr ▸ List.mem_cons_self : i ∈ Region.ready md ops listed)
      have : i ∈ left ops.size listed := mem_left.2 ⟨(Array.getElem?_eq_some_iff.1 h2).1, h1⟩
      rw [hnil] at this; cases this
  | succ fuel ih =>
    intro listed a w hc hge hlen h
    refine ⟨fun hr => ?_, fun i hir => ?_⟩
    · rw [hempty listed hc hr] at h; exact h.2
    · obtain ⟨hun, oi, hi, hall⟩ := mem_ready.1 hir
      have hm : i ∈ left ops.size listed := mem_left.2 ⟨(Array.getElem?_eq_some_iff.1 hi).1, hun⟩
      obtain ⟨pre, post, hsplit⟩ := List.append_of_mem hm
      have hsort := left_sorted ops.size listed
      have hge' := hge
      rw [hsplit] at hsort h hge'
      have hpre : ∀ j ∈ pre, ∃ oj, ops[j]? = some oj ∧ oi.apart ops oj = true ∧ oj.apart ops oi = true ∧ (kind P oi = true ∨ kind P oj = true ∨ (isLoad oi = true ∧ isLoad oj = true)) := by
        intro j hj
        have hjl := mem_left.1 (hsplit ▸ List.mem_append_left _ hj : j ∈ left ops.size listed)
        have hji : j < i := (List.pairwise_append.1 hsort).2.2 j hj i List.mem_cons_self
        have hoj : ops[j]? = some ops[j] := Array.getElem?_eq_getElem hjl.1
        refine ⟨_, hoj, ?_⟩
        rcases ok.pair i j oi _ (hge' j (List.mem_append_left _ hj)) hji hi hoj with ha | hq
        · have := ahead_listed hc _ _ _ _ hi hall ha
          rw [getD_tf hjl.2] at this; cases this
        · exact hq
      have h3 := take_out ok hi pre post a w hge' hsort hpre h
      refine wpOp_up (fun a' w' h' => ?_) h3
      have hset := left_set hc.1 hsplit
      refine ih (listed.setIfInBounds i true) a' w' ⟨by simp [hc.1], fun j oj hj hl e he hb => ?_⟩ ?_ ?_ ?_
      · by_cases hij : i = j
        · subst hij
          have : oj = oi := Option.some.inj (hj.symm.trans hi)
          subst this
          exact getD_set_true (hall e he hb)
        · rw [getD_set_ne false hij] at hl
          exact getD_set_true (hc.2 j oj hj hl e he hb)
      · rw [hset]
        intro k hk
        refine hge' k ?_
        rcases List.mem_append.1 hk with h | h
        · exact List.mem_append_left _ h
        · exact List.mem_append_right _ (List.mem_cons_of_mem _ h)
      · rw [hset]
        rw [hsplit] at hlen
        simp only [List.length_append, List.length_cons] at hlen ⊢
        omega
      · rw [hset]; exact h'
/-- A REGION THAT DRAWS ITS ORDER, WALKED IN THE TEXT's. -/
theorem wp_text {id : Nat} {l : List Oper} {a : Act} {w : World} (hm : P.follows .mixedOrders = true) (hok : textOk P .any l.toArray 0 = true)
    (h : wpList P l.toArray (RegQ P l.toArray 0 Q) l a w.drew) : (Code.region id l.toArray true).wp P Q a w := by
  refine wp_region_any hm ?_
  refine text_any (ok_of hok) l.toArray.size _ a _ ⟨by simp, fun j oj hj hl => ?_⟩ (fun _ _ => Nat.zero_le _) ?_ ?_
  · rw [Array.getD_eq_getD_getElem?, Array.getElem?_replicate] at hl
    split at hl <;> simp at hl
  · unfold left
    exact Nat.le_trans (List.length_filter_le _ _) (by simp)
  · have hleft : left l.toArray.size (Array.replicate l.toArray.size false) = List.range l.toArray.size := by
      unfold left
      refine List.filter_eq_self.2 fun i hi => ?_
      have := List.mem_range.1 hi
      rw [Array.getD_eq_getD_getElem?, Array.getElem?_replicate, if_pos this]; rfl
    rw [hleft, List.range_eq_range']
    have := wpOps_eq_wpList (P := P) (ops := l.toArray) (Q := RegQ P l.toArray 0 Q) l 0 (by simp)
    rw [show l.toArray.size = l.length from by simp, this]
    exact h
/-- Its end. -/
theorem fin {a : Act} {w : World} (hc : calmAll P ops n a = true) (h : Q .normal a w) : RegQ P ops n Q .normal a w := ⟨hc, h⟩
end
end Reg
end Go.Proofs.Ytfjadphgjjlhiaa
