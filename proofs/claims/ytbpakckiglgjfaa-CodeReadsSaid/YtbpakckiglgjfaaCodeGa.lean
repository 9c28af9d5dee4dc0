
/- Plain law: the document's reader of programs and the program's agree. No condition. -/
import Derived.Test.YtbpakckiglgjfaaCodeDa
import Derived.Test.YtbpakckiglgjfaaCodeZ
namespace Go.Proofs.Ytbpakckiglgjfaa
open Go.RowKit Cd Wire
set_option linter.unusedVariables false
namespace Cd
def rops : Nat → List OpV → RS → List OpV × RS
  | 0, l, r => (l, r)
  | n + 1, l, r => if r.e = 0 then rops n (l ++ [qoV r]) (qoS r) else (l, r)
def rfun1 (r : RS) : FunV × RS := (⟨uV 16 r, uV 16 (uS 16 r), (rops (cV 64 (uS 16 (uS 16 r))).toNat [] (cS 64 (uS 16 (uS 16 r)))).1⟩, (rops (cV 64 (uS 16 (uS 16 r))).toNat [] (cS 64 (uS 16 (uS 16 r)))).2)
def rfunL : Nat → List FunV → RS → List FunV × RS
  | 0, l, r => (l, r)
  | n + 1, l, r => if r.e = 0 then rfunL n (l ++ [(rfun1 r).1]) (rfun1 r).2 else (l, r)
def rdec (s : ByteArray) : List FunV × Int :=
  if 16384 < s.size then ([], 4) else
  if (uS 18446744073709551615 ⟨s, 0⟩).e ≠ 0 then ([], 8) else
  if uV 18446744073709551615 ⟨s, 0⟩ ≠ 1 then ([], 100) else
  if endE (rfunL (cV 16 (uS 18446744073709551615 ⟨s, 0⟩)).toNat [] (cS 16 (uS 18446744073709551615 ⟨s, 0⟩))).2.s (rfunL (cV 16 (uS 18446744073709551615 ⟨s, 0⟩)).toNat [] (cS 16 (uS 18446744073709551615 ⟨s, 0⟩))).2.e ≠ 0 then ([], 8) else
  ((rfunL (cV 16 (uS 18446744073709551615 ⟨s, 0⟩)).toNat [] (cS 16 (uS 18446744073709551615 ⟨s, 0⟩))).1, 0)
theorem num_err {s : ByteArray} {e : Int} (h : e ≠ 0) (c : Int) : numV s e c = 0 ∧ numS s e c = s ∧ numE s e c = e := by
  unfold numV numS numE
  rw [if_neg (fun hh => h hh.1), if_neg (fun hh => h hh.1), if_neg h]
  exact ⟨rfl, rfl, rfl⟩
theorem u_err {r : RS} (h : r.e ≠ 0) (most : Int) : uV most r = 0 ∧ uS most r = r := by
  obtain ⟨h1, h2, h3⟩ := num_err (s := r.s) h (uC r.s most)
  refine ⟨h1, ?_⟩
  unfold uS
  rw [h2, h3]
theorem c_err {r : RS} (h : r.e ≠ 0) (most : Int) : cV most r = 0 ∧ cS most r = r := by
  obtain ⟨h1, h2, h3⟩ := num_err (s := r.s) h (cC r.s most)
  refine ⟨h1, ?_⟩
  unfold cS
  rw [h2, h3]
theorem i_err {r : RS} (h : r.e ≠ 0) : iS r = r := by
  obtain ⟨h1, h2, h3⟩ := num_err (s := r.s) h (iC r.s (-9223372036854775808) 9223372036854775807)
  unfold iS
  rw [h2, h3]
/-- Where nothing stands against it, what is asked for at most is no matter. -/
theorem u_same {r : RS} (he : r.e = 0) {m n : Int} (hm : uV m r ≤ n) (hn : n ≤ m) (h : (uS m r).e = 0) : uV n r = uV m r ∧ uS n r = uS m r := by
  have h1 : numE r.s r.e (uC r.s m) = 0 := h
  unfold numE at h1
  rw [if_pos he] at h1
  by_cases h2 : (rdS r.s).2.2 = 0
  · rw [if_pos h2] at h1
    have hv : uV m r = xI r.s := by unfold uV numV; rw [if_pos ⟨he, h2, h1⟩]; rfl
    have h3 : uC r.s n = 0 := by unfold uC; rw [if_neg (by omega)]
    unfold uV uS
    rw [h1, h3]
    exact ⟨rfl, rfl⟩
  · rw [if_neg h2] at h1
    exact absurd h1 (by omega)
/-- .. and where something does, there is nothing. -/
theorem u_more {r : RS} (he : r.e = 0) {m n : Int} (hn : n ≤ m) (h : (uS m r).e ≠ 0) : uV n r = 0 ∧ (uS n r).e ≠ 0 := by
  have h1 : numE r.s r.e (uC r.s m) ≠ 0 := h
  unfold numE at h1
  rw [if_pos he] at h1
  by_cases h2 : (rdS r.s).2.2 = 0
  · rw [if_pos h2] at h1
    have h3 : m < xI r.s := by
      unfold uC at h1
      by_cases h4 : m < xI r.s
      · exact h4
      · rw [if_neg h4] at h1; exact absurd rfl h1
    have h5 : uC r.s n = 9 := by unfold uC; rw [if_pos (by omega)]
    obtain ⟨a, b, c⟩ := numc (s := r.s) h2 (c := uC r.s n) (by rw [h5]; decide)
    unfold uV uS
    simp only
    rw [he, a, c, h5]
    exact ⟨rfl, by decide⟩
  · obtain ⟨a, b, c, d⟩ := num0_bad (s := r.s) (e := r.e) (fun hh => h2 hh.2) (uC r.s n)
    unfold uV uS
    simp only
    rw [a, c]
    exact ⟨rfl, d⟩
/-- A number that is too great. -/
theorem u_great {r : RS} (he : r.e = 0) {m n : Int} (hm : n < uV m r) (h0 : 0 ≤ n) : uV n r = 0 ∧ (uS n r).e ≠ 0 := by
  have h2 : (rdS r.s).2.2 = 0 ∧ uC r.s m = 0 := by
    by_cases h2 : r.e = 0 ∧ (rdS r.s).2.2 = 0 ∧ uC r.s m = 0
    · exact h2.2
    · exfalso
      unfold uV numV at hm
      rw [if_neg h2] at hm
      omega
  have hv : uV m r = xI r.s := by unfold uV numV; rw [if_pos ⟨he, h2.1, h2.2⟩]; rfl
  have h5 : uC r.s n = 9 := by unfold uC; rw [if_pos (by omega)]
  obtain ⟨a, b, c⟩ := numc (s := r.s) h2.1 (c := uC r.s n) (by rw [h5]; decide)
  unfold uV uS
  simp only
  rw [he, a, c, h5]
  exact ⟨rfl, by decide⟩
theorem q_err {r : RS} (h : (q0 r).e ≠ 0) : (qoS r).e ≠ 0 := by
  have key : ∀ j, (qS r j).e ≠ 0 := by
    intro j
    induction j with
    | zero => exact h
    | succ j ih =>
      show (if hasE (uV 14 r) j = true then uS 16 (qS r j) else qS r j).e ≠ 0
      split
      · rw [(u_err ih 16).2]; exact ih
      · exact ih
  unfold qoS
  split
  · rw [i_err (key 3)]; exact key 3
  · exact key 3
theorem known_range {k : Int} (h : known k = true) : 1 ≤ k ∧ k ≤ 14 := by
  unfold known at h
  simp only [Bool.and_eq_true, decide_eq_true_eq] at h
  exact h
theorem unknown_range {k : Int} (h : known k = false) : k < 1 ∨ 14 < k := by
  rcases Int.lt_or_le k 1 with h1 | h1
  · exact .inl h1
  · rcases Int.lt_or_le 14 k with h2 | h2
    · exact .inr h2
    · unfold known at h
      rw [decide_eq_true h1, decide_eq_true h2] at h
      cases h
theorem q_same {r : RS} (hv : uV 14 r = uV 255 r) (hs : uS 14 r = uS 255 r) (h0 : uV 255 r ≠ 0) : qoV r = roV r ∧ qoS r = roS r := by
  have hq : q0 r = uS 255 r := by unfold q0; rw [hv, if_neg h0, hs]
  have key : ∀ j, qS r j = ptS r j ∧ qF r j = ptF r j := by
    intro j
    induction j with
    | zero => exact ⟨hq, by show OpV.mk (uV 14 r) 0 0 0 0 = OpV.mk (uV 255 r) 0 0 0 0; rw [hv]⟩
    | succ j ih =>
      refine ⟨?_, ?_⟩
      · show (if hasE (uV 14 r) j = true then uS 16 (qS r j) else qS r j) = (if hasE (uV 255 r) j = true then uS 16 (ptS r j) else ptS r j)
        rw [hv, ih.1]
      · show (if hasE (uV 14 r) j = true then setE (qF r j) j (uV 16 (qS r j)) else qF r j) = (if hasE (uV 255 r) j = true then setE (ptF r j) j (uV 16 (ptS r j)) else ptF r j)
        rw [hv, ih.1, ih.2]
  unfold qoV qoS roV roS
  rw [hv, (key 3).1, (key 3).2]
  exact ⟨rfl, rfl⟩
theorem op_agree {r : RS} (he : r.e = 0) : (roB r = true → qoV r = roV r ∧ qoS r = roS r ∧ (roS r).e = 0) ∧ (roB r = false → (qoS r).e ≠ 0) := by
  by_cases h1 : (uS 255 r).e = 0
  · by_cases h2 : 14 < uV 255 r
    · obtain ⟨a, b⟩ := u_great he h2 (by decide)
      refine ⟨fun h => ?_, fun _ => q_err ?_⟩
      · unfold roB at h
        rw [Bool.and_eq_true] at h
        have := known_range h.1
        omega
      · unfold q0
        rw [if_pos a]
        show (8 : Int) ≠ 0
        decide
    · obtain ⟨a, b⟩ := u_same he (m := 255) (n := 14) (by omega) (by decide) h1
      by_cases h3 : uV 255 r = 0
      · refine ⟨fun h => ?_, fun _ => q_err ?_⟩
        · unfold roB at h
          rw [Bool.and_eq_true] at h
          have := known_range h.1
          omega
        · unfold q0
          rw [if_pos (by rw [a, h3])]
          show (8 : Int) ≠ 0
          decide
      · obtain ⟨c, d⟩ := q_same a b h3
        have hr := uV_range (most := 255) (r := r) (by decide)
        have hk : known (uV 255 r) = true := by
          cases hk : known (uV 255 r) with
          | true => rfl
          | false => rcases unknown_range hk with h | h <;> omega
        refine ⟨fun h => ?_, fun h => ?_⟩
        · unfold roB at h
          simp only [Bool.and_eq_true, beq_iff_eq] at h
          exact ⟨c, d, h.2⟩
        · unfold roB at h
          rw [hk, Bool.true_and] at h
          rw [d]
          intro e
          rw [e] at h
          cases h
  · obtain ⟨a, b⟩ := u_more he (m := 255) (n := 14) (by decide) h1
    obtain ⟨c, _⟩ := u_more he (m := 255) (n := 255) (by decide) h1
    refine ⟨fun h => ?_, fun _ => q_err ?_⟩
    · unfold roB at h
      rw [Bool.and_eq_true] at h
      have := known_range h.1
      omega
    · unfold q0
      rw [if_pos a]
      show (8 : Int) ≠ 0
      decide
theorem rops_err : ∀ (n : Nat) (l : List OpV) (r : RS), r.e ≠ 0 → rops n l r = (l, r) := by
  intro n l r h
  cases n with
  | zero => rfl
  | succ n => show (if r.e = 0 then _ else (l, r)) = _; rw [if_neg h]
theorem ops_agree : ∀ (n : Nat) (l : List OpV) (r : RS), (0 < n → r.e = 0) → (∀ x, opsL n l r = some x → rops n l r = x) ∧ (opsL n l r = none → (rops n l r).2.e ≠ 0) := by
  intro n
  induction n with
  | zero =>
    intro l r _
    refine ⟨fun x h => ?_, fun h => ?_⟩
    · have h' : some (l, r) = some x := h
      injection h'
    · have h' : some (l, r) = none := h
      cases h'
  | succ n ih =>
    intro l r h0
    have he := h0 (Nat.succ_pos n)
    obtain ⟨a, b⟩ := op_agree he
    have e1 : opsL (n + 1) l r = if roB r = true then opsL n (l ++ [roV r]) (roS r) else none := rfl
    have e2 : rops (n + 1) l r = if r.e = 0 then rops n (l ++ [qoV r]) (qoS r) else (l, r) := rfl
    rw [e1, e2, if_pos he]
    cases hb : roB r with
    | true =>
      obtain ⟨c, d, e⟩ := a hb
      rw [if_pos rfl, c, d]
      exact ih _ _ (fun _ => e)
    | false =>
      rw [if_neg (by decide)]
      refine ⟨fun x h => (by cases h), fun _ => ?_⟩
      rw [rops_err _ _ _ (b hb)]
      exact b hb
theorem c_pos {most : Int} {r : RS} (h : 0 < (cV most r).toNat) : (cS most r).e = 0 := by
  by_cases h2 : r.e = 0 ∧ (rdS r.s).2.2 = 0 ∧ cC r.s most = 0
  · show numE r.s r.e (cC r.s most) = 0
    unfold numE
    rw [if_pos h2.1, if_pos h2.2.1, h2.2.2]
  · exfalso
    unfold cV numV at h
    rw [if_neg h2] at h
    cases h
theorem fun_agree (r : RS) : (∀ x, fun1 r = some x → rfun1 r = x) ∧ (fun1 r = none → (rfun1 r).2.e ≠ 0) := by
  obtain ⟨a, b⟩ := ops_agree (cV 64 (uS 16 (uS 16 r))).toNat [] (cS 64 (uS 16 (uS 16 r))) c_pos
  unfold fun1 rfun1
  cases h : opsL (cV 64 (uS 16 (uS 16 r))).toNat [] (cS 64 (uS 16 (uS 16 r))) with
  | none => exact ⟨fun x hx => (by cases hx), fun _ => b h⟩
  | some y =>
    obtain ⟨ops, r4⟩ := y
    rw [a _ h]
    refine ⟨fun x hx => ?_, fun hx => by cases hx⟩
    injection hx
theorem fun1_err {r : RS} (h : r.e ≠ 0) : fun1 r = some (⟨0, 0, []⟩, r) := by
  unfold fun1
  rw [(u_err h 16).2, (u_err h 16).2, (c_err h 64).1, (c_err h 64).2, (u_err h 16).1]
  rfl
theorem funL_err : ∀ (n : Nat) (l : List FunV) (r : RS), r.e ≠ 0 → ∃ l', funL n l r = some (l', r) := by
  intro n
  induction n with
  | zero => intro l r _; exact ⟨l, rfl⟩
  | succ n ih =>
    intro l r h
    have e : funL (n + 1) l r = match fun1 r with | none => none | some (f, r4) => funL n (l ++ [f]) r4 := rfl
    rw [e, fun1_err h]
    exact ih _ _ h
theorem rfunL_err : ∀ (n : Nat) (l : List FunV) (r : RS), r.e ≠ 0 → rfunL n l r = (l, r) := by
  intro n l r h
  cases n with
  | zero => rfl
  | succ n => show (if r.e = 0 then _ else (l, r)) = _; rw [if_neg h]
theorem funL_agree : ∀ (n : Nat) (l : List FunV) (r : RS), (0 < n → r.e = 0) →
    (∀ l' r', funL n l r = some (l', r') → (r'.e = 0 → rfunL n l r = (l', r')) ∧ (r'.e ≠ 0 → (rfunL n l r).2.e ≠ 0)) ∧ (funL n l r = none → (rfunL n l r).2.e ≠ 0) := by
  intro n
  induction n with
  | zero =>
    intro l r _
    refine ⟨fun l' r' h => ?_, fun h => ?_⟩
    · have h' : some (l, r) = some (l', r') := h
      injection h' with h'
      injection h' with e1 e2
      subst e1; subst e2
      exact ⟨fun _ => rfl, fun h => h⟩
    · have h' : some (l, r) = none := h
      cases h'
  | succ n ih =>
    intro l r h0
    have he := h0 (Nat.succ_pos n)
    obtain ⟨a, b⟩ := fun_agree r
    have e1 : funL (n + 1) l r = match fun1 r with | none => none | some (f, r4) => funL n (l ++ [f]) r4 := rfl
    have e2 : rfunL (n + 1) l r = if r.e = 0 then rfunL n (l ++ [(rfun1 r).1]) (rfun1 r).2 else (l, r) := rfl
    rw [e2, if_pos he, e1]
    cases hf : fun1 r with
    | none =>
      have hb := b hf
      rw [rfunL_err _ _ _ hb]
      exact ⟨fun l' r' h => (by cases h), fun _ => hb⟩
    | some y =>
      obtain ⟨f, r4⟩ := y
      rw [a _ hf]
      by_cases h4 : r4.e = 0
      · exact ih _ _ (fun _ => h4)
      · obtain ⟨l2, hl2⟩ := funL_err n (l ++ [f]) r4 h4
        rw [rfunL_err _ _ _ h4]
        refine ⟨fun l' r' h => ?_, fun _ => h4⟩
        have h' : funL n (l ++ [f]) r4 = some (l', r') := h
        rw [hl2] at h'
        injection h' with h'
        injection h' with e1 e2
        subst e2
        exact ⟨fun h => absurd h h4, fun _ => h4⟩
theorem endE_err {s : ByteArray} {e : Int} (h : e ≠ 0) : endE s e ≠ 0 := by
  unfold endE
  rw [if_neg (fun hh => h hh.1)]
  exact h
theorem rdec_eq (s : ByteArray) : rdec s = dec s := by
  unfold rdec dec
  split
  · rfl
  · split
    · rfl
    · split
      · rfl
      · generalize uS 18446744073709551615 ⟨s, 0⟩ = r0
        obtain ⟨a, b⟩ := funL_agree (cV 16 r0).toNat [] (cS 16 r0) c_pos
        cases h : funL (cV 16 r0).toNat [] (cS 16 r0) with
        | none =>
          rw [if_pos (endE_err (b h))]
        | some y =>
          obtain ⟨fs, r⟩ := y
          obtain ⟨c, d⟩ := a _ _ h
          by_cases he : r.e = 0
          · rw [c he]
          · rw [if_pos (endE_err (d he))]
            show ([], 8) = (if endE r.s r.e ≠ 0 then (([] : List FunV), (8 : Int)) else (fs, 0))
            rw [if_pos (endE_err he)]
end Cd
end Go.Proofs.Ytbpakckiglgjfaa
