
/- Plain law: bytes that are read are the program's own. No condition. -/
import Derived.Test.YtbpakckiglgjfaaCodeTa
namespace Go.Proofs.Ytbpakckiglgjfaa
open Go.RowKit Cd Wire
set_option linter.unusedVariables false
namespace Cd
theorem num_back {s : ByteArray} {e0 c : Int} (h : numE s e0 c = 0) : e0 = 0 ∧ c = 0 ∧ s = Num.lebS (numV s e0 c) ++ numS s e0 c := by
  unfold numE at h
  by_cases h0 : e0 = 0
  · rw [if_pos h0] at h
    by_cases h1 : (rdS s).2.2 = 0
    · rw [if_pos h1] at h
      refine ⟨h0, h, ?_⟩
      unfold numV numS
      rw [if_pos ⟨h0, h1, h⟩, if_pos ⟨h0, h1, h⟩]
      have hr : Num.rd s.data.toList = ((rdS s).1, (rdS s).2.1, 0) := by rw [← h1]; rfl
      obtain ⟨hn, hl, _, _⟩ := Num.rd_ok hr
      apply ByteArray.ext
      apply Array.toList_inj.1
      rw [ByteArray.data_append, Array.toList_append, tl_lst]
      show _ = Num.leb ((((rdS s).1 : Nat) : Int).toNat) ++ _
      rw [Int.toNat_natCast, hl, List.take_append_drop]
    · rw [if_neg h1] at h
      omega
  · rw [if_neg h0] at h
    exact absurd h h0
theorem u_back {most : Int} {r : RS} (h : (uS most r).e = 0) : r.e = 0 ∧ r.s = Num.lebS (uV most r) ++ (uS most r).s := by
  obtain ⟨h1, h2, h3⟩ := num_back (s := r.s) (e0 := r.e) (c := uC r.s most) h
  exact ⟨h1, h3⟩
theorem c_back {most : Int} {r : RS} (h : (cS most r).e = 0) : r.e = 0 ∧ r.s = Num.lebS (cV most r) ++ (cS most r).s := by
  obtain ⟨h1, h2, h3⟩ := num_back (s := r.s) (e0 := r.e) (c := cC r.s most) h
  exact ⟨h1, h3⟩
theorem iV_I64 (r : RS) : I64 (iV r) := by
  have h := numV_U64 r.s r.e (iC r.s (-9223372036854775808) 9223372036854775807)
  have := Num.zag_range _ h.1 h.2
  unfold iV I64
  omega
theorem i_back {r : RS} (h : (iS r).e = 0) : r.e = 0 ∧ r.s = intS (iV r) ++ (iS r).s := by
  obtain ⟨h1, h2, h3⟩ := num_back (s := r.s) (e0 := r.e) (c := iC r.s (-9223372036854775808) 9223372036854775807) h
  refine ⟨h1, ?_⟩
  have h0 := numV_U64 r.s r.e (iC r.s (-9223372036854775808) 9223372036854775807)
  unfold intS iV
  rw [Num.zig_zag _ h0.1]
  exact h3
/-! ### An op -/
theorem ptF_has (r : RS) : ptF r 3 = ⟨uV 255 r, if kd (uV 255 r) = true then uV 16 (ptS r 0) else 0, if ka (uV 255 r) = true then uV 16 (ptS r 1) else 0, if kb (uV 255 r) = true then uV 16 (ptS r 2) else 0, 0⟩ := by
  have i0 : hasE (uV 255 r) 0 = kd (uV 255 r) := rfl
  have i1 : hasE (uV 255 r) 1 = ka (uV 255 r) := rfl
  have i2 : hasE (uV 255 r) 2 = kb (uV 255 r) := rfl
  have f0 : ptF r 0 = ⟨uV 255 r, 0, 0, 0, 0⟩ := rfl
  have f1 : ptF r 1 = if hasE (uV 255 r) 0 = true then setE (ptF r 0) 0 (uV 16 (ptS r 0)) else ptF r 0 := rfl
  have f2 : ptF r 2 = if hasE (uV 255 r) 1 = true then setE (ptF r 1) 1 (uV 16 (ptS r 1)) else ptF r 1 := rfl
  have f3 : ptF r 3 = if hasE (uV 255 r) 2 = true then setE (ptF r 2) 2 (uV 16 (ptS r 2)) else ptF r 2 := rfl
  rw [f3, f2, f1, f0, i0, i1, i2]
  cases kd (uV 255 r) <;> cases ka (uV 255 r) <;> cases kb (uV 255 r) <;> rfl
theorem roV_has (r : RS) : roV r = ⟨uV 255 r, if kd (uV 255 r) = true then uV 16 (ptS r 0) else 0, if ka (uV 255 r) = true then uV 16 (ptS r 1) else 0, if kb (uV 255 r) = true then uV 16 (ptS r 2) else 0, if kn (uV 255 r) = true then iV (ptS r 3) else 0⟩ := by
  unfold roV
  rw [ptF_has]
  cases kn (uV 255 r) <;> rfl
theorem pt_back {r : RS} {j : Nat} (h : (ptS r (j + 1)).e = 0) : (ptS r j).e = 0 ∧ (ptS r j).s = (if hasE (uV 255 r) j = true then Num.lebS (uV 16 (ptS r j)) else ⟨#[]⟩) ++ (ptS r (j + 1)).s := by
  have e1 : ptS r (j + 1) = if hasE (uV 255 r) j = true then uS 16 (ptS r j) else ptS r j := rfl
  rw [e1] at h ⊢
  cases hh : hasE (uV 255 r) j with
  | true =>
    rw [hh, if_pos rfl] at h
    simp only [if_true]
    exact u_back h
  | false =>
    rw [hh, if_neg (by decide)] at h
    simp only [Bool.false_eq_true, if_false]
    rw [nil_app]
    exact ⟨h, rfl⟩
theorem u16 (r : RS) : 0 ≤ uV 16 r ∧ uV 16 r ≤ 16 := uV_range (by omega)
theorem read_back {r : RS} (h : roB r = true) : r.e = 0 ∧ (roS r).e = 0 ∧ r.s = opS (roV r) ++ (roS r).s ∧ formB (roV r) = true ∧ OkO (roV r) := by
  unfold roB at h
  simp only [Bool.and_eq_true, beq_iff_eq] at h
  obtain ⟨hk, he⟩ := h
  have hV := roV_has r
  have h3 : (ptS r 3).e = 0 ∧ (ptS r 3).s = lastS (roV r) ++ (roS r).s := by
    have e1 : lastS (roV r) = if kn (uV 255 r) = true then intS (iV (ptS r 3)) else ⟨#[]⟩ := by
      rw [hV]
      unfold lastS
      cases kn (uV 255 r) <;> rfl
    rw [e1]
    unfold roS at he ⊢
    cases hn : kn (uV 255 r) with
    | true =>
      rw [hn, if_pos rfl] at he
      simp only [if_true]
      exact i_back he
    | false =>
      rw [hn, if_neg (by decide)] at he
      simp only [Bool.false_eq_true, if_false]
      rw [nil_app]
      exact ⟨he, rfl⟩
  obtain ⟨g3, s3⟩ := h3
  obtain ⟨g2, s2⟩ := pt_back g3
  obtain ⟨g1, s1⟩ := pt_back g2
  obtain ⟨g0, s0⟩ := pt_back g1
  obtain ⟨g, s⟩ := u_back (most := 255) (r := r) g0
  have p0 : partS (roV r) 0 = if hasE (uV 255 r) 0 = true then Num.lebS (uV 16 (ptS r 0)) else ⟨#[]⟩ := by
    rw [hV]
    show (if kd (uV 255 r) = true then Num.lebS (if kd (uV 255 r) = true then uV 16 (ptS r 0) else 0) else _) = (if kd (uV 255 r) = true then _ else _)
    cases kd (uV 255 r) <;> rfl
  have p1 : partS (roV r) 1 = if hasE (uV 255 r) 1 = true then Num.lebS (uV 16 (ptS r 1)) else ⟨#[]⟩ := by
    rw [hV]
    show (if ka (uV 255 r) = true then Num.lebS (if ka (uV 255 r) = true then uV 16 (ptS r 1) else 0) else _) = (if ka (uV 255 r) = true then _ else _)
    cases ka (uV 255 r) <;> rfl
  have p2 : partS (roV r) 2 = if hasE (uV 255 r) 2 = true then Num.lebS (uV 16 (ptS r 2)) else ⟨#[]⟩ := by
    rw [hV]
    show (if kb (uV 255 r) = true then Num.lebS (if kb (uV 255 r) = true then uV 16 (ptS r 2) else 0) else _) = (if kb (uV 255 r) = true then _ else _)
    cases kb (uV 255 r) <;> rfl
  have hkk : (roV r).k = uV 255 r := by rw [hV]
  refine ⟨g, he, ?_, ?_, ?_⟩
  · rw [opS_parts, hkk, p0, p1, p2, ← s3, ← s2, ← s1, ← s0]
    exact s
  · have a0 := u16 (ptS r 0)
    have a1 := u16 (ptS r 1)
    have a2 := u16 (ptS r 2)
    have rg : ∀ {b : Bool} {x : Int}, 0 ≤ x ∧ x ≤ 16 → regB (if b = true then x else 0) = true := by
      intro b x hx
      unfold regB
      cases b <;> simp <;> omega
    rw [hV]
    unfold formB
    simp only
    rw [hk, rg a0, rg a1, rg a2]
    cases kd (uV 255 r) <;> cases ka (uV 255 r) <;> cases kb (uV 255 r) <;> cases kn (uV 255 r) <;> rfl
  · have a := uV_range (most := 255) (r := r) (by omega)
    have a0 := u16 (ptS r 0)
    have a1 := u16 (ptS r 1)
    have a2 := u16 (ptS r 2)
    have ai := iV_I64 (ptS r 3)
    have rg : ∀ {b : Bool} {x : Int}, I64 x → I64 (if b = true then x else 0) := by
      intro b x hx
      cases b
      · exact ⟨by show -9223372036854775808 ≤ (0 : Int); decide, by show (0 : Int) ≤ 9223372036854775807; decide⟩
      · exact hx
    rw [hV]
    exact ⟨⟨a.1, a.2⟩, rg (by unfold I64; omega), rg (by unfold I64; omega), rg (by unfold I64; omega), rg ai⟩
theorem opsL_back : ∀ (n : Nat) (l l' : List OpV) (r r' : RS), opsL n l r = some (l', r') → r'.e = 0 →
    ∃ m, l' = l ++ m ∧ m.length = n ∧ r.e = 0 ∧ r.s = opsS ⟨#[]⟩ m ++ r'.s ∧ (∀ o ∈ m, formB o = true) ∧ ∀ o ∈ m, OkO o := by
  intro n
  induction n with
  | zero =>
    intro l l' r r' h he
    have h' : some (l, r) = some (l', r') := h
    injection h' with h'
    injection h' with e1 e2
    subst e1; subst e2
    exact ⟨[], by simp, rfl, he, by show _ = (⟨#[]⟩ : ByteArray) ++ _; rw [nil_app], by simp, by simp⟩
  | succ n ih =>
    intro l l' r r' h he
    have h' : (if roB r = true then opsL n (l ++ [roV r]) (roS r) else none) = some (l', r') := h
    cases hb : roB r with
    | false => rw [hb] at h'; simp at h'
    | true =>
      rw [hb, if_pos rfl] at h'
      obtain ⟨m, e1, e2, e3, e4, e5, e6⟩ := ih _ _ _ _ h' he
      obtain ⟨b1, b2, b3, b4, b5⟩ := read_back hb
      refine ⟨roV r :: m, by rw [e1]; simp, by simp [e2], b1, ?_, ?_, ?_⟩
      · rw [opsS_cons, b3, e4, ByteArray.append_assoc]
      · intro o ho
        rcases List.mem_cons.1 ho with rfl | ho
        · exact b4
        · exact e5 o ho
      · intro o ho
        rcases List.mem_cons.1 ho with rfl | ho
        · exact b5
        · exact e6 o ho
theorem fun1_back {r r4 : RS} {f : FunV} (h : fun1 r = some (f, r4)) (he : r4.e = 0) : r.e = 0 ∧ r.s = oneS f ++ r4.s ∧ funB f = true ∧ OkF f := by
  unfold fun1 at h
  cases ho : opsL (cV 64 (uS 16 (uS 16 r))).toNat [] (cS 64 (uS 16 (uS 16 r))) with
  | none => rw [ho] at h; cases h
  | some x =>
    obtain ⟨ops, q⟩ := x
    rw [ho] at h
    have h' : some ((⟨uV 16 r, uV 16 (uS 16 r), ops⟩ : FunV), q) = some (f, r4) := h
    injection h' with h'
    injection h' with e1 e2
    subst e1; subst e2
    obtain ⟨m, m1, m2, m3, m4, m5, m6⟩ := opsL_back _ _ _ _ _ ho he
    obtain ⟨c1, c2⟩ := c_back m3
    obtain ⟨b1, b2⟩ := u_back c1
    obtain ⟨a1, a2⟩ := u_back b1
    have hc := cV_range (most := 64) (r := uS 16 (uS 16 r)) (by omega)
    have ha := u16 r
    have hb := u16 (uS 16 r)
    rw [List.nil_append] at m1
    subst m1
    refine ⟨a1, ?_, ?_, ?_⟩
    · rw [a2, b2, c2, m4]
      unfold oneS headS
      simp only
      rw [show ((ops.length : Nat) : Int) = cV 64 (uS 16 (uS 16 r)) from by omega]
      simp only [ByteArray.append_assoc]
    · unfold funB regB
      simp only [Bool.and_eq_true, decide_eq_true_eq, List.all_eq_true]
      exact ⟨⟨⟨ha, hb⟩, by omega⟩, m5⟩
    · exact ⟨by unfold I64; simp only; omega, by unfold I64; simp only; omega, m6⟩
theorem funL_back : ∀ (n : Nat) (l l' : List FunV) (r r' : RS), funL n l r = some (l', r') → r'.e = 0 →
    ∃ m, l' = l ++ m ∧ m.length = n ∧ r.e = 0 ∧ r.s = m.foldl funS ⟨#[]⟩ ++ r'.s ∧ (∀ f ∈ m, funB f = true) ∧ OkP m := by
  intro n
  induction n with
  | zero =>
    intro l l' r r' h he
    have h' : some (l, r) = some (l', r') := h
    injection h' with h'
    injection h' with e1 e2
    subst e1; subst e2
    exact ⟨[], by simp, rfl, he, by show _ = (⟨#[]⟩ : ByteArray) ++ _; rw [nil_app], by simp, fun f hf => by simp at hf⟩
  | succ n ih =>
    intro l l' r r' h he
    have h' : (match fun1 r with | none => none | some (f, r4) => funL n (l ++ [f]) r4) = some (l', r') := h
    cases hb : fun1 r with
    | none => rw [hb] at h'; cases h'
    | some x =>
      obtain ⟨f, r4⟩ := x
      rw [hb] at h'
      obtain ⟨m, e1, e2, e3, e4, e5, e6⟩ := ih _ _ _ _ h' he
      obtain ⟨b1, b2, b3, b4⟩ := fun1_back hb e3
      refine ⟨f :: m, by rw [e1]; simp, by simp [e2], b1, ?_, ?_, ?_⟩
      · rw [funs_cons, b2, e4, ByteArray.append_assoc]
      · intro o ho
        rcases List.mem_cons.1 ho with rfl | ho
        · exact b3
        · exact e5 o ho
      · intro o ho
        rcases List.mem_cons.1 ho with rfl | ho
        · exact b4
        · exact e6 o ho
/-- Bytes that are read are the program's own. -/
theorem dec_back {s : ByteArray} (h : (dec s).2 = 0) : mayB (dec s).1 = true ∧ OkP (dec s).1 ∧ encC (dec s).1 = 0 ∧ encV (dec s).1 = s := by
  have key : ∃ m, dec s = (m, 0) ∧ mayB m = true ∧ OkP m ∧ progS m = s ∧ s.size ≤ 16384 := by
    generalize hd : dec s = d at h
    unfold dec at hd
    by_cases h1 : 16384 < s.size
    · rw [if_pos h1] at hd; subst hd; simp at h
    · rw [if_neg h1] at hd
      by_cases h2 : (uS 18446744073709551615 ⟨s, 0⟩).e ≠ 0
      · rw [if_pos h2] at hd; subst hd; simp at h
      · rw [if_neg h2] at hd
        by_cases h3 : uV 18446744073709551615 ⟨s, 0⟩ ≠ 1
        · rw [if_pos h3] at hd; subst hd; simp at h
        · rw [if_neg h3] at hd
          have h2' : (uS 18446744073709551615 ⟨s, 0⟩).e = 0 := Decidable.not_not.1 h2
          have h3' : uV 18446744073709551615 ⟨s, 0⟩ = 1 := Decidable.not_not.1 h3
          obtain ⟨_, a2⟩ := u_back h2'
          rw [h3'] at a2
          generalize uS 18446744073709551615 ⟨s, 0⟩ = r0 at *
          have hc := cV_range (most := 16) (r := r0) (by omega)
          cases hf : funL (cV 16 r0).toNat [] (cS 16 r0) with
          | none => rw [hf] at hd; subst hd; simp at h
          | some x =>
            obtain ⟨fs, r⟩ := x
            rw [hf] at hd
            have hd' : (if endE r.s r.e ≠ 0 then (([] : List FunV), (8 : Int)) else (fs, 0)) = d := hd
            by_cases h4 : endE r.s r.e ≠ 0
            · rw [if_pos h4] at hd'; subst hd'; simp at h
            · rw [if_neg h4] at hd'
              subst hd'
              have h4' : endE r.s r.e = 0 := Decidable.not_not.1 h4
              have h5 : r.e = 0 ∧ r.s.size = 0 := by
                unfold endE at h4'
                by_cases h6 : r.e = 0 ∧ r.s.size ≠ 0
                · rw [if_pos h6] at h4'; omega
                · rw [if_neg h6] at h4'; exact ⟨h4', by rcases Nat.eq_zero_or_pos r.s.size with h | h; exact h; exact absurd ⟨h4', by omega⟩ h6⟩
              obtain ⟨m, m1, m2, m3, m4, m5, m6⟩ := funL_back _ _ _ _ _ hf h5.1
              obtain ⟨c1, c2⟩ := c_back m3
              rw [List.nil_append] at m1
              subst m1
              have hs : r.s = ⟨#[]⟩ := by
                apply ByteArray.ext
                apply Array.eq_empty_of_size_eq_zero
                exact h5.2
              refine ⟨fs, rfl, ?_, m6, ?_, by omega⟩
              · unfold mayB
                simp only [Bool.and_eq_true, decide_eq_true_eq, List.all_eq_true]
                exact ⟨by omega, m5⟩
              · have a2' : s = Num.lebS 1 ++ r0.s := a2
                rw [a2', c2, m4, hs, app_nil']
                unfold progS startS
                rw [funs_app, show ((fs.length : Nat) : Int) = cV 16 r0 from by omega, ByteArray.append_assoc]
  obtain ⟨m, e, h1, h2, h3, h4⟩ := key
  rw [e]
  refine ⟨h1, h2, ?_, ?_⟩
  · unfold encC
    rw [h1, if_pos rfl, h3, if_neg (by omega)]
  · unfold encV
    rw [h1, if_pos rfl, h3, if_neg (by omega)]
end Cd
end Go.Proofs.Ytbpakckiglgjfaa
