import Derived.Test.YtpidhcogaoehhaaCodeSa

/- Plain law: a program's bytes are read as the program. No condition. -/
namespace Go.Proofs.Ytpidhcogaoehhaa
open Go.RowKit Cd Wire
set_option linter.unusedVariables false
namespace Cd
theorem opsS_app (l : List OpV) : ∀ s : ByteArray, opsS s l = s ++ opsS ⟨#[]⟩ l := by
  induction l with
  | nil => intro s; show s = s ++ ⟨#[]⟩; rw [app_nil']
  | cons o l ih =>
    intro s
    show opsS (s ++ opS o) l = s ++ opsS (⟨#[]⟩ ++ opS o) l
    rw [ih (s ++ opS o), ih (⟨#[]⟩ ++ opS o), nil_app, ByteArray.append_assoc]
theorem opsS_cons (o : OpV) (l : List OpV) : opsS ⟨#[]⟩ (o :: l) = opS o ++ opsS ⟨#[]⟩ l := by
  show opsS (⟨#[]⟩ ++ opS o) l = _
  rw [nil_app, opsS_app]
theorem opS_pos (o : OpV) : 1 ≤ (opS o).size := by
  have h := opS_parts o ⟨#[]⟩
  rw [app_nil'] at h
  rw [h, ByteArray.size_append]
  have : 1 ≤ (Num.lebS o.k).size := Num.leb_pos _
  omega
theorem opsS_len (l : List OpV) : l.length ≤ (opsS ⟨#[]⟩ l).size := by
  induction l with
  | nil => exact Nat.zero_le _
  | cons o l ih =>
    rw [opsS_cons, ByteArray.size_append, List.length_cons]
    have := opS_pos o
    omega
theorem opsL_app (T : ByteArray) : ∀ (l acc : List OpV), (∀ o ∈ l, OkO o) → (∀ o ∈ l, formB o = true) → opsL l.length acc ⟨opsS ⟨#[]⟩ l ++ T, 0⟩ = some (acc ++ l, ⟨T, 0⟩) := by
  intro l
  induction l with
  | nil =>
    intro acc _ _
    show some (acc, (⟨(⟨#[]⟩ : ByteArray) ++ T, 0⟩ : RS)) = _
    rw [nil_app, List.append_nil]
  | cons o l ih =>
    intro acc ho hf
    rw [opsS_cons, ByteArray.append_assoc]
    obtain ⟨h1, h2, h3⟩ := read_app (ho o List.mem_cons_self) (hf o List.mem_cons_self) (opsS ⟨#[]⟩ l ++ T)
    show (if roB _ = true then opsL l.length (acc ++ [roV _]) (roS _) else none) = _
    rw [h3, if_pos rfl, h1, h2, ih (acc ++ [o]) (fun x h => ho x (List.mem_cons_of_mem _ h)) (fun x h => hf x (List.mem_cons_of_mem _ h)), List.append_assoc]
    rfl
def oneS (f : FunV) : ByteArray := headS f ++ opsS ⟨#[]⟩ f.ops
theorem fun1_app {f : FunV} (hf : funB f = true) (ho : OkF f) (T : ByteArray) : fun1 ⟨oneS f ++ T, 0⟩ = some (f, ⟨T, 0⟩) := by
  obtain ⟨ha, hr, hl, hform⟩ := funB_of hf
  have e : oneS f ++ T = Num.lebS f.args ++ (Num.lebS f.regs ++ (Num.lebS (f.ops.length : Int) ++ (opsS ⟨#[]⟩ f.ops ++ T))) := by
    unfold oneS headS
    simp only [ByteArray.append_assoc]
  rw [e]
  obtain ⟨a1, a2⟩ := u_app (x := f.args) (by unfold U64; omega) (most := 16) ha.2 (Num.lebS f.regs ++ (Num.lebS (f.ops.length : Int) ++ (opsS ⟨#[]⟩ f.ops ++ T)))
  obtain ⟨b1, b2⟩ := u_app (x := f.regs) (by unfold U64; omega) (most := 16) hr.2 (Num.lebS (f.ops.length : Int) ++ (opsS ⟨#[]⟩ f.ops ++ T))
  obtain ⟨c1, c2⟩ := c_app (x := (f.ops.length : Int)) (by unfold U64; omega) (most := 64) (by omega) (opsS ⟨#[]⟩ f.ops ++ T) (by rw [ByteArray.size_append]; have := opsS_len f.ops; omega)
  unfold fun1
  rw [a1, a2, b1, b2, c1, c2, Int.toNat_natCast, opsL_app T f.ops [] ho.2.2 hform]
  rfl
theorem funS_one (s : ByteArray) (f : FunV) : funS s f = s ++ oneS f := by
  unfold funS oneS
  rw [opsS_app, ByteArray.append_assoc]
theorem funs_app (l : List FunV) : ∀ s : ByteArray, l.foldl funS s = s ++ l.foldl funS ⟨#[]⟩ := by
  induction l with
  | nil => intro s; show s = s ++ ⟨#[]⟩; rw [app_nil']
  | cons f l ih =>
    intro s
    show l.foldl funS (funS s f) = s ++ l.foldl funS (funS ⟨#[]⟩ f)
    rw [ih (funS s f), ih (funS ⟨#[]⟩ f), funS_one, funS_one, nil_app, ByteArray.append_assoc]
theorem funs_cons (f : FunV) (l : List FunV) : (f :: l).foldl funS ⟨#[]⟩ = oneS f ++ l.foldl funS ⟨#[]⟩ := by
  show l.foldl funS (funS ⟨#[]⟩ f) = _
  rw [funs_app, funS_one, nil_app]
theorem oneS_pos (f : FunV) : 1 ≤ (oneS f).size := by
  unfold oneS headS
  rw [ByteArray.size_append, ByteArray.size_append, ByteArray.size_append]
  have : 1 ≤ (Num.lebS f.args).size := Num.leb_pos _
  omega
theorem funs_len (l : List FunV) : l.length ≤ (l.foldl funS ⟨#[]⟩).size := by
  induction l with
  | nil => exact Nat.zero_le _
  | cons f l ih =>
    rw [funs_cons, ByteArray.size_append, List.length_cons]
    have := oneS_pos f
    omega
theorem funL_app (T : ByteArray) : ∀ (l acc : List FunV), OkP l → (∀ f ∈ l, funB f = true) → funL l.length acc ⟨l.foldl funS ⟨#[]⟩ ++ T, 0⟩ = some (acc ++ l, ⟨T, 0⟩) := by
  intro l
  induction l with
  | nil =>
    intro acc _ _
    show some (acc, (⟨(⟨#[]⟩ : ByteArray) ++ T, 0⟩ : RS)) = _
    rw [nil_app, List.append_nil]
  | cons f l ih =>
    intro acc ho hf
    rw [funs_cons, ByteArray.append_assoc]
    show (match fun1 _ with | none => none | some (f, r4) => funL l.length (acc ++ [f]) r4) = _
    rw [fun1_app (hf f List.mem_cons_self) (ho f List.mem_cons_self) (l.foldl funS ⟨#[]⟩ ++ T)]
    show funL l.length (acc ++ [f]) ⟨l.foldl funS ⟨#[]⟩ ++ T, 0⟩ = _
    rw [ih (acc ++ [f]) (fun x h => ho x (List.mem_cons_of_mem _ h)) (fun x h => hf x (List.mem_cons_of_mem _ h)), List.append_assoc]
    rfl
/-- A formed program's bytes, and what lies behind them. -/
theorem dec_app {l : List FunV} (hm : mayB l = true) (ho : OkP l) (T : ByteArray) (hs : (progS l ++ T).size ≤ 16384) : dec (progS l ++ T) = if T.size ≠ 0 then ([], 8) else (l, 0) := by
  obtain ⟨h16, hfun⟩ := mayB_of hm
  have e : progS l ++ T = Num.lebS 1 ++ (Num.lebS (l.length : Int) ++ (l.foldl funS ⟨#[]⟩ ++ T)) := by
    unfold progS startS
    rw [funs_app]
    simp only [ByteArray.append_assoc]
  unfold dec
  rw [if_neg (by omega), e]
  obtain ⟨a1, a2⟩ := u_app (x := 1) (by unfold U64; omega) (most := 18446744073709551615) (by omega) (Num.lebS (l.length : Int) ++ (l.foldl funS ⟨#[]⟩ ++ T))
  obtain ⟨c1, c2⟩ := c_app (x := (l.length : Int)) (by unfold U64; omega) (most := 16) (by omega) (l.foldl funS ⟨#[]⟩ ++ T) (by rw [ByteArray.size_append]; have := funs_len l; omega)
  rw [a1, a2]
  simp only [ne_eq, not_true_eq_false, if_false]
  rw [c1, c2, Int.toNat_natCast, funL_app T l [] ho hfun]
  simp only [List.nil_append]
  unfold endE
  by_cases hT : T.size = 0
  · simp [hT]
  · simp [hT]
theorem dec_prog {l : List FunV} (hm : mayB l = true) (ho : OkP l) (hs : (progS l).size ≤ 16384) : dec (progS l) = (l, 0) := by
  have := dec_app hm ho ⟨#[]⟩ (by rw [app_nil']; exact hs)
  rw [app_nil'] at this
  exact this
/-- Programs with the same bytes are the same. -/
theorem prog_inj {a b : List FunV} (ha : encC a = 0) (hb : encC b = 0) (oa : OkP a) (ob : OkP b) : (encV a = encV b) ↔ a = b := by
  have key : ∀ {l : List FunV}, encC l = 0 → mayB l = true ∧ (progS l).size ≤ 16384 ∧ encV l = progS l := by
    intro l h
    unfold encC at h
    cases hm : mayB l with
    | false => rw [hm] at h; simp at h
    | true =>
      rw [hm] at h
      simp only [if_true] at h
      by_cases hs : 16384 < (progS l).size
      · rw [if_pos hs] at h; omega
      · refine ⟨rfl, by omega, ?_⟩
        unfold encV
        rw [hm, if_pos rfl, if_neg hs]
  obtain ⟨a1, a2, a3⟩ := key ha
  obtain ⟨b1, b2, b3⟩ := key hb
  rw [a3, b3]
  refine ⟨fun h => ?_, fun h => by rw [h]⟩
  have e1 := dec_prog a1 oa a2
  rw [h, dec_prog b1 ob b2] at e1
  exact (congrArg Prod.fst e1).symm
end Cd
end Go.Proofs.Ytpidhcogaoehhaa
