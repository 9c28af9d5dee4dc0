import Derived.Test.YtgdgonmhgpflcaaRpeB

/- What the document's Called answers, as data; beside what the program's answers. No program in sight. -/
namespace Go.Proofs.Ytgdgonmhgpflcaa
open Go.RowKit Go.Maps Wire Rp
set_option linter.unusedVariables false
set_option linter.unusedSimpArgs false
namespace Rp
def newP (fr : Int) : Pe := ⟨fr, 0, 0, []⟩
def addP (d : List Pe) (fr : Int) : List Pe := if (lookP d fr).isSome then d else d ++ [newP fr]
def takeR (d : List Pe) (fr : Int) (p : Pk) : (Int × ByteArray × Int) × List Pe :=
  if (placeB fr && mayP p && !p.an) = false then ((0, ⟨#[]⟩, 2), d) else takeD (addP d fr) fr p
def ansR (d : List Pe) (fr inc seq : Int) (body : ByteArray) : (ByteArray × Int) × List Pe :=
  if placeB fr = false then ((⟨#[]⟩, 2), d) else if 8192 < body.size then ((⟨#[]⟩, 4), d) else if inc = 0 then ((⟨#[]⟩, 5), addP d fr) else ansD (addP d fr) fr inc seq body
/-- The document's peers that were never heard stand for none. -/
def Sim (s d : List Pe) : Prop := (∀ fr x, lookP s fr = some x → lookP d fr = some x ∧ 1 ≤ x.inc) ∧ ∀ fr, lookP s fr = none → lookP d fr = none ∨ lookP d fr = some (newP fr)
theorem lookP_fr {d : List Pe} {fr : Int} {x : Pe} (h : lookP d fr = some x) : x.fr = fr := (lookP_some h).2
theorem lookP_add (d : List Pe) (fr y : Int) : lookP (addP d fr) y = if y = fr then some ((lookP d fr).getD (newP fr)) else lookP d y := by
  unfold addP
  cases h : lookP d fr with
  | some x =>
    simp only [Option.isSome_some, if_true, Option.getD_some]
    split
    · rename_i e; subst e; exact h
    · rfl
  | none =>
    simp only [Option.isSome_none, Bool.false_eq_true, if_false, Option.getD_none]
    have h2 : lookP (d ++ [newP fr]) y = (lookP d y).or (lookP [newP fr] y) := by unfold lookP; rw [List.find?_append]
    rw [h2]
    split
    · rename_i e
      subst e
      rw [h]
      unfold lookP newP
      simp
    · rename_i e
      have : lookP [newP fr] y = none := by unfold lookP newP; simp; exact fun h => e h.symm
      rw [this]; simp
theorem Sim.add {s d : List Pe} (h : Sim s d) (fr : Int) : Sim s (addP d fr) := by
  refine ⟨fun y x hx => ?_, fun y hy => ?_⟩
  · rw [lookP_add]
    obtain ⟨h1, h2⟩ := h.1 y x hx
    refine ⟨?_, h2⟩
    split
    · rename_i e; subst e; rw [h1]; rfl
    · exact h1
  · rw [lookP_add]
    split
    · rename_i e
      subst e
      rcases h.2 y hy with e | e
      · rw [e]; exact .inr rfl
      · rw [e]; exact .inr rfl
    · exact h.2 y hy
theorem Sim.set {s d : List Pe} (h : Sim s d) {pe : Pe} (hi : 1 ≤ pe.inc) : Sim (setPe s pe) (setPe d pe) := by
  refine ⟨fun y x hx => ?_, fun y hy => ?_⟩
  · rw [lookP_set] at hx ⊢
    split at hx
    · rename_i e
      injection hx with hx
      subst hx
      rw [if_pos e]
      exact ⟨rfl, hi⟩
    · rename_i e
      rw [if_neg e]
      exact h.1 y x hx
  · rw [lookP_set] at hy ⊢
    split at hy
    · cases hy
    · rename_i e
      rw [if_neg e]
      exact h.2 y hy
theorem Sim.inc {s d : List Pe} (h : Sim s d) (fr : Int) : incD d fr = incD s fr := by
  unfold incD
  cases e : lookP s fr with
  | some x => rw [(h.1 fr x e).1]
  | none => rcases h.2 fr e with e2 | e2 <;> rw [e2]; rfl
theorem may_inc {p : Pk} (h : mayP p = true) : 1 ≤ p.inc := by
  unfold mayP at h
  simp only [Bool.and_eq_true, decide_eq_true_eq] at h
  omega
theorem hear_inc (x : Pe) (p : Pk) : (hear x p).2.inc = x.inc := by
  unfold hear
  repeat' split
  all_goals rfl
theorem cur_inc {s : List Pe} {fr : Int} {p : Pk} (hp : 1 ≤ p.inc) (hs : ∀ x, lookP s fr = some x → 1 ≤ x.inc) : 1 ≤ (curPe (lookP s fr) fr p).inc := by
  unfold curPe
  cases h : lookP s fr with
  | none => exact hp
  | some x =>
    dsimp only
    split
    · exact hp
    · exact hs x h
theorem sim_take {s d : List Pe} (h : Sim s d) (fr : Int) (p : Pk) : (takeR d fr p).1 = (takeD s fr p).1 ∧ Sim (takeD s fr p).2 (takeR d fr p).2 := by
  unfold takeR
  by_cases hb : (placeB fr && mayP p && !p.an) = false
  · rw [if_pos hb]
    unfold takeD
    rw [if_pos hb]
    exact ⟨rfl, h⟩
  · rw [if_neg hb]
    have hm : 1 ≤ p.inc := may_inc (by
      simp only [Bool.not_eq_false, Bool.and_eq_true] at hb
      exact hb.1.2)
    unfold takeD
    rw [if_neg hb, if_neg hb]
    have e : curPe (lookP (addP d fr) fr) fr p = curPe (lookP s fr) fr p := by
      rw [lookP_add, if_pos rfl]
      cases hs : lookP s fr with
      | some x => rw [(h.1 fr x hs).1]; rfl
      | none =>
        have : (lookP d fr).getD (newP fr) = newP fr := by rcases h.2 fr hs with e | e <;> rw [e] <;> rfl
        rw [this]
        unfold curPe newP
        dsimp only
        rw [if_pos (by omega)]
    rw [e]
    refine ⟨rfl, (h.add fr).set ?_⟩
    rw [hear_inc]
    exact cur_inc hm fun x hx => (h.1 fr x hx).2
theorem forget_inc (x : Pe) : (forgetP x).inc = x.inc := by unfold forgetP; split <;> rfl
theorem sim_ans {s d : List Pe} (h : Sim s d) (fr inc seq : Int) (body : ByteArray) : (ansR d fr inc seq body).1 = (ansD s fr inc seq body).1 ∧ Sim (ansD s fr inc seq body).2 (ansR d fr inc seq body).2 := by
  unfold ansR ansD
  by_cases h1 : placeB fr = false
  · rw [if_pos h1, if_pos h1]; exact ⟨rfl, h⟩
  · rw [if_neg h1, if_neg h1, if_neg h1]
    by_cases h2 : 8192 < body.size
    · rw [if_pos h2, if_pos h2]; exact ⟨rfl, h⟩
    · rw [if_neg h2, if_neg h2, if_neg h2, lookP_add, if_pos rfl]
      cases hs : lookP s fr with
      | none =>
        have : (lookP d fr).getD (newP fr) = newP fr := by rcases h.2 fr hs with e | e <;> rw [e] <;> rfl
        rw [this]
        dsimp only
        by_cases h3 : inc = 0
        · rw [if_pos h3]; exact ⟨rfl, h.add fr⟩
        · rw [if_neg h3, if_neg (by unfold newP; dsimp only; omega)]
          exact ⟨rfl, h.add fr⟩
      | some x =>
        obtain ⟨e1, e2⟩ := h.1 fr x hs
        rw [e1]
        dsimp only [Option.getD_some]
        by_cases h3 : inc = 0
        · rw [if_pos h3, if_neg (show ¬ x.inc = inc by omega)]
          exact ⟨rfl, h.add fr⟩
        · rw [if_neg h3]
          by_cases h4 : x.inc = inc
          · rw [if_pos h4, if_pos h4]
            cases hl : lookH x.L seq with
            | none => exact ⟨rfl, h.add fr⟩
            | some g =>
              dsimp only
              cases hd : g.dn with
              | true => exact ⟨rfl, h.add fr⟩
              | false =>
                refine ⟨rfl, (h.add fr).set ?_⟩
                rw [forget_inc]
                exact e2
          · rw [if_neg h4, if_neg h4]
            exact ⟨rfl, h.add fr⟩
end Rp
end Go.Proofs.Ytgdgonmhgpflcaa
