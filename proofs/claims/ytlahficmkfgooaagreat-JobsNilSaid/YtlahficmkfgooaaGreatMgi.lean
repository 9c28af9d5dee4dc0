import Derived.Test.YtlahficmkfgooaaGreatChkC
import Derived.BigQuiet
import Derived.Test.YtlahficmkfgooaaGreatMgg
import Derived.Test.YtlahficmkfgooaaGreatMge
import Derived.Test.YtlahficmkfgooaaGreatCodeZ
import Derived.Test.YtlahficmkfgooaaGreatCodeN

/- The walks of 'May' and 'Input'. No condition but that rows are not too long and numbers fit their kinds. -/
namespace Go.Proofs.YtlahficmkfgooaaGreat
open Go.RowKit Cd
set_option linter.unusedVariables false
set_option linter.unusedSimpArgs false
theorem look_cons {l : List FunV} {fn op : Nat} (h : lookE l = (0, fn, op)) : 0 < l.length := by
  rcases Nat.eq_zero_or_pos l.length with h0 | h0
  · have : l = [] := List.eq_nil_of_length_eq_zero h0
    subst this
    exfalso
    have h2 : lookE [] = (110, 0, 0) := rfl
    rw [h2] at h
    injection h with h _
    exact absurd h (by decide)
  · exact h0
def CMayPost (W : World) (l : List FunV) (e : Ending) (w' : World) : Prop := ∃ (c : Int) (fn op : Nat), e = .returned (.tuple #[.int .i64 c, .int .i64 fn, .int .i64 op]) ∧ lookE l = (c, fn, op) ∧ Below W.heap.size W w'
def inE (l : List FunV) (m : Nat) : Int := if (lookE l).1 ≠ 0 then (lookE l).1 else if (m : Int) ≠ argsAt l 0 then 114 else 0
set_option maxRecDepth 100000 in
set_option maxHeartbeats 2000000 in
theorem cinput_any {W : World} {x : Value} {l : List FunV} {q : Option Addr} {m cq : Nat} (hx : FunsAt W x l) (hl : Lim l) (ho : OkP l) : Calls Tryz.prog 87 #[.agg #[x], .slice q m cq] W fun e w' => ∃ r : Int, e = .returned (.int .i64 r) ∧ r = inE l m ∧ Below W.heap.size W w' := by
  have HB := Lib.hid ((Below.refl _ W).alloc (Nat.le_refl _) (.cells #[x] 133))
  have HK := Lib.hid (look_any (hx.alloc (.cells #[x] 133)) hl ho)
  have HT := Lib.hid (Blk.new W 133 #[x])
  have HV := Lib.hid hx
  obtain ⟨p, cap, rfl⟩ := hx.slice
  clear hx hl ho
  go_enter Tryz.func87, Tryz.ntmps87
  go_upto_region 2 with (go_at_call 106; ((with_reducible refine HK.out.mono ?_); rintro e w1 ⟨c, fn, op, rfl, hE, b1⟩; have HB1 := Lib.hid (HB.out.step b1); have HT1 := Lib.hid (HT.out.below b1); have HE := Lib.hid hE; clear b1 hE))
  have HB2 := Lib.hid (HB1.out.alloc HB1.out.size (.cells #[.int .i64 c, .int .i64 (fn : Nat), .int .i64 (op : Nat)] 174))
  have hX := Blk.new w1 174 #[.int .i64 c, .int .i64 (fn : Nat), .int .i64 (op : Nat)]
  have c0 : (w1.alloc (.cells #[.int .i64 c, .int .i64 (fn : Nat), .int .i64 (op : Nat)] 174)).cell? ⟨w1.heap.size, 0, none⟩ = some (.int .i64 c) := hX.cell 0
  have t0 : (w1.alloc (.cells #[.int .i64 c, .int .i64 (fn : Nat), .int .i64 (op : Nat)] 174)).cell? ⟨W.heap.size, 0, none⟩ = some (.slice p l.length cap) := (HT1.out.alloc _).cell 0
  clear hX HB HB1 HK HT HT1
  generalize w1.alloc (.cells #[.int .i64 c, .int .i64 (fn : Nat), .int .i64 (op : Nat)] 174) = w2 at *
  generalize w1.heap.size = X at *
  by_cases hc : c = 0
  · subst hc
    have hlp := look_cons HE.out
    obtain ⟨p', c', e1, hy⟩ := HV.out
    injection e1 with e1 _ e3
    subst e1 e3
    obtain ⟨g, off, rfl, hg, hy⟩ := hy hlp
    have x0 := (hy 0 hlp).1
    rw [← HB2.out.cell (p := ⟨g, _, none⟩) hg] at x0
    have hA : argsAt l 0 = l[0].args := by unfold argsAt; rw [show (0 : Int).toNat = 0 from rfl, List.getElem?_eq_getElem hlp]; rfl
    have hin : inE l m = if (m : Int) ≠ l[0].args then 114 else 0 := by unfold inE; rw [HE.out, hA]; rfl
    rw [Nat.zero_mul, Nat.add_zero] at x0
    clear hy hA
    generalize l[0].args = A at *
    by_cases hm : (m : Int) = A
    · have hr : inE l m = 0 := by rw [hin, if_neg (by simp [hm])]
      have hm' : ((m : Int) == A) = true := by simpa using hm
      have HR := Lib.hid hr
      clear hin hm hr
      go_wp2_with fail
      go_ret
      exact ⟨_, rfl, HR.out.symm, HB2.out⟩
    · have hr : inE l m = 114 := by rw [hin, if_pos hm]
      have hm' : ((m : Int) == A) = false := by simpa using hm
      have HR := Lib.hid hr
      clear hin hm hr
      go_wp2_with fail
      go_ret
      exact ⟨_, rfl, HR.out.symm, HB2.out⟩
  · have hc' : (c == 0) = false := by simpa using hc
    have hr : inE l m = c := by unfold inE; rw [HE.out, if_pos hc]
    have HR := Lib.hid hr
    clear hr hc
    go_wp2_with fail
    go_ret
    exact ⟨_, rfl, HR.out.symm, HB2.out⟩
end Go.Proofs.YtlahficmkfgooaaGreat


/- Tokens and results: which may be. No condition. -/
namespace Go.Proofs.YtlahficmkfgooaaGreat
open Go.RowKit
set_option linter.unusedVariables false
set_option linter.unusedSimpArgs false
namespace Jb
/-- May a token, a result be? -/
def tokB (t : ByteArray) : Bool := decide (1 ≤ t.size) && decide (t.size ≤ 32)
def resB (v e : Int) : Bool := decide (0 ≤ e) && (decide (e ≤ 9999) && (decide (e = 0) || decide (v = 0)))
end Jb
open Jb
set_option maxRecDepth 100000 in
theorem token_any (t : ByteArray) (w : World) : Calls Tryz.prog 48 #[.string t] w fun e w' => e = .returned (.bool (tokB t)) ∧ w = w' := by
  unfold tokB
  by_cases h0 : t.size = 0
  · have h1 : (t.toList.isEmpty) = true := by rw [ByteArray.toList_eq, List.isEmpty_iff]; exact List.eq_nil_of_length_eq_zero (by simpa using h0)
    have h2 : t.toList = [] := by simpa using h1
    have hd : decide (1 ≤ t.size) = false := decide_eq_false (by omega)
    rw [hd, Bool.false_and]
    clear h0 hd
    go_enter Tryz.func48, Tryz.ntmps48
    go_wp2_with fail
    go_ret
    exact ⟨rfl, rfl⟩
  · have h1 := ne_empty h0
    have h2 : ¬ t.toList = [] := by intro e; rw [e] at h1; simp at h1
    have hd : decide (1 ≤ t.size) = true := decide_eq_true (by omega)
    rw [hd, Bool.true_and]
    clear hd h0
    by_cases h3 : t.size ≤ 32
    · have h3' : (t.size : Int) ≤ 32 := by omega
      rw [decide_eq_true h3]
      clear h3
      go_enter Tryz.func48, Tryz.ntmps48
      go_wp2_with fail
      go_ret
      exact ⟨rfl, rfl⟩
    · have h3' : ¬ (t.size : Int) ≤ 32 := by omega
      rw [decide_eq_false h3]
      clear h3
      go_enter Tryz.func48, Tryz.ntmps48
      go_wp2_with fail
      go_ret
      exact ⟨rfl, rfl⟩
set_option maxRecDepth 100000 in
theorem rtoken_any (t : ByteArray) (w : World) : Calls Tryz.prog 69 #[.string t] w fun e w' => e = .returned (.bool (tokB t)) ∧ w = w' := by
  unfold tokB
  by_cases h0 : 1 ≤ t.size
  · have h0' : (1 : Int) ≤ (t.size : Int) := by omega
    rw [decide_eq_true h0, Bool.true_and]
    clear h0
    by_cases h3 : t.size ≤ 32
    · have h3' : (t.size : Int) ≤ 32 := by omega
      rw [decide_eq_true h3]
      clear h3
      go_enter Tryz.func69, Tryz.ntmps69
      go_wp2_with fail
      go_ret
      exact ⟨rfl, rfl⟩
    · have h3' : ¬ (t.size : Int) ≤ 32 := by omega
      rw [decide_eq_false h3]
      clear h3
      go_enter Tryz.func69, Tryz.ntmps69
      go_wp2_with fail
      go_ret
      exact ⟨rfl, rfl⟩
  · have h0' : ¬ (1 : Int) ≤ (t.size : Int) := by omega
    rw [decide_eq_false h0, Bool.false_and]
    clear h0
    go_enter Tryz.func69, Tryz.ntmps69
    go_wp2_with fail
    go_ret
    exact ⟨rfl, rfl⟩
set_option maxRecDepth 100000 in
    theorem jformed_any (v e : Int) (w : World) : Calls Tryz.prog 57 #[.agg #[.int .i64 v, .int .i64 e]] w fun en w' => en = .returned (.bool (resB v e)) ∧ Below w.heap.size w w' := by
      have HB := Lib.hid ((Below.refl _ w).alloc (Nat.le_refl _) (.cells #[.int .i64 v, .int .i64 e] 39))
      unfold resB
      by_cases h1 : 0 ≤ e
      · rw [decide_eq_true h1, Bool.true_and]
        by_cases h2 : e ≤ 9999
        · rw [decide_eq_true h2, Bool.true_and]
          by_cases h3 : e = 0
          · subst h3
            rw [decide_eq_true rfl, Bool.true_or]
            (go_enter Tryz.func57, Tryz.ntmps57; go_wp2_with fail; go_ret; exact ⟨rfl, HB.out⟩)
          · have h3' : (e == 0) = false := by simpa using h3
            rw [decide_eq_false h3, Bool.false_or]
            clear h3
            by_cases h4 : v = 0
            · subst h4
              rw [decide_eq_true rfl]
              (go_enter Tryz.func57, Tryz.ntmps57; go_wp2_with fail; go_ret; exact ⟨rfl, HB.out⟩)
            · have h4' : (v == 0) = false := by simpa using h4
              rw [decide_eq_false h4]
              clear h4
              (go_enter Tryz.func57, Tryz.ntmps57; go_wp2_with fail; go_ret; exact ⟨rfl, HB.out⟩)
        · rw [decide_eq_false h2, Bool.false_and]
          (go_enter Tryz.func57, Tryz.ntmps57; go_wp2_with fail; go_ret; exact ⟨rfl, HB.out⟩)
      · rw [decide_eq_false h1, Bool.false_and]
        (go_enter Tryz.func57, Tryz.ntmps57; go_wp2_with fail; go_ret; exact ⟨rfl, HB.out⟩)
set_option maxRecDepth 100000 in
        theorem rresult_any (v e : Int) (w : World) : Calls Tryz.prog 71 #[.agg #[.int .i64 v, .int .i64 e]] w fun en w' => en = .returned (.bool (resB v e)) ∧ Below w.heap.size w w' := by
          have HB := Lib.hid ((Below.refl _ w).alloc (Nat.le_refl _) (.cells #[.int .i64 v, .int .i64 e] 39))
          unfold resB
          by_cases h1 : 0 ≤ e
          · rw [decide_eq_true h1, Bool.true_and]
            by_cases h2 : e ≤ 9999
            · rw [decide_eq_true h2, Bool.true_and]
              by_cases h3 : e = 0
              · subst h3
                rw [decide_eq_true rfl, Bool.true_or]
                (go_enter Tryz.func71, Tryz.ntmps71; go_wp2_with fail; go_ret; exact ⟨rfl, HB.out⟩)
              · have h3' : (e == 0) = false := by simpa using h3
                rw [decide_eq_false h3, Bool.false_or]
                clear h3
                by_cases h4 : v = 0
                · subst h4
                  rw [decide_eq_true rfl]
                  (go_enter Tryz.func71, Tryz.ntmps71; go_wp2_with fail; go_ret; exact ⟨rfl, HB.out⟩)
                · have h4' : (v == 0) = false := by simpa using h4
                  rw [decide_eq_false h4]
                  clear h4
                  (go_enter Tryz.func71, Tryz.ntmps71; go_wp2_with fail; go_ret; exact ⟨rfl, HB.out⟩)
            · rw [decide_eq_false h2, Bool.false_and]
              (go_enter Tryz.func71, Tryz.ntmps71; go_wp2_with fail; go_ret; exact ⟨rfl, HB.out⟩)
          · rw [decide_eq_false h1, Bool.false_and]
            (go_enter Tryz.func71, Tryz.ntmps71; go_wp2_with fail; go_ret; exact ⟨rfl, HB.out⟩)
end Go.Proofs.YtlahficmkfgooaaGreat


/- Rows of jobs as data: which may be, what calls make of them. No program in sight. -/
namespace Go.Proofs.YtlahficmkfgooaaGreat
open Go.RowKit
set_option linter.unusedVariables false
set_option linter.unusedSimpArgs false
namespace Jb
structure JR where
  job : Int
  tok : ByteArray
  prog : ByteArray
  inp : List Int
  fuel : Int
  st : Int
  val : Int
  err : Int
instance : Inhabited JR := ⟨⟨0, ⟨#[]⟩, ⟨#[]⟩, [], 0, 0, 0, 0⟩⟩
/-- Why a program, an input and fuel may not be. -/
def askE (p : ByteArray) (n : Nat) (fuel : Int) : Int := if (Cd.dec p).2 ≠ 0 then (Cd.dec p).2 else if inE (Cd.dec p).1 n ≠ 0 then inE (Cd.dec p).1 n else if fuel < 0 ∨ 500 < fuel then 2 else 0
def stB (r : JR) : Bool := decide (r.st = 2) || ((decide (r.st = 1) || decide (r.st = 3)) && (decide (r.val = 0) && decide (r.err = 0)))
def lastJ (l : List JR) : Int := match l.getLast? with | some x => x.job | none => 0
/-- May a row be behind others? -/
def rowB (last : Int) (ahead : List JR) (r : JR) : Bool :=
  decide (lastJ ahead < r.job) && (decide (r.job ≤ last) && (tokB r.tok && (!(ahead.any fun x => decide (x.tok = r.tok)) && (decide (askE r.prog r.inp.length r.fuel = 0) && (stB r && resB r.val r.err)))))
def rowsB (last : Int) : List JR → List JR → Bool
  | _, [] => true
  | ahead, r :: rest => rowB last ahead r && rowsB last (ahead ++ [r]) rest
def mayB (l : List JR) (last : Int) : Bool := rowsB last [] l && (decide (l.length ≤ 256) && decide (last ≤ 281474976710656))
structure JS where
  most : Int
  last : Int
  rows : List JR
def pendL (l : List JR) : List Int := (l.filter fun x => decide (x.st = 1)).map (·.job)
def newR (last : Int) (tok prog : ByteArray) (inp : List Int) (fuel : Int) : JR := ⟨last, tok, prog, inp, fuel, 1, 0, 0⟩
def fullB (s : JS) : Bool := decide (s.most ≤ (pendL s.rows).length) || (decide (256 ≤ s.rows.length) || decide (281474976710656 ≤ s.last))
def addS (s : JS) (tok prog : ByteArray) (inp : List Int) (fuel : Int) : JS := { s with last := s.last + 1, rows := s.rows ++ [newR (s.last + 1) tok prog inp fuel] }
def subS (s : JS) (tok prog : ByteArray) (inp : List Int) (fuel : Int) : (Int × Int × Int) × JS :=
  if tokB tok = false then ((0, 0, 2), s) else
  match s.rows.find? (fun x => decide (x.tok = tok)) with
  | some x => if x.prog = prog ∧ x.inp = inp ∧ x.fuel = fuel then ((x.job, x.st, 0), s) else ((0, 0, 7), s)
  | none => if askE prog inp.length fuel ≠ 0 then ((0, 0, askE prog inp.length fuel), s) else if fullB s = true then ((0, 0, 6), s) else ((s.last + 1, 1, 0), addS s tok prog inp fuel)
def seek (l : List JR) (j : Int) : Option JR := l.find? (fun x => decide (x.job = j))
def setR (l : List JR) (j : Int) (f : JR → JR) : List JR := l.map fun x => if x.job = j then f x else x
def doneS (s : JS) (j v e : Int) : Int × JS :=
  match seek s.rows j with
  | none => (5, s)
  | some x => if x.st ≠ 1 then (3, s) else if resB v e = false then (2, s) else (0, { s with rows := setR s.rows j fun x => { x with st := 2, val := v, err := e } })
def cancS (s : JS) (j : Int) : (Int × Int) × JS :=
  match seek s.rows j with
  | none => ((0, 5), s)
  | some x => if x.st = 1 then ((3, 0), { s with rows := setR s.rows j fun x => { x with st := 3 } }) else ((x.st, 0), s)
def findS (s : JS) (j : Int) : JR × Int := match seek s.rows j with | none => (default, 5) | some x => (x, 0)
structure JInv (s : JS) : Prop where
  most : 1 ≤ s.most ∧ s.most ≤ 256
  last : 0 ≤ s.last
  may : mayB s.rows s.last = true
/-! ### What may be, in other words -/
theorem rowsB_app (last : Int) : ∀ (l ahead : List JR) (r : JR), rowsB last ahead (l ++ [r]) = (rowsB last ahead l && rowB last (ahead ++ l) r)
  | [], ahead, r => by simp [rowsB]
  | x :: l, ahead, r => by
    have h := rowsB_app last l (ahead ++ [x]) r
    simp only [List.cons_append, rowsB]
    rw [h, List.append_assoc, List.singleton_append, Bool.and_assoc]
theorem rowB_iff {last : Int} {ahead : List JR} {r : JR} : rowB last ahead r = true ↔ lastJ ahead < r.job ∧ r.job ≤ last ∧ tokB r.tok = true ∧ (∀ x ∈ ahead, x.tok ≠ r.tok) ∧ askE r.prog r.inp.length r.fuel = 0 ∧ stB r = true ∧ resB r.val r.err = true := by
  unfold rowB
  simp only [Bool.and_eq_true, decide_eq_true_eq, Bool.not_eq_true', List.any_eq_false, and_assoc]
/-- Rows that may be, one by one. -/
structure Good (last : Int) (l : List JR) : Prop where
  ris : l.Pairwise (fun a b => a.job < b.job)
  tok : l.Pairwise (fun a b => a.tok ≠ b.tok)
  one : ∀ r ∈ l, 1 ≤ r.job ∧ r.job ≤ last ∧ tokB r.tok = true ∧ askE r.prog r.inp.length r.fuel = 0 ∧ stB r = true ∧ resB r.val r.err = true
theorem lastJ_snoc (l : List JR) (x : JR) : lastJ (l ++ [x]) = x.job := by unfold lastJ; simp
theorem Good.last_lt {last : Int} {l : List JR} (h : Good last l) : 0 ≤ lastJ l ∧ ∀ x ∈ l, x.job ≤ lastJ l := by
  rcases List.eq_nil_or_concat l with rfl | ⟨l', y, rfl⟩
  · exact ⟨Int.le_refl _, fun x hx => by cases hx⟩
  · simp only [List.concat_eq_append] at h ⊢
    rw [lastJ_snoc]
    refine ⟨by have := (h.one y (by simp)).1; omega, fun x hx => ?_⟩
    rcases List.mem_append.1 hx with hx | hx
    · have := (List.pairwise_append.1 h.ris).2.2 x hx y (by simp); omega
    · simp at hx; subst hx; exact Int.le_refl _
theorem Good.snoc {last : Int} {l : List JR} {r : JR} (h : Good last l) : rowB last l r = true ↔ Good last (l ++ [r]) := by
  have hl := h.last_lt
  rw [rowB_iff]
  constructor
  · rintro ⟨h1, h2, h3, h4, h5, h6, h7⟩
    refine ⟨List.pairwise_append.2 ⟨h.ris, List.pairwise_singleton _ _, fun x hx y hy => ?_⟩, List.pairwise_append.2 ⟨h.tok, List.pairwise_singleton _ _, fun x hx y hy => ?_⟩, fun x hx => ?_⟩
    · simp at hy; subst hy; have := hl.2 x hx; omega
    · simp at hy; subst hy; exact h4 x hx
    · rcases List.mem_append.1 hx with hx | hx
      · exact h.one x hx
      · simp at hx; subst hx; exact ⟨by omega, h2, h3, h5, h6, h7⟩
  · intro g
    obtain ⟨h1, h2, h3, h5, h6, h7⟩ := g.one r (by simp)
    refine ⟨?_, h2, h3, fun x hx => (List.pairwise_append.1 g.tok).2.2 x hx r (by simp), h5, h6, h7⟩
    rcases List.eq_nil_or_concat l with rfl | ⟨l', y, rfl⟩
    · show (0 : Int) < r.job; omega
    · simp only [List.concat_eq_append] at g ⊢
      rw [lastJ_snoc]
      exact (List.pairwise_append.1 g.ris).2.2 y (by simp) r (by simp)
theorem rowsB_good {last : Int} : ∀ (l ahead : List JR), Good last ahead → (rowsB last ahead l = true ↔ Good last (ahead ++ l))
  | [], ahead, h => by simp only [rowsB, List.append_nil, true_iff]; exact h
  | r :: l, ahead, h => by
    simp only [rowsB, Bool.and_eq_true]
    rw [h.snoc]
    constructor
    · rintro ⟨h1, h2⟩
      have := (rowsB_good l (ahead ++ [r]) h1).1 h2
      rwa [List.append_assoc, List.singleton_append] at this
    · intro g
      have h1 : Good last (ahead ++ [r]) := by
        rw [show ahead ++ r :: l = (ahead ++ [r]) ++ l by simp] at g
        exact ⟨(List.pairwise_append.1 g.ris).1, (List.pairwise_append.1 g.tok).1, fun x hx => g.one x (List.mem_append_left _ hx)⟩
      refine ⟨h1, (rowsB_good l (ahead ++ [r]) h1).2 ?_⟩
      rwa [List.append_assoc, List.singleton_append]
theorem good_nil (last : Int) : Good last [] := ⟨List.Pairwise.nil, List.Pairwise.nil, fun x hx => by cases hx⟩
theorem mayB_iff {l : List JR} {last : Int} : mayB l last = true ↔ Good last l ∧ l.length ≤ 256 ∧ last ≤ 281474976710656 := by
  unfold mayB
  simp only [Bool.and_eq_true, decide_eq_true_eq]
  rw [rowsB_good l [] (good_nil last), List.nil_append]
theorem Good.mono {last last' : Int} {l : List JR} (h : Good last l) (hl : last ≤ last') : Good last' l := ⟨h.ris, h.tok, fun r hr => by have := h.one r hr; exact ⟨this.1, by omega, this.2.2⟩⟩
/-- A row turned, where it stands. -/
theorem Good.set {last : Int} {l : List JR} (h : Good last l) {j : Int} {f : JR → JR} (hf : ∀ x ∈ l, x.job = j → (f x).job = x.job ∧ (f x).tok = x.tok ∧ (f x).prog = x.prog ∧ (f x).inp = x.inp ∧ (f x).fuel = x.fuel ∧ stB (f x) = true ∧ resB (f x).val (f x).err = true) : Good last (setR l j f) := by
  have hj : ∀ x ∈ l, (if x.job = j then f x else x).job = x.job ∧ (if x.job = j then f x else x).tok = x.tok := fun x hx => by
    split
    · rename_i e; have := hf x hx e; exact ⟨this.1, this.2.1⟩
    · exact ⟨rfl, rfl⟩
  refine ⟨?_, ?_, fun r hr => ?_⟩
  · unfold setR; rw [List.pairwise_map]
    exact h.ris.imp_of_mem fun {a b} ha hb hab => by rw [(hj a ha).1, (hj b hb).1]; exact hab
  · unfold setR; rw [List.pairwise_map]
    exact h.tok.imp_of_mem fun {a b} ha hb hab => by rw [(hj a ha).2, (hj b hb).2]; exact hab
  · obtain ⟨x, hx, rfl⟩ := List.mem_map.1 hr
    have h1 := h.one x hx
    split
    · rename_i e
      obtain ⟨a, b, c, d, e, f1, g⟩ := hf x hx e
      exact ⟨by rw [a]; exact h1.1, by rw [a]; exact h1.2.1, by rw [b]; exact h1.2.2.1, by rw [c, d, e]; exact h1.2.2.2.1, f1, g⟩
    · exact h1
theorem JInv.good {s : JS} (h : JInv s) : Good s.last s.rows ∧ s.rows.length ≤ 256 ∧ s.last ≤ 281474976710656 := mayB_iff.1 h.may
theorem setR_len (l : List JR) (j : Int) (f : JR → JR) : (setR l j f).length = l.length := by unfold setR; simp
theorem JInv.set {s : JS} (h : JInv s) {j : Int} {f : JR → JR} (hf : ∀ x ∈ s.rows, x.job = j → (f x).job = x.job ∧ (f x).tok = x.tok ∧ (f x).prog = x.prog ∧ (f x).inp = x.inp ∧ (f x).fuel = x.fuel ∧ stB (f x) = true ∧ resB (f x).val (f x).err = true) : JInv { s with rows := setR s.rows j f } :=
  ⟨h.most, h.last, mayB_iff.2 ⟨h.good.1.set hf, by rw [setR_len]; exact h.good.2.1, h.good.2.2⟩⟩
theorem JInv.done {s : JS} (h : JInv s) (j v e : Int) : JInv (doneS s j v e).2 := by
  unfold doneS
  cases seek s.rows j with
  | none => exact h
  | some x =>
    dsimp only
    split
    · exact h
    · split
      · exact h
      · rename_i _ hr
        exact h.set fun y hy _ => ⟨rfl, rfl, rfl, rfl, rfl, by unfold stB; simp, by simpa using hr⟩
theorem seek_some {l : List JR} {j : Int} {x : JR} (h : seek l j = some x) : x ∈ l ∧ x.job = j := by
  unfold seek at h
  exact ⟨List.mem_of_find?_eq_some h, by have := List.find?_some h; simpa using this⟩
theorem Good.uniq {last : Int} {l : List JR} (h : Good last l) {x y : JR} (hx : x ∈ l) (hy : y ∈ l) (e : x.job = y.job) : x = y := by
  obtain ⟨i, hi, rfl⟩ := List.mem_iff_getElem.1 hx
  obtain ⟨k, hk, rfl⟩ := List.mem_iff_getElem.1 hy
  have hr := List.pairwise_iff_getElem.1 h.ris
  rcases Nat.lt_trichotomy i k with h' | h' | h'
  · have := hr i k hi hk h'; omega
  · subst h'; rfl
  · have := hr k i hk hi h'; omega
theorem JInv.canc {s : JS} (h : JInv s) (j : Int) : JInv (cancS s j).2 := by
  unfold cancS
  cases hs : seek s.rows j with
  | none => exact h
  | some x =>
    dsimp only
    split
    · rename_i h1
      refine h.set fun y hy e => ?_
      obtain ⟨hx, ex⟩ := seek_some hs
      have : y = x := h.good.1.uniq hy hx (by rw [e, ex])
      subst this
      have h2 := h.good.1.one y hy
      have h3 := h2.2.2.2.2.1
      refine ⟨rfl, rfl, rfl, rfl, rfl, ?_, h2.2.2.2.2.2⟩
      unfold stB at h3 ⊢
      rw [h1] at h3
      simpa using h3
    · exact h
theorem JInv.sub {s : JS} (h : JInv s) (tok prog : ByteArray) (inp : List Int) (fuel : Int) : JInv (subS s tok prog inp fuel).2 := by
  unfold subS
  split
  · exact h
  · rename_i ht
    cases hf : s.rows.find? (fun x => decide (x.tok = tok)) with
    | some x => dsimp only; split <;> exact h
    | none =>
      dsimp only
      split
      · exact h
      · rename_i ha
        split
        · exact h
        · rename_i hfu
          have hfu : fullB s = false := by simpa using hfu
          unfold fullB at hfu
          simp only [Bool.or_eq_false_iff, decide_eq_false_iff_not] at hfu
          have hg := h.good
          have hlt := hg.1.last_lt
          refine ⟨h.most, by have := h.last; show 0 ≤ s.last + 1; omega, mayB_iff.2 ⟨?_, by show (s.rows ++ [_]).length ≤ 256; rw [List.length_append, List.length_singleton]; omega, by show s.last + 1 ≤ _; omega⟩⟩
          refine (hg.1.mono (show s.last ≤ s.last + 1 by omega)).snoc.1 (rowB_iff.2 ⟨?_, Int.le_refl _, by show tokB tok = true; simpa using ht, fun x hx e => ?_, by show askE prog inp.length fuel = 0; simpa using ha, by unfold stB newR; simp, by unfold resB newR; simp⟩)
          · show lastJ s.rows < s.last + 1
            rcases List.eq_nil_or_concat s.rows with e | ⟨l', y, e⟩
            · rw [e]; show (0 : Int) < _; have := h.last; omega
            · simp only [List.concat_eq_append] at e
              rw [e, lastJ_snoc]
              have := (hg.1.one y (by rw [e]; simp)).2.1
              omega
          · have := List.find?_eq_none.1 hf x hx
            simp only [decide_eq_true_eq] at this
            exact this e
end Jb
end Go.Proofs.YtlahficmkfgooaaGreat


/- The walks of the document's answer on whether an op has its form. No condition but that numbers fit their kinds. -/
namespace Go.Proofs.YtlahficmkfgooaaGreat
open Go.RowKit Cd
set_option linter.unusedVariables false
theorem rreg_any (x : Int) (w : World) : Calls Tryz.prog 145 #[.int .i64 x] w fun e w' => e = .returned (.bool (regB x)) ∧ w = w' := by
  by_cases h0 : x < 0
  · have e : regB x = false := by unfold regB; rw [Bool.and_eq_false_iff, decide_eq_false_iff_not]; omega
    have h0' : decide (0 ≤ x) = false := decide_eq_false (by omega)
    rw [e]
    clear e h0
    go_enter Tryz.func145, Tryz.ntmps145
    go_wp2
    go_ret
    exact ⟨rfl, rfl⟩
  · have h0' : decide (0 ≤ x) = true := decide_eq_true (by omega)
    by_cases h1 : 16 < x
    · have e : regB x = false := by unfold regB; rw [Bool.and_eq_false_iff, decide_eq_false_iff_not, decide_eq_false_iff_not]; omega
      have h1' : decide (x ≤ 16) = false := decide_eq_false (by omega)
      rw [e]
      clear e h0
      go_enter Tryz.func145, Tryz.ntmps145
      go_wp2
      go_ret
      exact ⟨rfl, rfl⟩
    · have e : regB x = true := by simp [regB]; omega
      have h1' : decide (x ≤ 16) = true := decide_eq_true (by omega)
      rw [e]
      clear e h0 h1
      go_enter Tryz.func145, Tryz.ntmps145
      go_wp2
      go_ret
      exact ⟨rfl, rfl⟩
def HasT (k : Int) : Value := .tuple #[.bool (kd k), .bool (ka k), .bool (kb k), .bool (kn k)]
theorem ret4 {P : Program} {fn : Func} {R : Ending → World → Prop} {a : Act} {t u v x : Tmp} {w : World} {r : Value} (h : fn.results = #[.tmp t, .tmp u, .tmp v, .tmp x])
    (hr : Value.tuple #[a.tmps.getD t undef, a.tmps.getD u undef, a.tmps.getD v undef, a.tmps.getD x undef] = r) (hd : a.defers = []) (hR : R (.returned r) w) : bodyPost P fn R .ret a w :=
  bodyPost_ret (v := r) (by subst hr; simp [results, h]) hd hR
set_option maxRecDepth 100000 in
set_option maxHeartbeats 8000000 in
theorem rhas_any (k : Int) (hk : U8 k) (w : World) : Calls Tryz.prog 123 #[.int .u8 k] w fun e w' => e = .returned (HasT k) ∧ w = w' := by
  have : k = 0 ∨ k = 1 ∨ k = 2 ∨ k = 3 ∨ k = 4 ∨ k = 5 ∨ k = 6 ∨ k = 7 ∨ k = 8 ∨ k = 9 ∨ k = 10 ∨ k = 11 ∨ k = 12 ∨ k = 13 ∨ k = 14 ∨ 15 ≤ k := by unfold U8 at hk; omega
  clear hk
  rcases this with rfl | rfl | rfl | rfl | rfl | rfl | rfl | rfl | rfl | rfl | rfl | rfl | rfl | rfl | rfl | h
  · as_aux_lemma =>
    have e : HasT 0 = .tuple #[.bool (kd 0), .bool (ka 0), .bool (kb 0), .bool (kn 0)] := rfl
    simp [kd, ka, kb, kn] at e
    go_enter Tryz.func123, Tryz.ntmps123
    go_wp2
    try simp only [Exit.inBlock, Exit.then]
    exact ret4 rfl rfl rfl ⟨congrArg Ending.returned e.symm, rfl⟩
  · as_aux_lemma =>
    have e : HasT 1 = .tuple #[.bool (kd 1), .bool (ka 1), .bool (kb 1), .bool (kn 1)] := rfl
    simp [kd, ka, kb, kn] at e
    go_enter Tryz.func123, Tryz.ntmps123
    go_wp2
    try simp only [Exit.inBlock, Exit.then]
    exact ret4 rfl rfl rfl ⟨congrArg Ending.returned e.symm, rfl⟩
  · as_aux_lemma =>
    have e : HasT 2 = .tuple #[.bool (kd 2), .bool (ka 2), .bool (kb 2), .bool (kn 2)] := rfl
    simp [kd, ka, kb, kn] at e
    go_enter Tryz.func123, Tryz.ntmps123
    go_wp2
    try simp only [Exit.inBlock, Exit.then]
    exact ret4 rfl rfl rfl ⟨congrArg Ending.returned e.symm, rfl⟩
  · as_aux_lemma =>
    have e : HasT 3 = .tuple #[.bool (kd 3), .bool (ka 3), .bool (kb 3), .bool (kn 3)] := rfl
    simp [kd, ka, kb, kn] at e
    go_enter Tryz.func123, Tryz.ntmps123
    go_wp2
    try simp only [Exit.inBlock, Exit.then]
    exact ret4 rfl rfl rfl ⟨congrArg Ending.returned e.symm, rfl⟩
  · as_aux_lemma =>
    have e : HasT 4 = .tuple #[.bool (kd 4), .bool (ka 4), .bool (kb 4), .bool (kn 4)] := rfl
    simp [kd, ka, kb, kn] at e
    go_enter Tryz.func123, Tryz.ntmps123
    go_wp2
    try simp only [Exit.inBlock, Exit.then]
    exact ret4 rfl rfl rfl ⟨congrArg Ending.returned e.symm, rfl⟩
  · as_aux_lemma =>
    have e : HasT 5 = .tuple #[.bool (kd 5), .bool (ka 5), .bool (kb 5), .bool (kn 5)] := rfl
    simp [kd, ka, kb, kn] at e
    go_enter Tryz.func123, Tryz.ntmps123
    go_wp2
    try simp only [Exit.inBlock, Exit.then]
    exact ret4 rfl rfl rfl ⟨congrArg Ending.returned e.symm, rfl⟩
  · as_aux_lemma =>
    have e : HasT 6 = .tuple #[.bool (kd 6), .bool (ka 6), .bool (kb 6), .bool (kn 6)] := rfl
    simp [kd, ka, kb, kn] at e
    go_enter Tryz.func123, Tryz.ntmps123
    go_wp2
    try simp only [Exit.inBlock, Exit.then]
    exact ret4 rfl rfl rfl ⟨congrArg Ending.returned e.symm, rfl⟩
  · as_aux_lemma =>
    have e : HasT 7 = .tuple #[.bool (kd 7), .bool (ka 7), .bool (kb 7), .bool (kn 7)] := rfl
    simp [kd, ka, kb, kn] at e
    go_enter Tryz.func123, Tryz.ntmps123
    go_wp2
    try simp only [Exit.inBlock, Exit.then]
    exact ret4 rfl rfl rfl ⟨congrArg Ending.returned e.symm, rfl⟩
  · as_aux_lemma =>
    have e : HasT 8 = .tuple #[.bool (kd 8), .bool (ka 8), .bool (kb 8), .bool (kn 8)] := rfl
    simp [kd, ka, kb, kn] at e
    go_enter Tryz.func123, Tryz.ntmps123
    go_wp2
    try simp only [Exit.inBlock, Exit.then]
    exact ret4 rfl rfl rfl ⟨congrArg Ending.returned e.symm, rfl⟩
  · as_aux_lemma =>
    have e : HasT 9 = .tuple #[.bool (kd 9), .bool (ka 9), .bool (kb 9), .bool (kn 9)] := rfl
    simp [kd, ka, kb, kn] at e
    go_enter Tryz.func123, Tryz.ntmps123
    go_wp2
    try simp only [Exit.inBlock, Exit.then]
    exact ret4 rfl rfl rfl ⟨congrArg Ending.returned e.symm, rfl⟩
  · as_aux_lemma =>
    have e : HasT 10 = .tuple #[.bool (kd 10), .bool (ka 10), .bool (kb 10), .bool (kn 10)] := rfl
    simp [kd, ka, kb, kn] at e
    go_enter Tryz.func123, Tryz.ntmps123
    go_wp2
    try simp only [Exit.inBlock, Exit.then]
    exact ret4 rfl rfl rfl ⟨congrArg Ending.returned e.symm, rfl⟩
  · as_aux_lemma =>
    have e : HasT 11 = .tuple #[.bool (kd 11), .bool (ka 11), .bool (kb 11), .bool (kn 11)] := rfl
    simp [kd, ka, kb, kn] at e
    go_enter Tryz.func123, Tryz.ntmps123
    go_wp2
    try simp only [Exit.inBlock, Exit.then]
    exact ret4 rfl rfl rfl ⟨congrArg Ending.returned e.symm, rfl⟩
  · as_aux_lemma =>
    have e : HasT 12 = .tuple #[.bool (kd 12), .bool (ka 12), .bool (kb 12), .bool (kn 12)] := rfl
    simp [kd, ka, kb, kn] at e
    go_enter Tryz.func123, Tryz.ntmps123
    go_wp2
    try simp only [Exit.inBlock, Exit.then]
    exact ret4 rfl rfl rfl ⟨congrArg Ending.returned e.symm, rfl⟩
  · as_aux_lemma =>
    have e : HasT 13 = .tuple #[.bool (kd 13), .bool (ka 13), .bool (kb 13), .bool (kn 13)] := rfl
    simp [kd, ka, kb, kn] at e
    go_enter Tryz.func123, Tryz.ntmps123
    go_wp2
    try simp only [Exit.inBlock, Exit.then]
    exact ret4 rfl rfl rfl ⟨congrArg Ending.returned e.symm, rfl⟩
  · as_aux_lemma =>
    have e : HasT 14 = .tuple #[.bool (kd 14), .bool (ka 14), .bool (kb 14), .bool (kn 14)] := rfl
    simp [kd, ka, kb, kn] at e
    go_enter Tryz.func123, Tryz.ntmps123
    go_wp2
    try simp only [Exit.inBlock, Exit.then]
    exact ret4 rfl rfl rfl ⟨congrArg Ending.returned e.symm, rfl⟩
  · have h9 : ¬ k ≤ 9 := by omega
    have e1 : ∀ n : Int, n ≤ 14 → (k == n) = false := fun n hn => by simp; omega
    have f1 := decide_eq_false h9
    have e : HasT k = .tuple #[.bool false, .bool false, .bool false, .bool false] := by
      unfold HasT kd ka kb kn
      rw [f1, e1 12 (by omega), e1 11 (by omega), e1 14 (by omega), e1 1 (by omega), e1 10 (by omega)]
      simp
    have g1 : decide (1 ≤ k) = true := decide_eq_true (by omega)
    have g2 : decide (2 ≤ k) = true := decide_eq_true (by omega)
    have g3 : decide (3 ≤ k) = true := decide_eq_true (by omega)
    have k12 := e1 12 (by omega)
    have k11 := e1 11 (by omega)
    have k14 := e1 14 (by omega)
    have k1 := e1 1 (by omega)
    have k10 := e1 10 (by omega)
    clear e1 h9
    go_enter Tryz.func123, Tryz.ntmps123
    go_wp2
    try simp only [Exit.inBlock, Exit.then]
    exact ret4 rfl rfl rfl ⟨congrArg Ending.returned e.symm, rfl⟩
end Go.Proofs.YtlahficmkfgooaaGreat
