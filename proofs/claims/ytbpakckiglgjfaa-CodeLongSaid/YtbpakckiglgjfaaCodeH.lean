
/- The map of what kinds have: 'of', 'has', and what a look into it yields. No condition. -/
import Derived.Test.YtbpakckiglgjfaaCodeD
import Derived.Maps.OwnSet
namespace Go.Proofs.Ytbpakckiglgjfaa
open Go.RowKit Cd Go.Maps
set_option linter.unusedVariables false
namespace Cd
abbrev DU := DataW Unit
def KU (x : Int) : Lit := .int .u8 x
theorem ku_ne {x y : Int} (h : x ≠ y) : KU x ≠ KU y := fun e => h (by unfold KU at e; injection e)
theorem ku_key (x : Int) : WideAt.IsKeyLit (KU x) := by unfold KU; trivial
def pv (d a b n : Bool) : Value := .agg #[.bool d, .bool a, .bool b, .bool n]
def pd (d a b n : Bool) : DU := .agg [.lit (.bool d), .lit (.bool a), .lit (.bool b), .lit (.bool n)]
def partE (v : Value) : Option (DU × List MemPlace) :=
  match v with
  | .agg cs => match cs.toList with
    | [.bool d, .bool a, .bool b, .bool n] => some (pd d a b n, [])
    | _ => none
  | _ => none
theorem partE_mk (d a b n : Bool) : partE (pv d a b n) = some (pd d a b n, []) := rfl
theorem partE_inv {v : Value} {d a b n : Bool} {ps : List MemPlace} (h : partE v = some (pd d a b n, ps)) : v = pv d a b n := by
  unfold partE at h
  split at h
  · rename_i cs
    split at h
    · rename_i d' a' b' n' e
      simp only [Option.some.injEq, Prod.mk.injEq, pd, DataW.agg.injEq, List.cons.injEq, DataW.lit.injEq, Lit.bool.injEq, and_true] at h
      obtain ⟨⟨rfl, rfl, rfl, rfl⟩, _⟩ := h
      have : cs = #[.bool d', .bool a', .bool b', .bool n'] := by rw [← Array.toArray_toList (xs := cs), e]
      rw [this]; rfl
    · cases h
  · cases h
def st (D : DU) (xs : List Int) (d a b n : Bool) : DU := xs.foldl (fun D x => D.put (KU x) (pd d a b n)) D
theorem st_take {D : DU} {xs : List Int} {d a b n : Bool} {i : Nat} (h : i < xs.length) : st D (xs.take (i + 1)) d a b n = (st D (xs.take i) d a b n).put (KU xs[i]) (pd d a b n) := by
  unfold st; rw [List.take_succ_eq_append_getElem h, List.foldl_append]; rfl
/-- The map, as it reads. -/
def pm : DU := st (st (st (st (st (st (st (st (.map []) [1] true false false true) [2] true true false false) [3, 4, 5, 6, 7, 8, 9] true true true false) [10] false false false true) [11] false true false true) [12] true true false true) [13] false false false false) [14] false true false false
theorem pm_has (k : Int) : has pm (KU k) = known k := by
  by_cases h : 1 ≤ k ∧ k ≤ 14
  · have : k = 1 ∨ k = 2 ∨ k = 3 ∨ k = 4 ∨ k = 5 ∨ k = 6 ∨ k = 7 ∨ k = 8 ∨ k = 9 ∨ k = 10 ∨ k = 11 ∨ k = 12 ∨ k = 13 ∨ k = 14 := by omega
    rcases this with rfl | rfl | rfl | rfl | rfl | rfl | rfl | rfl | rfl | rfl | rfl | rfl | rfl | rfl <;> (show _ = _; kernel_rfl)
  · have h1 : known k = false := by unfold known; rw [Bool.and_eq_false_iff, decide_eq_false_iff_not, decide_eq_false_iff_not]; omega
    rw [h1]
    simp only [pm, st, List.foldl_cons, List.foldl_nil]
    iterate 14 rw [has_put_other (ku_ne (by omega))]
    rfl
theorem pm_at (k : Int) : pm.atKey (KU k) (pd false false false false) = pd (kd k) (ka k) (kb k) (kn k) := by
  by_cases h : 1 ≤ k ∧ k ≤ 14
  · have : k = 1 ∨ k = 2 ∨ k = 3 ∨ k = 4 ∨ k = 5 ∨ k = 6 ∨ k = 7 ∨ k = 8 ∨ k = 9 ∨ k = 10 ∨ k = 11 ∨ k = 12 ∨ k = 13 ∨ k = 14 := by omega
    rcases this with rfl | rfl | rfl | rfl | rfl | rfl | rfl | rfl | rfl | rfl | rfl | rfl | rfl | rfl <;> (show _ = _; kernel_rfl)
  · have e : ∀ n : Int, 1 ≤ n → n ≤ 14 → ¬ k = n := fun n h1 h2 e => h ⟨by omega, by omega⟩
    have e1 : ∀ n : Int, 1 ≤ n → n ≤ 14 → (k == n) = false := fun n h1 h2 => by simpa using e n h1 h2
    have h1 : kd k = false := by unfold kd; rw [e1 12 (by omega) (by omega), Bool.or_false, Bool.and_eq_false_iff, decide_eq_false_iff_not, decide_eq_false_iff_not]; omega
    have h2 : ka k = false := by unfold ka; rw [e1 12 (by omega) (by omega), e1 11 (by omega) (by omega), e1 14 (by omega) (by omega), Bool.or_false, Bool.or_false, Bool.or_false, Bool.and_eq_false_iff, decide_eq_false_iff_not, decide_eq_false_iff_not]; omega
    have h3 : kb k = false := by unfold kb; rw [Bool.and_eq_false_iff, decide_eq_false_iff_not, decide_eq_false_iff_not]; omega
    have h4 : kn k = false := by unfold kn; rw [e1 1 (by omega) (by omega), e1 10 (by omega) (by omega), e1 11 (by omega) (by omega), e1 12 (by omega) (by omega)]; rfl
    rw [h1, h2, h3, h4]
    simp only [pm, st, List.foldl_cons, List.foldl_nil]
    iterate 14 rw [atKey_put_other (ku_ne (by omega))]
    rfl
end Cd
theorem kdU : Keyed Try.prog 5 := int_keyed Try.underlying5
theorem keyU {x : Int} (h : U8 x) : keyOf Try.prog 5 (.int .u8 x) = some (KU x) := keyOf_int_mk Try.underlying5 (WalkArith.wf_u8 (by unfold U8 at h; omega))
abbrev PM (w : World) (b n : Nat) (D : DU) : Prop := w.ownsMap Try.prog 5 partE b n D
theorem zP (w : World) : (zeroValue 78).run Try.prog w = .ok (pv false false false false) w := Try.zeroValue78 w
/-- Block b is the map. -/
def Look (w : World) (b : Nat) : Prop := PM w b 14 pm
theorem Look.below {w w' : World} {b : Nat} (h : Look w b) (hb : Below w.heap.size w w') : Look w' b := h.kept (row := none) ⟨hb.os, hb.tape, hb.output, hb.size, fun i hi _ => hb.block i hi⟩ (by simp)
theorem Look.alloc {w : World} {b : Nat} (h : Look w b) (o : Obj) : Look (w.alloc o) b := h.below ((Below.refl _ _).alloc (Nat.le_refl _) o)
theorem Look.ok {w : World} {b : Nat} (h : Look w b) {k : Int} (hk : U8 k) :
    (Instr.lookup 79 (.map (some b)) (.int .u8 k) true).run Try.prog w = .ok (.tuple #[.agg #[.bool (kd k), .bool (ka k), .bool (kb k), .bool (kn k)], .bool (known k)]) w := by
  obtain ⟨v, ps, hr, hv⟩ := World.ownsMap.look_ok h kdU Try.underlying79 (zP w) (partE_mk _ _ _ _) (keyU hk)
  rw [pm_at] at hv
  rw [hr, partE_inv hv, pm_has]
  rfl
theorem Look.at {w : World} {b : Nat} (h : Look w b) {k : Int} (hk : U8 k) :
    (Instr.lookup 79 (.map (some b)) (.int .u8 k) false).run Try.prog w = .ok (.agg #[.bool (kd k), .bool (ka k), .bool (kb k), .bool (kn k)]) w := by
  obtain ⟨v, ps, hr, hv⟩ := World.ownsMap.lookup h kdU Try.underlying79 (zP w) (partE_mk _ _ _ _) (keyU hk)
  rw [pm_at] at hv
  rw [hr, partE_inv hv]
  rfl
end Go.Proofs.Ytbpakckiglgjfaa
