/- The law's look-ups in its three maps. No condition. -/
import Derived.Test.YtppkfpphefonoaaFairW
namespace Go.Proofs.Ytppkfpphefonoaa
open Go.RowKit Lea Go.Maps
set_option linter.unusedVariables false
theorem onQ_ok {l : List Seat} {x : Int} (h : onQ l x = true) : okW x = true ∧ (sat l x).alive = true := by
  unfold onQ at h; simpa using h
theorem lit_inj {q : IntKind} {a b : Int} (h : (DataW.lit (.int q a) : DU) = .lit (.int q b)) : a = b := by cases h; rfl
section
variable {W wr : World} {b h s i : Nat} {N : Nat} {MH MS MI : DU} {l : List Seat}
theorem lookH (o : HM wr h N MH) (F : LFair l MH MS MI) {x : Int} (hx : (Lit.int .i64 x).wf = true) :
    (Instr.lookup 53 (.map (some h)) (.int .i64 x) true).run Try.prog wr = .ok (.tuple #[.int .i64 (if onQ l x = true then (sat l x).til else 0), .bool (onQ l x)]) wr := by
  obtain ⟨v, ps, hrun, hv⟩ := o.look_ok kdI Try.underlying53 (zI wr) (zd := vT 0) (zp := []) (plainElem_int Try.underlying2 (by decide)) (keyI hx)
  obtain ⟨c, rfl, hc, _⟩ := plainElem_int_inv Try.underlying2 hv
  rw [hrun, F.hHas]
  have h1 : MH.atKey (KI x) (vT 0) = .lit (.int .i64 c) := congrArg Prod.fst hc
  by_cases hq : onQ l x = true
  · rw [F.hAt x _ hq] at h1
    rw [if_pos hq, lit_inj h1]
  · have hq' : onQ l x = false := by simpa using hq
    rw [atKey_of_not_has (by rw [F.hHas]; exact hq')] at h1
    rw [if_neg hq, ← lit_inj h1]
theorem lookS (o : UM wr s N MS) (F : LFair l MH MS MI) {x : Int} (hx : (Lit.int .i64 x).wf = true) (hw : okW x = true) :
    (Instr.lookup 54 (.map (some s)) (.int .i64 x) false).run Try.prog wr = .ok (.int .u64 (sat l x).seen) wr := by
  obtain ⟨c, hrun, hat, _⟩ := o.lookup_int kdI Try.underlying54 Try.underlying29 (zU wr) (keyI hx)
  have h1 := F.sAt x hw
  rw [hrun, lit_inj (hat.symm.trans h1)]
theorem lookI (o : UM wr i N MI) (F : LFair l MH MS MI) {x : Int} (hx : (Lit.int .i64 x).wf = true) (hq : onQ l x = true) :
    (Instr.lookup 54 (.map (some i)) (.int .i64 x) false).run Try.prog wr = .ok (.int .u64 (sat l x).inc) wr := by
  obtain ⟨c, hrun, hat, _⟩ := o.lookup_int kdI Try.underlying54 Try.underlying29 (zU wr) (keyI hx)
  have h1 := F.iAt x hq
  rw [hrun, lit_inj (hat.symm.trans h1)]
theorem sat_til (o : HM wr h N MH) (F : LFair l MH MS MI) {x : Int} (hq : onQ l x = true) : -9223372036854775808 ≤ (sat l x).til ∧ (sat l x).til ≤ 9223372036854775807 := by
  have hw := okW_t (onQ_ok hq).1
  obtain ⟨v, ps, _, hv⟩ := o.look_ok kdI Try.underlying53 (zI wr) (zd := vT 0) (zp := []) (plainElem_int Try.underlying2 (by decide)) (keyI (x := x) (WalkArith.wf_i64 (by omega)))
  obtain ⟨c, rfl, hc, hwf⟩ := plainElem_int_inv Try.underlying2 hv
  have h1 : MH.atKey (KI x) (vT 0) = .lit (.int .i64 c) := congrArg Prod.fst hc
  rw [F.hAt x _ hq] at h1
  rw [lit_inj h1]
  exact bounds_i64 hwf
end
namespace Lea
def stA (s : StepV) : Array Value := #[.int .i64 s.d, .int .i64 s.w, .int .i64 s.v, .int .u64 s.inc, .int .i64 s.now]
end Lea
theorem st_cells {w : World} {t : Nat} {s : StepV} (h : Blk w t 37 (stA s)) : w.cell? ⟨t, 0, none⟩ = some (.int .i64 s.d) ∧ w.cell? ⟨t, 1, none⟩ = some (.int .i64 s.w) ∧ w.cell? ⟨t, 2, none⟩ = some (.int .i64 s.v) ∧ w.cell? ⟨t, 3, none⟩ = some (.int .u64 s.inc) ∧ w.cell? ⟨t, 4, none⟩ = some (.int .i64 s.now) :=
  ⟨h.cell 0, h.cell 1, h.cell 2, h.cell 3, h.cell 4⟩
def FRel (W : World) (b h s i : Nat) (len : Int) (n : Nat) (u : Value) (wr : World) : Prop :=
  ∃ (k : Nat) (l : List Seat) (MH MS MI : DU), k ≤ n ∧ u = .int .i64 k ∧ FW W wr b h s i len l (3 * k) MH MS MI
theorem joinC0 {l : List Seat} {n inc now : Int} (h : joinC l n inc now = 0) : okW n = true ∧ okT now = true ∧ (sat l n).seen ≤ inc := by
  unfold joinC at h
  split at h
  · rename_i hh
    split at h
    · omega
    · simp only [Bool.and_eq_true] at hh
      exact ⟨hh.1.1, hh.2, by omega⟩
  · omega
theorem beatC0 {l : List Seat} {n inc now : Int} (h : beatC l n inc now = 0) : onQ l n = true ∧ okT now = true ∧ (sat l n).inc = inc := by
  unfold beatC at h
  split at h
  · rename_i hh
    split at h
    · omega
    · split at h
      · rename_i h3
        simp only [Bool.and_eq_true] at hh
        exact ⟨by unfold onQ; rw [hh.1, h3.1]; rfl, hh.2, h3.2⟩
      · omega
  · omega
end Go.Proofs.Ytppkfpphefonoaa
