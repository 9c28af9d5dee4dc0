
/- Small laws over any program: a row of the call's own is appended to, or becomes a string. No condition. -/
import Derived.Test.YtfjadphgjjlhiaaReg2
import Derived.WalkKit
import Derived.WalkSpells
import Derived.WalkLawsBesides
import Derived.Laws.IdiomStrings
import Derived.Lib.Hide
import Derived.RegionTactic
import Derived.Deep.RegionWith
import Derived.Deep.QuietTactic
import Derived.BigQuiet
import Derived.Deep.LoopGhost
import Derived.Deep.DeepFit
import Derived.Deep.DeepCutAuto
import Derived.Deep.RegionLaw
import Derived.Deep.RegionHeld3
namespace Go.RowKit
/-- One call more. -/
theorem Below.step {w w1 w2 : World} (h : Below w.heap.size w w1) (k : Below w1.heap.size w1 w2) : Below w.heap.size w w2 := h.trans (k.mono h.size)
end Go.RowKit
namespace Go.Proofs.Ytfjadphgjjlhiaa
open Go.RowKit

/-- What a type's row of the table says: its zero value, its cells, its bytes. -/
def Info (P : Program) (e : TypeId) (z : Value) (size bytes : Nat) : Prop :=
  (P.info? e).map (fun i => (i.zero, i.size, i.bytes)) = some (some z, size, bytes)

/-! Texts: Go's '==' as the walk writes it. -/
theorem str_t {a b : ByteArray} (h : (a.toList == b.toList) = true) : a = b := by
  rw [ByteArray.toList_eq, ByteArray.toList_eq] at h
  exact ByteArray.ext (Array.toList_inj.1 (by simpa using h))
theorem str_f {a b : ByteArray} (h : (a.toList == b.toList) = false) : ¬ a = b := by
  intro e; subst e; simp at h
theorem str_nt {a b : ByteArray} (h : (!(a.toList == b.toList)) = true) : ¬ a = b := str_f (by simpa using h)
theorem str_nf {a b : ByteArray} (h : (!(a.toList == b.toList)) = false) : a = b := str_t (by simpa using h)
theorem str_of {a b : ByteArray} (h : a = b) : (a.toList == b.toList) = true := by subst h; simp
theorem str_ne {a b : ByteArray} (h : ¬ a = b) : (a.toList == b.toList) = false := by
  cases hh : (a.toList == b.toList) with
  | false => rfl
  | true => exact absurd (str_t hh) h

theorem bcell {W w1 : World} (hb : Below W.heap.size W w1) : (∀ b o, b < W.heap.size → w1.cell? ⟨b, o, none⟩ = W.cell? ⟨b, o, none⟩) ∧ (∀ b o, b < W.heap.size → w1.frozen? ⟨b, o, none⟩ = W.frozen? ⟨b, o, none⟩) :=
  ⟨fun b o h => hb.cell (p := ⟨b, o, none⟩) h, fun b o h => hb.frozen (p := ⟨b, o, none⟩) h⟩

/-- 'string(b)', b a row of one byte that was laid just now. -/
theorem run_conv1 {P : Program} {src dst e : TypeId} (hs : P.underlying src = some (.slice e)) (he : P.underlying e = some (.int .u8)) (hd : P.underlying dst = some .string)
    (W : World) (b : Nat) (v : Int) (h : W.cell? ⟨b, 0, none⟩ = some (.int .u8 v)) : (convert src dst (.slice (some ⟨b, 0, none⟩) 1 1)).run P W = .ok (.string ⟨#[UInt8.ofNat v.toNat]⟩) W := by
  rw [run_convert_bytes_string W src dst e _ 1 1 hs he hd]
  have hl : (loadCells ⟨b, 0, none⟩ 1).run P W = .ok ([v].map (Value.int .u8)).toArray W := by
    have := run_loadCells_list (P := P) W ⟨b, 0, none⟩ ([v].map (Value.int .u8)) (fun j u hj => by
      cases j with
      | zero => simp at hj; subst hj; simpa [Addr.add] using h
      | succ j => simp at hj)
    simpa using this
  rw [run_bytesToString W _ 1 1 [v] hl]
  rfl

section
variable {P : Program} {ops : Array Oper} {rest : List Oper} {o : Oper} {a : Act} {Q : Exit → Act → World → Prop}

/-- 's = append(s, x)', x one new cell that was laid just now. -/
theorem wpl_append_one {w0 : World} {y : Value} {e' : TypeId} {s x : Operand} {t e : TypeId} {z : Value} {bytes : Nat} {base : Nat} {v : Value} {n : Nat} {xs : List Value}
    (hgd : o.guard = none) (ho : o.op = .call { callee := .builtin .append, args := #[s, x], argTypes := #[t, t] })
    (hx : a.eval x = .slice (some ⟨w0.heap.size, 0, none⟩) 1 1) (hs : a.eval s = v)
    (ht : P.underlying t = some (.slice e)) (hi : Info P e z 1 bytes) (hz : z.cells.size = 1) (hy : y.oneCell' = true)
    (hown : w0.ownsRow base e 1 v n xs) (hn : n < 2147483648) (hb : bytes ≤ 1024) (hbase : base ≤ w0.heap.size)
    (h : ∀ v' w', w'.ownsRow base e 1 v' (n + 1) (xs ++ [y]) → Below base w0 w' → wpList P ops Q rest (a.put o.dst v') w') :
    wpList P ops Q (o :: rest) a (w0.alloc (.cells #[y] e')) := by
  obtain ⟨i, hi1, hi2, hi3, hi4⟩ := info_parts hi
  refine wpList_append_own _ hgd s x t ho base e i z 1 bytes ht hi1 hi2 hi3 hi4 hz (by decide) v n xs hs (hown.alloc _) _ 1 1 [y] hx rfl (cell_one_new _ _ _) (by simpa using hy)
    (by unfold maxLen; omega) (by have : (n + 1) * bytes ≤ 2147483648 * 1024 := Nat.mul_le_mul (by omega) hb; omega) (by simp; omega) ?_
  intro v' w' h1 h2 _
  refine h v' w' h1 (((Below.refl _ _).alloc hbase _).grown h2 (by simp; omega) ?_)
  intro k hk
  exact (hown.lt k hk).1

/-- 'string(b)', b a row of bytes of the call's own. -/
theorem wpl_bytes_string {w : World} {x : Operand} {src dst e : TypeId} {base : Nat} {v : Value} {n : Nat} (l : List UInt8)
    (hgd : o.guard = none) (ho : o.op = .convert src dst x) (hx : a.eval x = v)
    (hs : P.underlying src = some (.slice e)) (he : P.underlying e = some (.int .u8)) (hd : P.underlying dst = some .string)
    (hown : w.ownsRow base e 1 v n (l.map fun b => .int .u8 b.toNat))
    (h : wpList P ops Q rest (a.put o.dst (.string ⟨l.toArray⟩)) w) : wpList P ops Q (o :: rest) a w := by
  have hr : (convert src dst v).run P w = .ok (.string ⟨l.toArray⟩) w := by
    have hl : l.length = n := by simpa using hown.1
    rcases hown.2 with ⟨rfl, rfl⟩ | ⟨g, cap, cur, rfl, _, hg, _, _, _, htake⟩
    · have : l = [] := List.eq_nil_of_length_eq_zero hl
      subst this
      rw [run_convert_bytes_string w src dst e none 0 0 hs he hd]
      simp [Conv.bytesToString]
      rfl
    · subst hl
      refine run_convert_bytes_back w src dst e _ cap l hs he hd (fun j hj => ?_)
      have hadd : (⟨g, 0, none⟩ : Addr).add j = ⟨g, j, none⟩ := by unfold Addr.add; split <;> simp_all
      rw [hadd, cell_of_row w g j cur e (0, 0) hg]
      have h1 : (l.map fun b => Value.int .u8 (b.toNat : Int))[j]? = some (.int .u8 (l[j].toNat : Int)) := by simp [hj]
      rw [← htake, List.getElem?_take] at h1
      split at h1
      · simpa using h1
      · cases h1
  refine wpList_plain hgd fun K hK => ?_
  unfold Oper.wp execOp
  simp only [ho, hx, Sem.run_bind, hr, Result.andThen_ok, Sem.run_pure]
  exact hK _ _ h
end
end Go.Proofs.Ytfjadphgjjlhiaa
