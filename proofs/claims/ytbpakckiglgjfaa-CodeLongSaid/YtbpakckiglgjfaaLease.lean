
/- Leases, in plain terms, and as the program's and the document's cells hold them. No condition. -/
import Derived.Test.YtbpakckiglgjfaaHeap
namespace Go.Proofs.Ytbpakckiglgjfaa
open Go.RowKit
set_option linter.unusedVariables false
namespace Lea

/-! ### Rows of equal length, one behind the other -/
theorem flat_get {α β : Type} (f : α → List β) (m : Nat) (hf : ∀ x, (f x).length = m) : ∀ (l : List α) (i k : Nat) (h : i < l.length), k < m → (l.flatMap f)[i * m + k]? = (f l[i])[k]? := by
  intro l
  induction l with
  | nil => intro i k h; simp at h
  | cons x l ih =>
    intro i k h hk
    rw [List.flatMap_cons]
    cases i with
    | zero => rw [List.getElem?_append_left (by rw [hf]; omega)]; simp
    | succ i =>
      rw [List.getElem?_append_right (by rw [hf, Nat.succ_mul]; omega), hf, show (i + 1) * m + k - m = i * m + k from by rw [Nat.succ_mul]; omega]
      exact ih i k (by simpa using h) hk
theorem flat_len {α β : Type} (f : α → List β) (m : Nat) (hf : ∀ x, (f x).length = m) (l : List α) : (l.flatMap f).length = l.length * m := by
  induction l with
  | nil => simp
  | cons x l ih => rw [List.flatMap_cons, List.length_append, hf, ih, List.length_cons, Nat.succ_mul]; omega
theorem flat_set {α β : Type} (f : α → List β) (m : Nat) (hf : ∀ x, (f x).length = m) : ∀ (l : List α) (i k : Nat) (h : i < l.length) (v : β) (y : α), k < m → f y = (f l[i]).set k v →
    (l.flatMap f).set (i * m + k) v = (l.set i y).flatMap f := by
  intro l
  induction l with
  | nil => intro i k h; simp at h
  | cons x l ih =>
    intro i k h v y hk hy
    cases i with
    | zero =>
      simp only [List.set_cons_zero, List.flatMap_cons, Nat.zero_mul, Nat.zero_add]
      rw [List.set_append_left _ _ (by rw [hf]; omega)]
      simp only [List.getElem_cons_zero] at hy
      rw [hy]
    | succ i =>
      simp only [List.set_cons_succ, List.flatMap_cons]
      rw [List.set_append_right _ _ (by rw [hf, Nat.succ_mul]; omega), hf, show (i + 1) * m + k - m = i * m + k from by rw [Nat.succ_mul]; omega]
      rw [ih i k (by simpa using h) v y hk (by simpa using hy)]

/-! ### The program's leases -/
structure Seat where
  w : Int
  inc : Int
  til : Int
  alive : Bool
  seen : Int
def seatL (s : Seat) : List Value := [.int .i64 s.w, .int .u64 s.inc, .int .i64 s.til, .bool s.alive, .int .u64 s.seen]
theorem seatL_len (s : Seat) : (seatL s).length = 5 := rfl
def cells (len : Int) (l : List Seat) : Array Value := (.int .i64 len :: l.flatMap seatL).toArray
theorem cells_get {len : Int} {l : List Seat} {i : Nat} (h : i < l.length) {k : Nat} (hk : k < 5) : (cells len l)[1 + i * 5 + k]? = (seatL l[i])[k]? := by
  unfold cells
  rw [List.getElem?_toArray, show 1 + i * 5 + k = (i * 5 + k) + 1 from by omega, List.getElem?_cons_succ]
  exact flat_get seatL 5 seatL_len l i k h hk
theorem cells_set {len : Int} {l : List Seat} {i : Nat} (h : i < l.length) {k : Nat} (hk : k < 5) (v : Value) (y : Seat) (hy : seatL y = (seatL l[i]).set k v) :
    (cells len l).setIfInBounds (1 + i * 5 + k) v = cells len (l.set i y) := by
  unfold cells
  rw [List.setIfInBounds_toArray, show 1 + i * 5 + k = (i * 5 + k) + 1 from by omega, List.set_cons_succ, flat_set seatL 5 seatL_len l i k h v y hk hy]
theorem cells_store {len : Int} {l : List Seat} {i : Nat} (h : i < l.length) (w inc til : Int) (alive : Bool) (seen : Int) :
    (((((cells len l).setIfInBounds (1 + i * 5) (.int .i64 w)).setIfInBounds (1 + i * 5 + 1) (.int .u64 inc)).setIfInBounds (1 + i * 5 + 2) (.int .i64 til)).setIfInBounds (1 + i * 5 + 3) (.bool alive)).setIfInBounds (1 + i * 5 + 4) (.int .u64 seen) =
      cells len (l.set i ⟨w, inc, til, alive, seen⟩) := by
  have e0 := cells_set (len := len) (l := l) h (k := 0) (by omega) (.int .i64 w) { l[i] with w := w } rfl
  rw [Nat.add_zero] at e0
  rw [e0]
  rw [cells_set (len := len) (l := l.set i { l[i] with w := w }) (i := i) (by simpa using h) (k := 1) (by omega) (.int .u64 inc) { l[i] with w := w, inc := inc } (by simp [seatL]), List.set_set]
  rw [cells_set (len := len) (l := l.set i _) (i := i) (by simpa using h) (k := 2) (by omega) (.int .i64 til) { l[i] with w := w, inc := inc, til := til } (by simp [seatL]), List.set_set]
  rw [cells_set (len := len) (l := l.set i _) (i := i) (by simpa using h) (k := 3) (by omega) (.bool alive) { l[i] with w := w, inc := inc, til := til, alive := alive } (by simp [seatL]), List.set_set]
  rw [cells_set (len := len) (l := l.set i _) (i := i) (by simpa using h) (k := 4) (by omega) (.int .u64 seen) ⟨w, inc, til, alive, seen⟩ (by simp [seatL]), List.set_set]
end Lea
end Go.Proofs.Ytbpakckiglgjfaa
