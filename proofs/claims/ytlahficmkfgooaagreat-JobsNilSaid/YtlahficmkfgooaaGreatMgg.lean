import Derived.Test.YtlahficmkfgooaaGreatMga
import Derived.WalkKit
import Derived.Laws.OwnMore
import Derived.Deep.RegionLaw
import Derived.Test.YtlahficmkfgooaaGreatMgf

/- Rows of the call's own: appended to, told apart by their types, kept. No condition. -/
namespace Go.Proofs.YtlahficmkfgooaaGreat
open Go.RowKit
set_option linter.unusedVariables false
section
variable {P : Program} {ops : Array Oper} {rest : List Oper} {o : Oper} {a : Act} {Q : Exit → Act → World → Prop}
/-- 's = append(s, x)', x a row of cells that was laid just now; and what else is as it was. -/
theorem wpl_append_row2 {w0 : World} {ys : List Value} {e' : TypeId} {s x : Operand} {t e : TypeId} {z : Value} {size bytes : Nat} {base : Nat} {v : Value} {n : Nat} {xs : List Value} {nb : Nat}
    (hgd : o.guard = none) (ho : o.op = .call { callee := .builtin .append, args := #[s, x], argTypes := #[t, t] })
    (hx : a.eval x = .slice (some ⟨nb, 0, none⟩) 1 1) (hs : a.eval s = v)
    (ht : P.underlying t = some (.slice e)) (hi : Info P e z size bytes) (hz : z.cells.size = size) (hy : ys.all (·.oneCell') = true) (hl : ys.length = 1 * size) (hsz : 0 < size) (hb : bytes ≤ 1024)
    (hown : w0.ownsRow base e size v n xs) (hn : n < 2147483648) (hbase : base ≤ w0.heap.size) (hnb : nb = w0.heap.size)
    (h : ∀ v' w', w'.ownsRow base e size v' (n + 1) (xs ++ ys) → Only (fun k => v.ownBlock = some k) w0 w' → wpList P ops Q rest (a.put o.dst v') w') :
    wpList P ops Q (o :: rest) a (w0.alloc (.cells ys.toArray e')) := by
  subst hnb
  obtain ⟨i, hi1, hi2, hi3, hi4⟩ := info_parts hi
  refine wpList_append_own _ hgd s x t ho base e i z size bytes ht hi1 hi2 hi3 hi4 hz hsz v n xs hs (hown.alloc _) _ 1 1 ys hx hl ?_ (fun u hu => List.all_eq_true.1 hy u hu)
    (by unfold maxLen; omega) (by have : (n + 1) * bytes ≤ 2147483648 * 1024 := Nat.mul_le_mul (by omega) hb; omega) (by simp; omega) ?_
  · intro j u hj
    have : (⟨w0.heap.size, 0, none⟩ : Addr).add j = ⟨w0.heap.size, j, none⟩ := by unfold Addr.add; split <;> simp_all
    rw [this, (Blk.new w0 e' ys.toArray).cell j]; simpa using hj
  intro v' w' h1 h2 _
  exact h v' w' h1 ⟨h2.os, h2.tape, h2.output, by have := h2.size; simp at this; omega, fun k hk hne => (h2.block k (by simp; omega) (fun e => hne e.symm)).trans (Below.heap_alloc _ _ _ hk)⟩
end
section
variable {P : Program} {ops : Array Oper} {rest : List Oper} {o : Oper} {a : Act} {Q : Exit → Act → World → Prop}
/-- 's = append(s, xs...)', xs cells that can be read; and what else is as it was. -/
theorem wpl_append_cells {w : World} {ys : List Value} {s x : Operand} {t e : TypeId} {z : Value} {size bytes : Nat} {base : Nat} {v : Value} {n : Nat} {xs : List Value} {g off m cap : Nat}
    (hgd : o.guard = none) (ho : o.op = .call { callee := .builtin .append, args := #[s, x], argTypes := #[t, t] })
    (hx : a.eval x = .slice (some ⟨g, off, none⟩) m cap) (hs : a.eval s = v)
    (ht : P.underlying t = some (.slice e)) (hi : Info P e z size bytes) (hz : z.cells.size = size) (hsz : 0 < size) (hb : bytes ≤ 1024)
    (hown : w.ownsRow base e size v n xs) (hl : ys.length = m * size) (hc : ∀ j u, ys[j]? = some u → w.cell? ⟨g, off + j, none⟩ = some u) (hy : ∀ u ∈ ys, u.oneCell' = true) (hn : n + m < 2147483648) (hbase : base ≤ w.heap.size)
    (h : ∀ v' w', w'.ownsRow base e size v' (n + m) (xs ++ ys) → Only (fun k => v.ownBlock = some k) w w' → wpList P ops Q rest (a.put o.dst v') w') :
    wpList P ops Q (o :: rest) a w := by
  obtain ⟨i, hi1, hi2, hi3, hi4⟩ := info_parts hi
  refine wpList_append_own _ hgd s x t ho base e i z size bytes ht hi1 hi2 hi3 hi4 hz hsz v n xs hs hown _ m cap ys hx hl ?_ hy
    (by unfold maxLen; omega) (by have : (n + m) * bytes ≤ 2147483648 * 1024 := Nat.mul_le_mul (by omega) hb; omega) (by omega) ?_
  · intro j u hj
    have : (⟨g, off, none⟩ : Addr).add j = ⟨g, off + j, none⟩ := by unfold Addr.add; split <;> simp_all
    rw [this]; exact hc j u hj
  intro v' w' h1 h2 _
  exact h v' w' h1 ⟨h2.os, h2.tape, h2.output, h2.size, fun k hk hne => h2.block k hk (fun e => hne e.symm)⟩
/-- 'make([]T, n)', T of one cell. -/
theorem wpl_make {w : World} {x : Operand} {t e : TypeId} {z zv : Value} {bytes n : Nat} {c : Int}
    (hgd : o.guard = none) (ho : o.op = .makeSlice t x x) (hx : a.eval x = .int .i64 c) (hc : c = (n : Nat))
    (ht : P.underlying t = some (.slice e)) (hi : Info P e z 1 bytes) (hz : z.cells = #[zv]) (hb : bytes ≤ 1024) (hn : n ≤ 1000000)
    (h : wpList P ops Q rest (a.put o.dst (.slice (some ⟨w.heap.size, 0, none⟩) n n)) (w.alloc (.cells (List.replicate n zv).toArray e))) :
    wpList P ops Q (o :: rest) a w := by
  subst hc
  obtain ⟨i, hi1, hi2, hi3, hi4⟩ := info_parts hi
  have hr := run_make (P := P) (w := w) t e i z ht hi1 hi2 .i64 .i64 n n (by omega) (Int.le_refl _) (by rw [hi4]; have : bytes * n ≤ 1024 * 1000000 := Nat.mul_le_mul hb hn; omega) (by omega)
  have e1 : madeCells z.cells (n * i.size) = (List.replicate n zv).toArray := by
    rw [hi3, hz, Nat.mul_one]
    apply Array.toList_inj.1
    apply List.ext_getElem?
    intro k
    unfold madeCells
    rw [Array.getElem?_toList, Array.getElem?_map, List.toList_toArray, List.getElem?_replicate, Array.getElem?_range]
    by_cases hk : k < n
    · rw [if_pos hk, if_pos hk]
      simp [Nat.mod_one]
    · rw [if_neg hk, if_neg hk]
      rfl
  simp only [Int.toNat_natCast, e1] at hr
  refine wpList_plain hgd fun K hK => ?_
  unfold Oper.wp execOp
  simp only [ho, hx, hr, Sem.run_bind, Result.andThen_ok, Sem.run_pure]
  exact hK _ _ h
end
theorem owns_only {S : Nat → Prop} {w w' : World} {base size : Nat} {e : TypeId} {v : Value} {n : Nat} {xs : List Value} (h : w.ownsRow base e size v n xs) (ho : Only S w w') (hS : ∀ g, v.ownBlock = some g → ¬ S g) : w'.ownsRow base e size v n xs := by
  obtain ⟨hl, h | ⟨g, cap, cur, rfl, hb, hg, h1, h2, h3, h4⟩⟩ := h
  · exact ⟨hl, .inl h⟩
  · exact ⟨hl, .inr ⟨g, cap, cur, rfl, hb, by rw [ho.block g (Array.getElem?_eq_some_iff.1 hg).1 (hS g rfl)]; exact hg, h1, h2, h3, h4⟩⟩
theorem owns_type {w : World} {base size : Nat} {e : TypeId} {v : Value} {n : Nat} {xs : List Value} (h : w.ownsRow base e size v n xs) {g : Nat} (hv : v.ownBlock = some g) : ∃ cur, w.heap[g]? = some (.cells cur e (0, 0)) ∧ base ≤ g ∧ g < w.heap.size := by
  obtain ⟨hl, ⟨rfl, _⟩ | ⟨g', cap, cur, rfl, hb, hg, _⟩⟩ := h
  · cases hv
  · cases hv; exact ⟨cur, hg, hb, (Array.getElem?_eq_some_iff.1 hg).1⟩
theorem owns_ne {w : World} {base size : Nat} {e T : TypeId} {v : Value} {n : Nat} {xs : List Value} (h : w.ownsRow base e size v n xs) {b : Nat} {A : Array Value} (hb : Blk w b T A) (hT : T ≠ e) : ∀ g, v.ownBlock = some g → g ≠ b := by
  intro g hg e'
  subst e'
  obtain ⟨cur, h1, _, _⟩ := owns_type h hg
  unfold Blk at hb
  rw [hb] at h1
  injection h1 with h1
  injection h1 with _ h1
  exact hT h1
theorem owns_ge {w : World} {base size : Nat} {e : TypeId} {v : Value} {n : Nat} {xs : List Value} (h : w.ownsRow base e size v n xs) {B : Nat} (hB : B ≤ base) : w.ownsRow B e size v n xs := by
  obtain ⟨hl, h | ⟨g, cap, cur, rfl, hb, h⟩⟩ := h
  · exact ⟨hl, .inl h⟩
  · exact ⟨hl, .inr ⟨g, cap, cur, rfl, Nat.le_trans hB hb, h⟩⟩
theorem owns_below {w w' : World} {base size : Nat} {e : TypeId} {v : Value} {n : Nat} {xs : List Value} (h : w.ownsRow base e size v n xs) (hb : Below w.heap.size w w') : w'.ownsRow base e size v n xs := owns_only h (Only.of_below (S := fun _ => False) hb) (fun _ _ h => h)
theorem owns_slice {w : World} {base size : Nat} {e : TypeId} {v : Value} {n : Nat} {xs : List Value} (h : w.ownsRow base e size v n xs) : ∃ p cap, v = .slice p n cap := by
  obtain ⟨hl, ⟨rfl, h0⟩ | ⟨g, cap, cur, rfl, _⟩⟩ := h
  · exact ⟨none, 0, by rw [h0]⟩
  · exact ⟨_, _, rfl⟩
theorem owns_cells {w : World} {base size : Nat} {e : TypeId} {v : Value} {n : Nat} {xs : List Value} (h : w.ownsRow base e size v n xs) (hn : 0 < n) : ∃ g cap, v = .slice (some ⟨g, 0, none⟩) n cap ∧ base ≤ g ∧ g < w.heap.size ∧ (∀ o, w.frozen? ⟨g, o, none⟩ = false) ∧ ∀ j, j < n * size → w.cell? ⟨g, j, none⟩ = xs[j]? := by
  obtain ⟨hl, ⟨rfl, h0⟩ | ⟨g, cap, cur, rfl, hb, hg, h1, h2, h3, h4⟩⟩ := h
  · omega
  · refine ⟨g, cap, rfl, hb, (Array.getElem?_eq_some_iff.1 hg).1, fun o => Blk.frozen (T := e) (A := cur) hg o, fun j hj => ?_⟩
    rw [(show Blk w g e cur from hg).cell j, ← Array.getElem?_toList, ← h4, List.getElem?_take, if_pos hj]
section
variable {P : Program} {ops : Array Oper} {o : Oper} {a : Act} {K : Act → World → Prop} {Q : Exit → Act → World → Prop} {E : Prop}
/-- A call that returns, as a step of a region that draws its order. -/
theorem step_call {R : Ending → World → Prop} {w : World} (hg : o.guard = none) (f : FuncId) (args : Array Value) (hrun : (execOp a.eval o).run P w = .ok (.enter f args) w) (hc : Calls P f args w R)
    (hr : ∀ e w', R e w' → ∃ v, e = .returned v) (h : ∀ v w', R (.returned v) w' → K (a.put o.dst v) w') : if Region.wanted o (yielded ops a.tmps) = true then Oper.wp P o a w K Q else E := by
  rw [if_pos (by simp [Region.wanted, hg])]
  unfold Oper.wp
  rw [hrun]
  simp only [Oper.upon]
  refine hc.mono fun e w' hR => ?_
  obtain ⟨v, rfl⟩ := hr e w' hR
  exact h v w' hR
/-- 's = append(s, x)', x a row of cells that was laid just now, as such a step. -/
theorem step_append_row2 {w0 : World} {ys : List Value} {e' : TypeId} {s x : Operand} {t e : TypeId} {z : Value} {size bytes : Nat} {base : Nat} {v : Value} {n : Nat} {xs : List Value} {nb : Nat}
    (hgd : o.guard = none) (ho : o.op = .call { callee := .builtin .append, args := #[s, x], argTypes := #[t, t] })
    (hx : a.eval x = .slice (some ⟨nb, 0, none⟩) 1 1) (hs : a.eval s = v)
    (ht : P.underlying t = some (.slice e)) (hi : Info P e z size bytes) (hz : z.cells.size = size) (hy : ys.all (·.oneCell') = true) (hl : ys.length = 1 * size) (hsz : 0 < size) (hb : bytes ≤ 1024)
    (hown : w0.ownsRow base e size v n xs) (hn : n < 2147483648) (hbase : base ≤ w0.heap.size) (hnb : nb = w0.heap.size)
    (h : ∀ v' w', w'.ownsRow base e size v' (n + 1) (xs ++ ys) → Only (fun k => v.ownBlock = some k) w0 w' → K (a.put o.dst v') w') :
    if Region.wanted o (yielded ops a.tmps) = true then Oper.wp P o a (w0.alloc (.cells ys.toArray e')) K Q else E := by
  rw [if_pos (by simp [Region.wanted, hgd])]
  subst hnb
  obtain ⟨i, hi1, hi2, hi3, hi4⟩ := info_parts hi
  refine wp_append_own _ s x t ho base e i z size bytes ht hi1 hi2 hi3 hi4 hz hsz v n xs hs (hown.alloc _) _ 1 1 ys hx hl ?_ (fun u hu => List.all_eq_true.1 hy u hu)
    (by unfold maxLen; omega) (by have : (n + 1) * bytes ≤ 2147483648 * 1024 := Nat.mul_le_mul (by omega) hb; omega) (by simp; omega) ?_
  · intro j u hj
    have : (⟨w0.heap.size, 0, none⟩ : Addr).add j = ⟨w0.heap.size, j, none⟩ := by unfold Addr.add; split <;> simp_all
    rw [this, (Blk.new w0 e' ys.toArray).cell j]; simpa using hj
  intro v' w' h1 h2 _
  exact h v' w' h1 ⟨h2.os, h2.tape, h2.output, by have := h2.size; simp at this; omega, fun k hk hne => (h2.block k (by simp; omega) (fun e => hne e.symm)).trans (Below.heap_alloc _ _ _ hk)⟩
end
theorem owns_blk {w : World} {base size : Nat} {e : TypeId} {v : Value} {n : Nat} {xs : List Value} (h : w.ownsRow base e size v n xs) (hn : 0 < n) : ∃ g cap cur, v = .slice (some ⟨g, 0, none⟩) n cap ∧ base ≤ g ∧ Blk w g e cur ∧ ∀ j, j < n * size → cur[j]? = xs[j]? := by
  obtain ⟨hl, ⟨rfl, h0⟩ | ⟨g, cap, cur, rfl, hb, hg, h1, h2, h3, h4⟩⟩ := h
  · omega
  · refine ⟨g, cap, cur, rfl, hb, hg, fun j hj => ?_⟩
    rw [← Array.getElem?_toList, ← h4, List.getElem?_take, if_pos hj]
theorem owns_zero {w : World} {base size : Nat} {e : TypeId} {v : Value} {xs : List Value} (h : w.ownsRow base e size v 0 xs) : xs = [] := List.eq_nil_of_length_eq_zero (by simpa using h.1)
/-- The j-th cell of the i-th of rows of equal length. -/
theorem flat_at {α β : Type} (f : α → List β) (m : Nat) (hf : ∀ x, (f x).length = m) : ∀ (l : List α) (i j : Nat) (hi : i < l.length), j < m → (l.flatMap f)[i * m + j]? = (f l[i])[j]? := by
  intro l
  induction l with
  | nil => intro i j hi; simp at hi
  | cons x l ih =>
    intro i j hi hj
    rw [List.flatMap_cons]
    cases i with
    | zero => rw [Nat.zero_mul, Nat.zero_add, List.getElem?_append_left (by rw [hf]; exact hj)]; rfl
    | succ i =>
      rw [List.getElem?_append_right (by rw [hf, Nat.succ_mul]; omega), hf, show (i + 1) * m + j - m = i * m + j by rw [Nat.succ_mul]; omega]
      exact ih i j (by simpa using hi) hj
end Go.Proofs.YtlahficmkfgooaaGreat


/- Leases, in plain terms, and as the program's and the document's cells hold them. No condition. -/
namespace Go.Proofs.YtlahficmkfgooaaGreat
open Go.RowKit
set_option linter.unusedVariables false
namespace Lea

/-! ### Rows of equal length, one behind the other -/
theorem flat_get {α β : Type} (f : α → List β) (m : Nat) (hf : ∀ x, (f x).length = m) : ∀ (l : List α) (i k : Nat) (h : i < l.length), k < m → (l.flatMap f)[i * m + k]? = (f l[i])[k]? := by
  intro l
  induction l with
  | nil => intro i k h; simp at h
  | cons x l ih =>
    intro i k h hk
    rw [List.flatMap_cons]
    cases i with
    | zero => rw [List.getElem?_append_left (by rw [hf]; omega)]; simp
    | succ i =>
      rw [List.getElem?_append_right (by rw [hf, Nat.succ_mul]; omega), hf, show (i + 1) * m + k - m = i * m + k from by rw [Nat.succ_mul]; omega]
      exact ih i k (by simpa using h) hk
theorem flat_len {α β : Type} (f : α → List β) (m : Nat) (hf : ∀ x, (f x).length = m) (l : List α) : (l.flatMap f).length = l.length * m := by
  induction l with
  | nil => simp
  | cons x l ih => rw [List.flatMap_cons, List.length_append, hf, ih, List.length_cons, Nat.succ_mul]; omega
theorem flat_set {α β : Type} (f : α → List β) (m : Nat) (hf : ∀ x, (f x).length = m) : ∀ (l : List α) (i k : Nat) (h : i < l.length) (v : β) (y : α), k < m → f y = (f l[i]).set k v →
    (l.flatMap f).set (i * m + k) v = (l.set i y).flatMap f := by
  intro l
  induction l with
  | nil => intro i k h; simp at h
  | cons x l ih =>
    intro i k h v y hk hy
    cases i with
    | zero =>
      simp only [List.set_cons_zero, List.flatMap_cons, Nat.zero_mul, Nat.zero_add]
      rw [List.set_append_left _ _ (by rw [hf]; omega)]
      simp only [List.getElem_cons_zero] at hy
      rw [hy]
    | succ i =>
      simp only [List.set_cons_succ, List.flatMap_cons]
      rw [List.set_append_right _ _ (by rw [hf, Nat.succ_mul]; omega), hf, show (i + 1) * m + k - m = i * m + k from by rw [Nat.succ_mul]; omega]
      rw [ih i k (by simpa using h) v y hk (by simpa using hy)]

/-! ### The program's leases -/
structure Seat where
  w : Int
  inc : Int
  til : Int
  alive : Bool
  seen : Int
def seatL (s : Seat) : List Value := [.int .i64 s.w, .int .u64 s.inc, .int .i64 s.til, .bool s.alive, .int .u64 s.seen]
theorem seatL_len (s : Seat) : (seatL s).length = 5 := rfl
def cells (len : Int) (l : List Seat) : Array Value := (.int .i64 len :: l.flatMap seatL).toArray
theorem cells_get {len : Int} {l : List Seat} {i : Nat} (h : i < l.length) {k : Nat} (hk : k < 5) : (cells len l)[1 + i * 5 + k]? = (seatL l[i])[k]? := by
  unfold cells
  rw [List.getElem?_toArray, show 1 + i * 5 + k = (i * 5 + k) + 1 from by omega, List.getElem?_cons_succ]
  exact flat_get seatL 5 seatL_len l i k h hk
theorem cells_set {len : Int} {l : List Seat} {i : Nat} (h : i < l.length) {k : Nat} (hk : k < 5) (v : Value) (y : Seat) (hy : seatL y = (seatL l[i]).set k v) :
    (cells len l).setIfInBounds (1 + i * 5 + k) v = cells len (l.set i y) := by
  unfold cells
  rw [List.setIfInBounds_toArray, show 1 + i * 5 + k = (i * 5 + k) + 1 from by omega, List.set_cons_succ, flat_set seatL 5 seatL_len l i k h v y hk hy]
theorem cells_store {len : Int} {l : List Seat} {i : Nat} (h : i < l.length) (w inc til : Int) (alive : Bool) (seen : Int) :
    (((((cells len l).setIfInBounds (1 + i * 5) (.int .i64 w)).setIfInBounds (1 + i * 5 + 1) (.int .u64 inc)).setIfInBounds (1 + i * 5 + 2) (.int .i64 til)).setIfInBounds (1 + i * 5 + 3) (.bool alive)).setIfInBounds (1 + i * 5 + 4) (.int .u64 seen) =
      cells len (l.set i ⟨w, inc, til, alive, seen⟩) := by
  have e0 := cells_set (len := len) (l := l) h (k := 0) (by omega) (.int .i64 w) { l[i] with w := w } rfl
  rw [Nat.add_zero] at e0
  rw [e0]
  rw [cells_set (len := len) (l := l.set i { l[i] with w := w }) (i := i) (by simpa using h) (k := 1) (by omega) (.int .u64 inc) { l[i] with w := w, inc := inc } (by simp [seatL]), List.set_set]
  rw [cells_set (len := len) (l := l.set i _) (i := i) (by simpa using h) (k := 2) (by omega) (.int .i64 til) { l[i] with w := w, inc := inc, til := til } (by simp [seatL]), List.set_set]
  rw [cells_set (len := len) (l := l.set i _) (i := i) (by simpa using h) (k := 3) (by omega) (.bool alive) { l[i] with w := w, inc := inc, til := til, alive := alive } (by simp [seatL]), List.set_set]
  rw [cells_set (len := len) (l := l.set i _) (i := i) (by simpa using h) (k := 4) (by omega) (.int .u64 seen) ⟨w, inc, til, alive, seen⟩ (by simp [seatL]), List.set_set]
end Lea
end Go.Proofs.YtlahficmkfgooaaGreat


/- Programs under construction: rows of the call's own that hold rows of the call's own. No condition. -/
namespace Go.Proofs.YtlahficmkfgooaaGreat
open Go.RowKit Cd Wire
set_option linter.unusedVariables false
namespace Cd
def rowsO (l : List OpV) : List Value := l.flatMap fun o => (opA o).toList
def rowsF (l : List FunV) (vs : List Value) : List Value := (l.zip vs).flatMap fun p => [.int .i64 p.1.args, .int .i64 p.1.regs, p.2]
theorem rowsO_snoc (l : List OpV) (o : OpV) : rowsO (l ++ [o]) = rowsO l ++ (opA o).toList := by simp [rowsO]
theorem rowsF_snoc {l : List FunV} {vs : List Value} (h : vs.length = l.length) (f : FunV) (v : Value) : rowsF (l ++ [f]) (vs ++ [v]) = rowsF l vs ++ [.int .i64 f.args, .int .i64 f.regs, v] := by
  unfold rowsF; rw [List.zip_append h.symm]; simp
end Cd
/-- A row of functions of the call's own; each has a row of ops of the call's own. -/
def FunsRow (w : World) (B : Nat) (v : Value) (l : List FunV) : Prop :=
  ∃ vs : List Value, vs.length = l.length ∧ w.ownsRow B 168 3 v l.length (rowsF l vs) ∧ ∀ (i : Nat) (h : i < l.length) (h' : i < vs.length), w.ownsRow B 170 5 vs[i] l[i].ops.length (rowsO l[i].ops)
theorem FunsRow.nil (w : World) (B : Nat) : FunsRow w B (.slice none 0 0) [] := ⟨[], rfl, ⟨rfl, .inl ⟨rfl, rfl⟩⟩, fun i h => by simp at h⟩
theorem FunsRow.only {S : Nat → Prop} {w w' : World} {B : Nat} {v : Value} {l : List FunV} (h : FunsRow w B v l) (ho : Only S w w') (hS : ∀ g, S g → ∀ cur ty, w.heap[g]? = some (.cells cur ty (0, 0)) → ty ≠ 168 ∧ ty ≠ 170) : FunsRow w' B v l := by
  obtain ⟨vs, h1, h2, h3⟩ := h
  refine ⟨vs, h1, owns_only h2 ho fun g hg hs => ?_, fun i hi hi' => owns_only (h3 i hi hi') ho fun g hg hs => ?_⟩
  · obtain ⟨cur, hc, _⟩ := owns_type h2 hg
    exact (hS g hs _ _ hc).1 rfl
  · obtain ⟨cur, hc, _⟩ := owns_type (h3 i hi hi') hg
    exact (hS g hs _ _ hc).2 rfl
theorem FunsRow.below {w w' : World} {B : Nat} {v : Value} {l : List FunV} (h : FunsRow w B v l) (hb : Below w.heap.size w w') : FunsRow w' B v l := h.only (Only.of_below (S := fun _ => False) hb) (fun _ h => h.elim)
/-- .. while a block of another type turns. -/
theorem FunsRow.other {w w' : World} {B b : Nat} {v : Value} {l : List FunV} {T : TypeId} {A : Array Value} (h : FunsRow w B v l) (ho : Only (· = b) w w') (hb : Blk w b T A) (h1 : T ≠ 168) (h2 : T ≠ 170) : FunsRow w' B v l :=
  h.only ho fun g hg cur ty hc => by
    subst hg
    unfold Blk at hb
    rw [hb] at hc
    injection hc with hc
    injection hc with _ hc
    subst hc
    exact ⟨h1, h2⟩
theorem FunsRow.row {w : World} {B : Nat} {v : Value} {l : List FunV} (h : FunsRow w B v l) : ∃ xs, w.ownsRow B 168 3 v l.length xs := by obtain ⟨vs, _, h, _⟩ := h; exact ⟨_, h⟩
/-- One function more. -/
theorem FunsRow.snoc {w w' : World} {B : Nat} {v v' vo : Value} {l : List FunV} {f : FunV} {vs : List Value} (h1 : vs.length = l.length) (h2 : w.ownsRow B 168 3 v l.length (rowsF l vs))
    (h3 : ∀ (i : Nat) (h : i < l.length) (h' : i < vs.length), w.ownsRow B 170 5 vs[i] l[i].ops.length (rowsO l[i].ops)) (ho : w.ownsRow B 170 5 vo f.ops.length (rowsO f.ops))
    (hn : w'.ownsRow B 168 3 v' (l.length + 1) (rowsF l vs ++ [.int .i64 f.args, .int .i64 f.regs, vo])) (hO : Only (fun k => v.ownBlock = some k) w w') : FunsRow w' B v' (l ++ [f]) := by
  have key : ∀ {u : Value} {m : Nat} {xs : List Value}, w.ownsRow B 170 5 u m xs → w'.ownsRow B 170 5 u m xs := fun hu => owns_only hu hO fun g hg hs => by
    obtain ⟨cur, hc, _⟩ := owns_type hu hg
    obtain ⟨cur2, hc2, _⟩ := owns_type h2 hs
    rw [hc] at hc2
    injection hc2 with hc2
    injection hc2 with _ hc2
    revert hc2; decide
  refine ⟨vs ++ [vo], by simp [h1], by rw [rowsF_snoc h1, List.length_append]; exact hn, fun i hi hi' => ?_⟩
  by_cases hlt : i < l.length
  · simp only [List.getElem_append_left hlt, List.getElem_append_left (h1 ▸ hlt)]
    exact key (h3 i hlt (h1 ▸ hlt))
  · have : i = l.length := by simp at hi; omega
    subst this
    have e1 : (l ++ [f])[l.length] = f := by simp
    have e2 : (vs ++ [vo])[l.length] = vo := by simp [← h1]
    rw [e1, e2]
    exact key ho
/-- Read as any other. -/
theorem OpsAt.of {w : World} {B : Nat} {v : Value} {l : List OpV} (h : w.ownsRow B 170 5 v l.length (rowsO l)) : OpsAt w v l := by
  obtain ⟨hl, ⟨rfl, h0⟩ | ⟨g, cap, cur, rfl, hb, hg, h1, h2, h3, h4⟩⟩ := h
  · exact ⟨none, 0, by rw [h0], fun h => by omega⟩
  · refine ⟨_, cap, rfl, fun _ => ⟨g, 0, rfl, (Array.getElem?_eq_some_iff.1 hg).1, fun i hi j hj => ?_⟩⟩
    have e1 : w.cell? ⟨g, 0 + i * 5 + j, none⟩ = cur[i * 5 + j]? := by rw [Nat.zero_add]; exact (show Blk w g 170 cur from hg).cell _
    have e2 : (rowsO l)[i * 5 + j]? = (opA l[i]).toList[j]? := Lea.flat_get (fun o => (opA o).toList) 5 (fun o => rfl) l i j hi hj
    rw [e1, ← Array.getElem?_toList]
    have e3 : cur.toList[i * 5 + j]? = (cur.toList.take (l.length * 5))[i * 5 + j]? := by rw [List.getElem?_take, if_pos (by omega)]
    rw [e3, h4, e2, Array.getElem?_toList]
theorem FunsRow.at {w : World} {B : Nat} {v : Value} {l : List FunV} (h : FunsRow w B v l) : FunsAt w v l := by
  obtain ⟨vs, hvs, ⟨hl, ⟨rfl, h0⟩ | ⟨g, cap, cur, rfl, hb, hg, h1, h2, h3, h4⟩⟩, hops⟩ := h
  · exact ⟨none, 0, by rw [h0], fun h => by omega⟩
  · refine ⟨_, cap, rfl, fun _ => ⟨g, 0, rfl, (Array.getElem?_eq_some_iff.1 hg).1, fun i hi => ?_⟩⟩
    have hz : i < (l.zip vs).length := by rw [List.length_zip]; omega
    have key : ∀ j, j < 3 → w.cell? ⟨g, 0 + i * 3 + j, none⟩ = ([.int .i64 l[i].args, .int .i64 l[i].regs, vs[i]'(by omega)] : List Value)[j]? := by
      intro j hj
      have e1 : w.cell? ⟨g, 0 + i * 3 + j, none⟩ = cur[i * 3 + j]? := by rw [Nat.zero_add]; exact (show Blk w g 168 cur from hg).cell _
      have e2 : (rowsF l vs)[i * 3 + j]? = ([.int .i64 ((l.zip vs)[i]'hz).1.args, .int .i64 ((l.zip vs)[i]'hz).1.regs, ((l.zip vs)[i]'hz).2] : List Value)[j]? := Lea.flat_get (fun p : FunV × Value => ([.int .i64 p.1.args, .int .i64 p.1.regs, p.2] : List Value)) 3 (fun o => rfl) (l.zip vs) i j hz hj
      rw [e1, ← Array.getElem?_toList]
      have e3 : cur.toList[i * 3 + j]? = (cur.toList.take (l.length * 3))[i * 3 + j]? := by rw [List.getElem?_take, if_pos (by omega)]
      rw [e3, h4, e2, List.getElem_zip]
    exact ⟨key 0 (by omega), key 1 (by omega), vs[i]'(by omega), key 2 (by omega), OpsAt.of (hops i hi (by omega))⟩
theorem info_op : Info Tryz.prog 170 (.agg #[.int .u8 0, .int .i64 0, .int .i64 0, .int .i64 0, .int .i64 0]) 5 40 := by unfold Info; kernel_rfl
theorem info_fun : Info Tryz.prog 168 (.agg #[.int .i64 0, .int .i64 0, .slice none 0 0]) 3 40 := by unfold Info; kernel_rfl
end Go.Proofs.YtlahficmkfgooaaGreat
