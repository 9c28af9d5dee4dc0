import Derived.Test.YtpidhcogaoehhaaCodeF
import Derived.Test.YtpidhcogaoehhaaMgj
import Derived.Test.YtpidhcogaoehhaaMgi

/- The walk of the program's copy of a program. No condition but that rows are not too long. -/
namespace Go.Proofs.Ytpidhcogaoehhaa
open Go.RowKit Cd
set_option linter.unusedVariables false
theorem eql_slice_nil {P : Program} (w : World) (t e : TypeId) (a : Option Addr) (n c : Nat) (h : P.underlying t = some (.slice e)) : (binOp .eql t (.slice a n c) (.slice none 0 0)).run P w = .ok (.bool a.isNone) w := by
  simp only [binOp]
  simp [Op.equal, Op.maxDepth, Lib.run_equalIn_slice_nil w 9999 t e a n c 0 0 h]
def ClonePost (w : World) (e : TypeId) (size n : Nat) (xs : List Value) (en : Ending) (w' : World) : Prop := ∃ v, en = .returned v ∧ w'.ownsRow w.heap.size e size v n xs ∧ Below w.heap.size w w'
set_option maxRecDepth 100000 in
set_option maxHeartbeats 1000000 in
theorem cloneO_any {w : World} {p : Option Addr} {n cap : Nat} {xs : List Value} (hx : xs.length = n * 5) (hn : n ≤ 1000) (h1 : ∀ u ∈ xs, u.oneCell' = true) (hp : 0 < n → ∃ g off, p = some ⟨g, off, none⟩ ∧ g < w.heap.size ∧ ∀ j u, xs[j]? = some u → w.cell? ⟨g, off + j, none⟩ = some u) :
    Calls Try.prog 56 #[.slice p n cap] w (ClonePost w 50 5 n xs) := by
  cases p with
  | none =>
    have h0 : n = 0 := by
      rcases Nat.eq_zero_or_pos n with h | h
      · exact h
      · obtain ⟨g, off, e, _⟩ := hp h; cases e
    subst h0
    have hxs : xs = [] := List.eq_nil_of_length_eq_zero (by omega)
    subst hxs
    have qT : ∀ (w : World) (a : Option Addr) (n c : Nat), (binOp .eql 45 (.slice a n c) (.slice none 0 0)).run Try.prog w = .ok (.bool a.isNone) w := fun w a n c => eql_slice_nil w _ _ a n c Try.underlying45
    clear hp h1
    go_enter Try.func56, Try.ntmps56
    go_wp2
    go_ret
    exact ⟨_, rfl, ⟨rfl, .inl ⟨rfl, rfl⟩⟩, Below.refl _ _⟩
  | some a =>
    obtain ⟨i, hi1, hi2, hi3, hi4⟩ := info_parts info_op
    have hown : (w.alloc (.cells #[] 50)).ownsRow w.heap.size 50 5 (.slice (some ⟨w.heap.size, 0, none⟩) 0 0) 0 [] :=
      ⟨rfl, .inr ⟨w.heap.size, 0, #[], rfl, Nat.le_refl _, Blk.new _ _ _, Nat.le_refl _, Nat.zero_le _, rfl, rfl⟩⟩
    have HOWN := Lib.hid hown
    have qT : ∀ (w : World) (a : Option Addr) (n c : Nat), (binOp .eql 45 (.slice a n c) (.slice none 0 0)).run Try.prog w = .ok (.bool a.isNone) w := fun w a n c => eql_slice_nil w _ _ a n c Try.underlying45
    have hnews : ∀ j u, xs[j]? = some u → (w.alloc (.cells #[] 50)).cell? (a.add j) = some u := by
      intro j u hj
      have hlt : j < xs.length := (List.getElem?_eq_some_iff.1 hj).1
      obtain ⟨g, off, e, hg, hc⟩ := hp (by rcases Nat.eq_zero_or_pos n with h | h
                                           · subst h; omega
                                           · exact h)
      injection e with e
      subst e
      have hadd : (⟨g, off, none⟩ : Addr).add j = ⟨g, off + j, none⟩ := by unfold Addr.add; split <;> simp_all
      rw [hadd, ((Below.refl _ w).alloc (Nat.le_refl _) _).cell (p := ⟨g, _, none⟩) hg]
      exact hc j u hj
    have HNEW := Lib.hid hnews
    have HX := Lib.hid hx
    have H1 := Lib.hid h1
    have HII := Lib.hid (And.intro hi1 (And.intro hi2 (And.intro hi3 hi4)))
    clear hown hnews hp hx h1 hi1 hi2 hi3 hi4
    go_enter Try.func56, Try.ntmps56
    go_wp2_with (at_builtin; refine wpList_append_own _ rfl _ _ _ rfl w.heap.size 50 i _ 5 _ Try.underlying45 HII.out.1 HII.out.2.1 HII.out.2.2.1 HII.out.2.2.2 rfl (by decide) _ 0 [] rfl HOWN.out a n cap xs rfl HX.out HNEW.out H1.out (by unfold maxLen; omega) (by omega) (by simp) ?_; intro v5 w5 h5 g5 _; have H5 := Lib.hid h5; have G5 := Lib.hid g5; clear h5 g5)
    go_ret
    refine ⟨_, rfl, by simpa using H5.out, ?_⟩
    have g5 := G5.out
    exact ⟨g5.os, g5.tape, g5.output, by have := g5.size; simp at this; omega, fun k hk => (g5.block k (by simp; omega) (by intro h; have h2 : k = w.heap.size := Option.some.inj h; omega)).trans (Below.heap_alloc _ _ _ hk)⟩
set_option maxRecDepth 100000 in
    set_option maxHeartbeats 1000000 in
    theorem cloneF_any {w : World} {p : Option Addr} {n cap : Nat} {xs : List Value} (hx : xs.length = n * 3) (hn : n ≤ 1000) (h1 : ∀ u ∈ xs, u.oneCell' = true) (hp : 0 < n → ∃ g off, p = some ⟨g, off, none⟩ ∧ g < w.heap.size ∧ ∀ j u, xs[j]? = some u → w.cell? ⟨g, off + j, none⟩ = some u) :
        Calls Try.prog 55 #[.slice p n cap] w (ClonePost w 47 3 n xs) := by
      cases p with
      | none =>
        have h0 : n = 0 := by
          rcases Nat.eq_zero_or_pos n with h | h
          · exact h
          · obtain ⟨g, off, e, _⟩ := hp h; cases e
        subst h0
        have hxs : xs = [] := List.eq_nil_of_length_eq_zero (by omega)
        subst hxs
        have qT : ∀ (w : World) (a : Option Addr) (n c : Nat), (binOp .eql 22 (.slice a n c) (.slice none 0 0)).run Try.prog w = .ok (.bool a.isNone) w := fun w a n c => eql_slice_nil w _ _ a n c Try.underlying22
        clear hp h1
        go_enter Try.func55, Try.ntmps55
        go_wp2
        go_ret
        exact ⟨_, rfl, ⟨rfl, .inl ⟨rfl, rfl⟩⟩, Below.refl _ _⟩
      | some a =>
        obtain ⟨i, hi1, hi2, hi3, hi4⟩ := info_parts info_fun
        have hown : (w.alloc (.cells #[] 47)).ownsRow w.heap.size 47 3 (.slice (some ⟨w.heap.size, 0, none⟩) 0 0) 0 [] :=
          ⟨rfl, .inr ⟨w.heap.size, 0, #[], rfl, Nat.le_refl _, Blk.new _ _ _, Nat.le_refl _, Nat.zero_le _, rfl, rfl⟩⟩
        have HOWN := Lib.hid hown
        have qT : ∀ (w : World) (a : Option Addr) (n c : Nat), (binOp .eql 22 (.slice a n c) (.slice none 0 0)).run Try.prog w = .ok (.bool a.isNone) w := fun w a n c => eql_slice_nil w _ _ a n c Try.underlying22
        have hnews : ∀ j u, xs[j]? = some u → (w.alloc (.cells #[] 47)).cell? (a.add j) = some u := by
          intro j u hj
          have hlt : j < xs.length := (List.getElem?_eq_some_iff.1 hj).1
          obtain ⟨g, off, e, hg, hc⟩ := hp (by rcases Nat.eq_zero_or_pos n with h | h
                                               · subst h; omega
                                               · exact h)
          injection e with e
          subst e
          have hadd : (⟨g, off, none⟩ : Addr).add j = ⟨g, off + j, none⟩ := by unfold Addr.add; split <;> simp_all
          rw [hadd, ((Below.refl _ w).alloc (Nat.le_refl _) _).cell (p := ⟨g, _, none⟩) hg]
          exact hc j u hj
        have HNEW := Lib.hid hnews
        have HX := Lib.hid hx
        have H1 := Lib.hid h1
        have HII := Lib.hid (And.intro hi1 (And.intro hi2 (And.intro hi3 hi4)))
        clear hown hnews hp hx h1 hi1 hi2 hi3 hi4
        go_enter Try.func55, Try.ntmps55
        go_wp2_with (at_builtin; refine wpList_append_own _ rfl _ _ _ rfl w.heap.size 47 i _ 3 _ Try.underlying22 HII.out.1 HII.out.2.1 HII.out.2.2.1 HII.out.2.2.2 rfl (by decide) _ 0 [] rfl HOWN.out a n cap xs rfl HX.out HNEW.out H1.out (by unfold maxLen; omega) (by omega) (by simp) ?_; intro v5 w5 h5 g5 _; have H5 := Lib.hid h5; have G5 := Lib.hid g5; clear h5 g5)
        go_ret
        refine ⟨_, rfl, by simpa using H5.out, ?_⟩
        have g5 := G5.out
        exact ⟨g5.os, g5.tape, g5.output, by have := g5.size; simp at this; omega, fun k hk => (g5.block k (by simp; omega) (by intro h; have h2 : k = w.heap.size := Option.some.inj h; omega)).trans (Below.heap_alloc _ _ _ hk)⟩
end Go.Proofs.Ytpidhcogaoehhaa
