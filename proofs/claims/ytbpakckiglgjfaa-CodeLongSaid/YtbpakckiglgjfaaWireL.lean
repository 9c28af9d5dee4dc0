
/- Arguments that are slices of numbers, texts, Booleans; the document's writers. No condition but that numbers fit their kinds. -/
import Derived.Test.YtbpakckiglgjfaaWireZ
import Derived.Test.YtbpakckiglgjfaaOpen
namespace Go.Proofs.Ytbpakckiglgjfaa
open Go.RowKit Wire
set_option linter.unusedVariables false
section
open Go.ChangeShapes Go.WideShapes Go.Deep
variable {H : Type} {enc : TypeId × Value → H} {P : Program} {W : World} {base : Nat} {held : Bool} {r : Reach} {b0 : Nat} {v : Value} {d : DataW H} {ps : List MemPlace} {t e : TypeId}
theorem open_slic (ht : P.underlying t = some (.slice e)) (hc : P.cellsOf e = 1) (hval : Value.okWide P W r b0 t v) (hd : DataW.Trod enc P W base (fun _ => true) held t v d ps) :
    ∃ n f, Slic W v n f ∧ ∀ i, i < n → ∃ fuel x, DataW.trod enc P W base (fun _ => true) held fuel e [f i] = some x := by
  obtain ⟨p, n, cap, rfl, h⟩ := open_rows ht hc (by decide) hval hd
  by_cases hn : 0 < n
  · obtain ⟨g, off, rfl, hg, hx⟩ := h hn
    have key : ∀ i, i < n → ∃ u : Value, W.cell? ⟨g, off + i, none⟩ = some u ∧ ∃ fuel x, DataW.trod enc P W base (fun _ => true) held fuel e [u] = some x := by
      intro i hi
      obtain ⟨cs, fuel, x, hl, hcell, hy⟩ := hx i hi
      match cs, hl with
      | [u], _ => exact ⟨u, by have := hcell 0 (by decide); simpa using this, fuel, x, hy⟩
    haveI : Inhabited Value := ⟨undef⟩
    obtain ⟨f, hf⟩ := choose_fn key
    exact ⟨n, f, ⟨_, cap, rfl, fun _ => ⟨g, off, rfl, hg, fun i hi => (hf i hi).1⟩⟩, fun i hi => (hf i hi).2⟩
  · exact ⟨n, fun _ => undef, ⟨p, cap, rfl, fun h => absurd h hn⟩, fun i hi => absurd (Nat.lt_of_le_of_lt (Nat.zero_le _) hi) hn⟩
theorem Slic.congr {w : World} {v : Value} {n : Nat} {f g : Nat → Value} (h : Slic w v n f) (e : ∀ i, i < n → f i = g i) : Slic w v n g := by
  obtain ⟨p, cap, rfl, hS⟩ := h
  refine ⟨p, cap, rfl, fun hn => ?_⟩
  obtain ⟨g0, off, rfl, hg, hx⟩ := hS hn
  exact ⟨g0, off, rfl, hg, fun i hi => by rw [hx i hi, e i hi]⟩
theorem open_ints' {k : IntKind} (ht : P.underlying t = some (.slice e)) (he : P.underlying e = some (.int k)) (hc : P.cellsOf e = 1) (hval : Value.okWide P W r b0 t v) (hd : DataW.Trod enc P W base (fun _ => true) held t v d ps) :
    ∃ (n : Nat) (x : Nat → Int), Slic W v n (fun i => .int k (x i)) ∧ ∀ i, i < n → (Lit.int k (x i)).wf = true := by
  obtain ⟨n, f, h1, h2⟩ := open_slic ht hc hval hd
  have key : ∀ i, i < n → ∃ y : Int, f i = .int k y ∧ (Lit.int k y).wf = true := fun i hi => by
    obtain ⟨fuel, x, hx⟩ := h2 i hi
    obtain ⟨y, hy, _, hw⟩ := DataW.trod_int he hx
    exact ⟨y, by simpa using hy, hw⟩
  obtain ⟨x, hx⟩ := choose_fn key
  exact ⟨n, x, h1.congr fun i hi => (hx i hi).1, fun i hi => (hx i hi).2⟩
theorem open_ints_cell {k : IntKind} {fuel : Nat} {u : Value} {x : DataW H × List MemPlace} (ht : P.underlying t = some (.slice e)) (he : P.underlying e = some (.int k)) (hc : P.cellsOf e = 1) (h : DataW.trod enc P W base (fun _ => true) held fuel t [u] = some x) :
    ∃ (n : Nat) (x : Nat → Int), Slic W u n (fun i => .int k (x i)) ∧ ∀ i, i < n → (Lit.int k (x i)).wf = true := by
  rcases open_slice1 ht hc h with ⟨h1, _⟩ | ⟨a, len, cap, m, n, V, D, Pl, h1, hb, hl, hmx, hmm, _, hx⟩
  · have : u = .slice none 0 0 := by simpa using h1
    subst this
    exact ⟨0, fun _ => 0, ⟨none, 0, rfl, fun h => by omega⟩, fun i hi => by omega⟩
  · have : u = .slice (some a) len cap := by simpa using h1
    subst this
    simp only [if_true] at hmm
    have key : ∀ i, i < len → ∃ y : Int, W.cell? (a.add i) = some (.int k y) ∧ (Lit.int k y).wf = true := fun i hi => by
      obtain ⟨h2, h3⟩ := hx i (by omega)
      obtain ⟨y, hy, _, hw⟩ := DataW.trod_int he h3
      exact ⟨y, by rw [h2]; simpa using hy, hw⟩
    obtain ⟨y, hy⟩ := choose_fn key
    refine ⟨len, y, ⟨some a, cap, rfl, fun hn => ?_⟩, fun i hi => (hy i hi).2⟩
    obtain ⟨g, off, spot⟩ := a
    have h0 := (hy 0 hn).1
    have hspot : spot = none := by simpa [Addr.add] using World.cell?_spot h0
    subst hspot
    refine ⟨g, off, rfl, ?_, fun i hi => by rw [← (hy i hi).1, add_plain]⟩
    rcases Nat.lt_or_ge g W.heap.size with h | h
    · exact h
    · simp [Addr.add, World.cell?, Array.getElem?_eq_none h] at h0
theorem open_strs' (ht : P.underlying t = some (.slice e)) (he : P.underlying e = some .string) (hc : P.cellsOf e = 1) (hval : Value.okWide P W r b0 t v) (hd : DataW.Trod enc P W base (fun _ => true) held t v d ps) :
    ∃ (n : Nat) (x : Nat → ByteArray), Slic W v n (fun i => .string (x i)) ∧ ∀ i, i < n → (x i).size ≤ maxLen := by
  obtain ⟨n, f, h1, h2⟩ := open_slic ht hc hval hd
  have key : ∀ i, i < n → ∃ y : ByteArray, f i = .string y ∧ y.size ≤ maxLen := fun i hi => by
    obtain ⟨fuel, x, hx⟩ := h2 i hi
    obtain ⟨y, hy, _, hw⟩ := DataW.trod_string he hx
    exact ⟨y, by simpa using hy, hw⟩
  haveI : Inhabited ByteArray := ⟨⟨#[]⟩⟩
  obtain ⟨x, hx⟩ := choose_fn key
  exact ⟨n, x, h1.congr fun i hi => (hx i hi).1, fun i hi => (hx i hi).2⟩
theorem open_bools' (ht : P.underlying t = some (.slice e)) (he : P.underlying e = some .bool) (hc : P.cellsOf e = 1) (hval : Value.okWide P W r b0 t v) (hd : DataW.Trod enc P W base (fun _ => true) held t v d ps) :
    ∃ (n : Nat) (x : Nat → Bool), Slic W v n (fun i => .bool (x i)) := by
  obtain ⟨n, f, h1, h2⟩ := open_slic ht hc hval hd
  have key : ∀ i, i < n → ∃ y : Bool, f i = .bool y := fun i hi => by
    obtain ⟨fuel, x, hx⟩ := h2 i hi
    obtain ⟨y, hy, _⟩ := DataW.trod_bool he hx
    exact ⟨y, by simpa using hy⟩
  obtain ⟨x, hx⟩ := choose_fn key
  exact ⟨n, x, h1.congr fun i hi => hx i hi⟩
end
theorem Slic.grow {w w' : World} {v : Value} {n : Nat} {f : Nat → Value} (h : Slic w v n f) (hb : Below w.heap.size w w') : Slic w' v n f := by
  obtain ⟨p, cap, rfl, hS⟩ := h
  refine ⟨p, cap, rfl, fun hn => ?_⟩
  obtain ⟨g0, off, rfl, hg, hx⟩ := hS hn
  exact ⟨g0, off, rfl, by have := hb.size; omega, fun i hi => by rw [hb.cell hg]; exact hx i hi⟩
/-! ### The document's writers -/
set_option maxHeartbeats 400000 in
theorem ruint3_any (x : Int) (hx : U64 x) (w : World) : Calls Try.prog 71 #[.int .u64 x] w fun e w' => e = .returned (.string (Num.lebS x)) ∧ Below w.heap.size w w' := by
  have HU := Lib.hid (ruint_any x hx w)
  go_enter Try.func71, Try.ntmps71
  go_wp2_with (go_at_call 79; ((with_reducible refine HU.out.mono ?_); rintro e w' ⟨rfl, hb⟩))
  go_ret
  exact ⟨rfl, hb⟩
set_option maxHeartbeats 400000 in
theorem rint3_any (x : Int) (hx : I64 x) (w : World) : Calls Try.prog 72 #[.int .i64 x] w fun e w' => e = .returned (.string (intS x)) ∧ Below w.heap.size w w' := by
  have HU := Lib.hid (rint_any x hx w)
  go_enter Try.func72, Try.ntmps72
  go_wp2_with (go_at_call 83; ((with_reducible refine HU.out.mono ?_); rintro e w' ⟨rfl, hb⟩))
  go_ret
  exact ⟨rfl, hb⟩
/-! ### The law -/
namespace Wire
def catS (g : Nat → ByteArray) (n : Nat) : ByteArray := ⟨(cat g n).toArray⟩
theorem catS_zero (g : Nat → ByteArray) : catS g 0 = ⟨#[]⟩ := rfl
theorem catS_succ (g : Nat → ByteArray) (n : Nat) : catS g n ++ g n = catS g (n + 1) := by
  apply ByteArray.ext
  rw [ByteArray.data_append]
  unfold catS
  rw [cat_succ]
  simp
def AllS (g : Nat → ByteArray) (n : Nat) (w : World) (e : Ending) (w' : World) : Prop := e = .returned (.string (catS g n)) ∧ Below w.heap.size w w'
theorem alls {f : FuncId} {args : Array Value} {g : Nat → ByteArray} {n : Nat} {w : World} (h : Calls Try.prog f args w (AllPost g n w)) : Calls Try.prog f args w (AllS g n w) := h
theorem catS_size (g : Nat → ByteArray) (n : Nat) : (catS g n).size = (cat g n).length := by simp [catS, ByteArray.size]
end Wire
end Go.Proofs.Ytbpakckiglgjfaa
