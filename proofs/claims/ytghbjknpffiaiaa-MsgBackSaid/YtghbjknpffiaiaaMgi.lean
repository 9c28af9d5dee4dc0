import Derived.Test.YtghbjknpffiaiaaMgh
import Derived.Deep.QuietTactic
import Derived.BigQuiet

/- A message in memory: its cells and its rows; each part of it, written. No condition. -/
namespace Go.Proofs.Ytghbjknpffiaiaa
open Go.RowKit Wire Ms
set_option linter.unusedVariables false
set_option linter.unusedSimpArgs false
/-- The slices of a message. -/
structure VS where
  i : Value
  a : Value
  n : Value
  h : Value
  m : Value
  c : Value
def mcells (m : M) (v : VS) : Array Value :=
  #[.int .u8 m.kind, .int .u64 m.job, .string m.tok, .string m.prog, v.i, .int .i64 m.fuel, .string m.task.path, .int .i64 m.task.fn, v.a, .int .i64 m.task.fuel, .int .u64 m.epoch, v.n, v.h, v.m, v.c, .int .u8 m.state, .int .i64 m.res.val, .int .i64 m.res.err, .int .i64 m.err]
def lI (x : Int) : List Value := [.int .i64 x]
def lU (x : Int) : List Value := [.int .u64 x]
def lN (n : Nm) : List Value := [.int .u64 n.job, .string n.path]
def lE (e : En) : List Value := [.int .u64 e.nm.job, .string e.nm.path, .int .i64 e.kids, .int .i64 e.res.val, .int .i64 e.res.err]
/-- A row of a message: its elements' cells lie below B. -/
def Rw {α : Type} (sz : Nat) (LAY : α → List Value) (w : World) (B : Nat) (v : Value) (l : List α) : Prop :=
  ∃ p c, v = .slice p l.length c ∧ (0 < l.length → ∃ b off, p = some ⟨b, off, none⟩ ∧ b < B ∧ ∀ i (h : i < l.length) j x, (LAY l[i])[j]? = some x → w.cell? ⟨b, off + i * sz + j, none⟩ = some x)
structure MR (w : World) (B : Nat) (m : M) (v : VS) : Prop where
  ri : Rw 1 lI w B v.i m.input
  ra : Rw 1 lI w B v.a m.task.args
  rn : Rw 5 lE w B v.n m.ents
  rh : Rw 1 lU w B v.h m.epochs
  rm : Rw 2 lN w B v.m m.names
  rc : Rw 1 lI w B v.c m.codes
def MB (w : World) (B g : Nat) (m : M) (v : VS) : Prop := Blk w g 34 (mcells m v) ∧ MR w B m v
/-- Not too much of it. -/
structure Lite (m : M) : Prop where
  tok : m.tok.size ≤ 1000000
  prog : m.prog.size ≤ 1000000
  path : m.task.path.size ≤ 1000000
  input : m.input.length ≤ 1000
  args : m.task.args.length ≤ 1000
  ents : m.ents.length ≤ 1000 ∧ ∀ e ∈ m.ents, e.nm.path.size ≤ 2000
  epochs : m.epochs.length ≤ 1000
  names : m.names.length ≤ 1000 ∧ ∀ n ∈ m.names, n.path.size ≤ 2000
  codes : m.codes.length ≤ 1000
theorem Rw.keep {α : Type} {sz : Nat} {LAY : α → List Value} {w w' : World} {B : Nat} {v : Value} {l : List α} (h : Rw sz LAY w B v l) (hk : ∀ b o x, b < B → w.cell? ⟨b, o, none⟩ = some x → w'.cell? ⟨b, o, none⟩ = some x) : Rw sz LAY w' B v l := by
  obtain ⟨p, c, h1, h2⟩ := h
  refine ⟨p, c, h1, fun h => ?_⟩
  obtain ⟨b, off, h3, h4, h5⟩ := h2 h
  exact ⟨b, off, h3, h4, fun i hi j x hx => hk _ _ _ h4 (h5 i hi j x hx)⟩
theorem MR.keep {w w' : World} {B : Nat} {m : M} {v : VS} (h : MR w B m v) (hk : ∀ b o x, b < B → w.cell? ⟨b, o, none⟩ = some x → w'.cell? ⟨b, o, none⟩ = some x) : MR w' B m v :=
  ⟨h.ri.keep hk, h.ra.keep hk, h.rn.keep hk, h.rh.keep hk, h.rm.keep hk, h.rc.keep hk⟩
theorem Below.cellq {w w' : World} {B b o : Nat} {x : Value} (h : Below B w w') (hb : b < B) (hc : w.cell? ⟨b, o, none⟩ = some x) : w'.cell? ⟨b, o, none⟩ = some x := by
  rw [← hc]; unfold World.cell?; dsimp only; rw [h.block b hb]
theorem MR.below {w w' : World} {B : Nat} {m : M} {v : VS} (h : MR w B m v) (hb : Below B w w') : MR w' B m v := h.keep fun b o x h1 h2 => Below.cellq hb h1 h2
theorem Rw.mono {α : Type} {sz : Nat} {LAY : α → List Value} {w : World} {B B' : Nat} {v : Value} {l : List α} (h : Rw sz LAY w B v l) (hB : B ≤ B') : Rw sz LAY w B' v l := by
  obtain ⟨p, c, h1, h2⟩ := h
  refine ⟨p, c, h1, fun h => ?_⟩
  obtain ⟨b, off, h3, h4, h5⟩ := h2 h
  exact ⟨b, off, h3, Nat.lt_of_lt_of_le h4 hB, h5⟩
theorem MR.mono {w : World} {B B' : Nat} {m : M} {v : VS} (h : MR w B m v) (hB : B ≤ B') : MR w B' m v :=
  ⟨h.ri.mono hB, h.ra.mono hB, h.rn.mono hB, h.rh.mono hB, h.rm.mono hB, h.rc.mono hB⟩
theorem KWb.away {w : World} {B k g : Nat} {out : Ls} {bad : Bool} {L : Nat} {T : TypeId} {A : Array Value} (c : KWb w B k out bad L) (hb : Blk w g T A) (h1 : T ≠ 51) (h2 : T ≠ 5) : Away w B k g := fun e => by
  obtain ⟨out', ⟨vO, hk, h3, h4⟩, h5, h6⟩ := c
  rcases e with e | ⟨_, A', e⟩
  · rw [e] at hb; exact h1 (blk_ne hb hk)
  · exact h2 (blk_ne hb e)
theorem KWb.awayB {w : World} {B k g : Nat} {out : Ls} {bad : Bool} {L : Nat} (c : KWb w B k out bad L) (hb : g < B) : Away w B k g := fun e => by
  have := c.ge
  rcases e with e | ⟨e, _⟩ <;> omega
theorem KWb.mono {w : World} {B k : Nat} {out : Ls} {bad : Bool} {L L' : Nat} (c : KWb w B k out bad L) (h : L ≤ L') : KWb w B k out bad L' := by
  obtain ⟨out', h1, h2, h3⟩ := c
  exact ⟨out', h1, h2, Nat.le_trans h3 h⟩
theorem WrP.mono {w : World} {B k : Nat} {out out' : Ls} {bad bad' : Bool} {L L' : Nat} {e : Ending} {w' : World} (c : WrP w B k out bad L e w') (h : L ≤ L') (ho : out = out') (hb : bad = bad') : WrP w B k out' bad' L' e w' := by
  subst ho hb
  exact ⟨c.1, c.2.1.mono h, c.2.2⟩
/-! ### Lists -/
def outI {α : Type} (out : Ls) (w : α → Ls) (l : List α) (i : Nat) : Ls := out ++ (Num.leb l.length ++ wL w (l.take i))
def badI {α : Type} (bad : Bool) (most : Int) (f : α → Bool) (l : List α) (i : Nat) : Bool := (bad || decide (most < (l.length : Int))) || (l.take i).any f
theorem outI_succ {α : Type} {out : Ls} {w : α → Ls} {l : List α} {i : Nat} (h : i < l.length) : outI out w l i ++ w l[i] = outI out w l (i + 1) := by
  unfold outI wL
  rw [List.take_succ_eq_append_getElem h, List.flatMap_append]
  simp
theorem badI_succ {α : Type} {bad : Bool} {most : Int} {f : α → Bool} {l : List α} {i : Nat} (h : i < l.length) : (badI bad most f l i || f l[i]) = badI bad most f l (i + 1) := by
  unfold badI
  rw [List.take_succ_eq_append_getElem h, List.any_append, Bool.or_assoc]
  simp
theorem outI_zero {α : Type} (out : Ls) (w : α → Ls) (l : List α) : outI out w l 0 = out ++ Num.leb l.length := by unfold outI wL; simp
theorem badI_zero {α : Type} (bad : Bool) (most : Int) (f : α → Bool) (l : List α) : badI bad most f l 0 = (bad || decide (most < (l.length : Int))) := by unfold badI; simp
theorem outI_end {α : Type} (out : Ls) (w : α → Ls) (l : List α) : outI out w l l.length = out ++ wLs w l := by unfold outI wLs; rw [List.take_length]
theorem badI_end {α : Type} (bad : Bool) (most : Int) (f : α → Bool) (l : List α) : badI bad most f l l.length = (bad || (decide (most < (l.length : Int)) || l.any f)) := by unfold badI; rw [List.take_length, Bool.or_assoc]
theorem Rw.at {α : Type} {sz : Nat} {LAY : α → List Value} {w : World} {B : Nat} {p : Option Addr} {c : Nat} {l : List α} (h : Rw sz LAY w B (.slice p l.length c) l) {b off i : Nat} (hp : p = some ⟨b, off, none⟩) (hi : i < l.length) :
    b < B ∧ ∀ j x, (LAY l[i])[j]? = some x → w.cell? ⟨b, off + i * sz + j, none⟩ = some x := by
  obtain ⟨p', c', h1, h2⟩ := h
  injection h1 with h1 _ _
  subst h1
  obtain ⟨b', off', h3, h4, h5⟩ := h2 (by omega)
  rw [hp] at h3
  injection h3 with h3
  injection h3 with e1 e2 _
  subst e1 e2
  exact ⟨h4, fun j x hx => h5 i hi j x hx⟩
section
variable {w : World} {B k g o L : Nat} {out : Ls} {bad : Bool} {v : Value}
theorem lw_i64 {l : List Int} {most : Int}  (c : KWb w B k out bad L) (hB : B ≤ w.heap.size) (hL : L ≤ 500000000) (hx : w.cell? ⟨g, o, none⟩ = some v) (hg : Away w B k g) (hr : Rw 1 lI w B v l) (hl : l.length ≤ 1000) (ht : ∀ x ∈ l, I64 x) (hs : ∀ x ∈ l, True)  :
    Calls Try.prog 53 #[.pointer (some ⟨k, 0, none⟩), .pointer (some ⟨g, o, none⟩), .int .i64 most, .func (.func 54) #[.pointer (some ⟨k, 0, none⟩)] #[]] w (WrP w B k (out ++ wLs wI l) (bad || (decide (most < (l.length : Int)) || l.any (fun _ => false))) (L + 3000000)) := by
  have hr' := hr
  obtain ⟨p, cp, rfl, h2⟩ := hr'
  refine Calls.mono (listw_i64 (OUT := outI out wI l) (BAD := badI bad most (fun _ => false) l) (LL := fun i => L + 10 + i * 2100) c hB (by omega) hx hg (by omega) ⟨outI_zero _ _ _, badI_zero _ _ _ _, by simp⟩ (fun h => ?_) (fun b off hp i hi w' ho c' => ?_)) ?_
  · obtain ⟨b, off, h3, h4, _⟩ := h2 h
    exact ⟨b, off, h3, by omega⟩
  · obtain ⟨h3, h4⟩ := hr.at hp hi
    have hm := List.getElem_mem hi
    have haw : Away w B k b := c.awayB h3
    have hc := fun j x h => ho.cell haw (h4 j x h)
    have hB' : B ≤ w'.heap.size := Nat.le_trans hB ho.size
    have hLL : L + 10 + i * 2100 ≤ 600000000 := by omega
    have hw' := c'.awayB h3
    have tt := ht _ hm
    have ss := hs _ hm
    exact Calls.mono (wholew_any c' hB' (by omega) (by have h0 := hc 0 _ rfl; rw [Nat.mul_one] at h0; exact h0) hw' tt) fun e w2 h => h.mono (by omega) (outI_succ hi) ((Bool.or_false _).symm.trans (badI_succ (f := fun _ => false) hi))
  · intro e w' h
    exact h.mono (by omega) (outI_end _ _ _) (badI_end _ _ _ _)
theorem lw_nm {l : List Nm} {most : Int}  (c : KWb w B k out bad L) (hB : B ≤ w.heap.size) (hL : L ≤ 500000000) (hx : w.cell? ⟨g, o, none⟩ = some v) (hg : Away w B k g) (hr : Rw 2 lN w B v l) (hl : l.length ≤ 1000) (ht : ∀ x ∈ l, U64 x.job) (hs : ∀ x ∈ l, x.path.size ≤ 2000)  :
        Calls Try.prog 55 #[.pointer (some ⟨k, 0, none⟩), .pointer (some ⟨g, o, none⟩), .int .i64 most, .func (.func 56) #[.pointer (some ⟨k, 0, none⟩)] #[]] w (WrP w B k (out ++ wLs wNm l) (bad || (decide (most < (l.length : Int)) || l.any nmW)) (L + 3000000)) := by
      have hr' := hr
      obtain ⟨p, cp, rfl, h2⟩ := hr'
      refine Calls.mono (listw_nm (OUT := outI out wNm l) (BAD := badI bad most nmW l) (LL := fun i => L + 10 + i * 2100) c hB (by omega) hx hg (by omega) ⟨outI_zero _ _ _, badI_zero _ _ _ _, by simp⟩ (fun h => ?_) (fun b off hp i hi w' ho c' => ?_)) ?_
      · obtain ⟨b, off, h3, h4, _⟩ := h2 h
        exact ⟨b, off, h3, by omega⟩
      · obtain ⟨h3, h4⟩ := hr.at hp hi
        have hm := List.getElem_mem hi
        have haw : Away w B k b := c.awayB h3
        have hc := fun j x h => ho.cell haw (h4 j x h)
        have hB' : B ≤ w'.heap.size := Nat.le_trans hB ho.size
        have hLL : L + 10 + i * 2100 ≤ 600000000 := by omega
        have hw' := c'.awayB h3
        have tt := ht _ hm
        have ss := hs _ hm
        exact Calls.mono (namew_any c' hB' (by omega) (hc 0 _ rfl) (hc 1 _ rfl) hw' tt (by omega)) fun e w2 h => h.mono (by omega) (outI_succ hi) (badI_succ hi)
      · intro e w' h
        exact h.mono (by omega) (outI_end _ _ _) (badI_end _ _ _ _)
theorem lw_en {l : List En} {most : Int}  (c : KWb w B k out bad L) (hB : B ≤ w.heap.size) (hL : L ≤ 500000000) (hx : w.cell? ⟨g, o, none⟩ = some v) (hg : Away w B k g) (hr : Rw 5 lE w B v l) (hl : l.length ≤ 1000) (ht : ∀ x ∈ l, U64 x.nm.job ∧ I64 x.kids ∧ I64 x.res.val ∧ I64 x.res.err) (hs : ∀ x ∈ l, x.nm.path.size ≤ 2000)  :
            Calls Try.prog 47 #[.pointer (some ⟨k, 0, none⟩), .pointer (some ⟨g, o, none⟩), .int .i64 most, .func (.func 48) #[.pointer (some ⟨k, 0, none⟩)] #[]] w (WrP w B k (out ++ wLs wEn l) (bad || (decide (most < (l.length : Int)) || l.any enW)) (L + 3000000)) := by
          have hr' := hr
          obtain ⟨p, cp, rfl, h2⟩ := hr'
          refine Calls.mono (listw_en (OUT := outI out wEn l) (BAD := badI bad most enW l) (LL := fun i => L + 10 + i * 2100) c hB (by omega) hx hg (by omega) ⟨outI_zero _ _ _, badI_zero _ _ _ _, by simp⟩ (fun h => ?_) (fun b off hp i hi w' ho c' => ?_)) ?_
          · obtain ⟨b, off, h3, h4, _⟩ := h2 h
            exact ⟨b, off, h3, by omega⟩
          · obtain ⟨h3, h4⟩ := hr.at hp hi
            have hm := List.getElem_mem hi
            have haw : Away w B k b := c.awayB h3
            have hc := fun j x h => ho.cell haw (h4 j x h)
            have hB' : B ≤ w'.heap.size := Nat.le_trans hB ho.size
            have hLL : L + 10 + i * 2100 ≤ 600000000 := by omega
            have hw' := c'.awayB h3
            have tt := ht _ hm
            have ss := hs _ hm
            exact Calls.mono (entw_any c' hB' (by omega) (hc 0 _ rfl) (hc 1 _ rfl) (hc 2 _ rfl) (hc 3 _ rfl) (hc 4 _ rfl) hw' tt (by omega)) fun e w2 h => h.mono (by omega) (outI_succ hi) (badI_succ hi)
          · intro e w' h
            exact h.mono (by omega) (outI_end _ _ _) (badI_end _ _ _ _)
theorem lw_u64 {l : List Int} {most : Int} {bx : Nat} (c : KWb w B k out bad L) (hB : B ≤ w.heap.size) (hL : L ≤ 500000000) (hx : w.cell? ⟨g, o, none⟩ = some v) (hg : Away w B k g) (hr : Rw 1 lU w B v l) (hl : l.length ≤ 1000) (ht : ∀ x ∈ l, U64 x) (hs : ∀ x ∈ l, True) (hxc : w.cell? ⟨bx, 0, none⟩ = some (.pointer (some ⟨k, 0, none⟩))) (hxa : Away w B k bx) :
                Calls Try.prog 49 #[.pointer (some ⟨k, 0, none⟩), .pointer (some ⟨g, o, none⟩), .int .i64 most, .func (.func 50) #[] #[.pointer (some ⟨bx, 0, none⟩)]] w (WrP w B k (out ++ wLs wU l) (bad || (decide (most < (l.length : Int)) || l.any (fun x => nb x 281474976710656))) (L + 3000000)) := by
              have hr' := hr
              obtain ⟨p, cp, rfl, h2⟩ := hr'
              refine Calls.mono (listw_u64 (OUT := outI out wU l) (BAD := badI bad most (fun x => nb x 281474976710656) l) (LL := fun i => L + 10 + i * 2100) c hB (by omega) hx hg (by omega) ⟨outI_zero _ _ _, badI_zero _ _ _ _, by simp⟩ (fun h => ?_) (fun b off hp i hi w' ho c' => ?_)) ?_
              · obtain ⟨b, off, h3, h4, _⟩ := h2 h
                exact ⟨b, off, h3, by omega⟩
              · obtain ⟨h3, h4⟩ := hr.at hp hi
                have hm := List.getElem_mem hi
                have haw : Away w B k b := c.awayB h3
                have hc := fun j x h => ho.cell haw (h4 j x h)
                have hB' : B ≤ w'.heap.size := Nat.le_trans hB ho.size
                have hLL : L + 10 + i * 2100 ≤ 600000000 := by omega
                have hw' := c'.awayB h3
                have tt := ht _ hm
                have ss := hs _ hm
                exact Calls.mono (clos_epochs (ho.cell hxa hxc) (numw_u64 c' hB' (by omega) (by have h0 := hc 0 _ rfl; rw [Nat.mul_one] at h0; exact h0) hw' tt)) fun e w2 h => WrP.mono h (by omega) (outI_succ hi) (badI_succ hi)
              · intro e w' h
                exact h.mono (by omega) (outI_end _ _ _) (badI_end _ _ _ _)
theorem lw_err {l : List Int} {most : Int} {bx : Nat} (c : KWb w B k out bad L) (hB : B ≤ w.heap.size) (hL : L ≤ 500000000) (hx : w.cell? ⟨g, o, none⟩ = some v) (hg : Away w B k g) (hr : Rw 1 lI w B v l) (hl : l.length ≤ 1000) (ht : ∀ x ∈ l, I64 x) (hs : ∀ x ∈ l, True) (hxc : w.cell? ⟨bx, 0, none⟩ = some (.pointer (some ⟨k, 0, none⟩))) (hxa : Away w B k bx) :
                    Calls Try.prog 57 #[.pointer (some ⟨k, 0, none⟩), .pointer (some ⟨g, o, none⟩), .int .i64 most, .func (.func 58) #[] #[.pointer (some ⟨bx, 0, none⟩)]] w (WrP w B k (out ++ wLs wU l) (bad || (decide (most < (l.length : Int)) || l.any (fun x => nb x 9999))) (L + 3000000)) := by
                  have hr' := hr
                  obtain ⟨p, cp, rfl, h2⟩ := hr'
                  refine Calls.mono (listw_err (OUT := outI out wU l) (BAD := badI bad most (fun x => nb x 9999) l) (LL := fun i => L + 10 + i * 2100) c hB (by omega) hx hg (by omega) ⟨outI_zero _ _ _, badI_zero _ _ _ _, by simp⟩ (fun h => ?_) (fun b off hp i hi w' ho c' => ?_)) ?_
                  · obtain ⟨b, off, h3, h4, _⟩ := h2 h
                    exact ⟨b, off, h3, by omega⟩
                  · obtain ⟨h3, h4⟩ := hr.at hp hi
                    have hm := List.getElem_mem hi
                    have haw : Away w B k b := c.awayB h3
                    have hc := fun j x h => ho.cell haw (h4 j x h)
                    have hB' : B ≤ w'.heap.size := Nat.le_trans hB ho.size
                    have hLL : L + 10 + i * 2100 ≤ 600000000 := by omega
                    have hw' := c'.awayB h3
                    have tt := ht _ hm
                    have ss := hs _ hm
                    exact Calls.mono (clos_codes (ho.cell hxa hxc) (numw_err c' hB' (by omega) (by have h0 := hc 0 _ rfl; rw [Nat.mul_one] at h0; exact h0) hw' tt)) fun e w2 h => WrP.mono h (by omega) (outI_succ hi) (badI_succ hi)
                  · intro e w' h
                    exact h.mono (by omega) (outI_end _ _ _) (badI_end _ _ _ _)
end
end Go.Proofs.Ytghbjknpffiaiaa


/- The walks that tell whether two lists are the same. No condition but that lists are not too long. -/
namespace Go.Proofs.Ytghbjknpffiaiaa
open Go.RowKit Wire Ms
set_option linter.unusedVariables false
set_option linter.unusedSimpArgs false
theorem eq_take_succ {α : Type} {a b : List α} {i : Nat} (ha : i < a.length) (hb : i < b.length) (h : a.take i = b.take i) (e : a[i] = b[i]) : a.take (i + 1) = b.take (i + 1) := by
  rw [List.take_succ_eq_append_getElem ha, List.take_succ_eq_append_getElem hb, h, e]
theorem eq_ne_at {α : Type} {a b : List α} {i : Nat} (ha : i < a.length) (hb : i < b.length) (e : ¬ a[i] = b[i]) : ¬ a = b := fun h => by subst h; exact e rfl
theorem eq_of_tk {α : Type} {a b : List α} (hl : a.length = b.length) (h : a.take a.length = b.take a.length) : a = b := by
  rw [List.take_length, hl, List.take_length] at h; exact h
def EqRl {α : Type} (a b : List α) (w : World) (u : Value) (wr : World) : Prop := ∃ i : Nat, i ≤ a.length ∧ u = .int .i64 i ∧ a.take i = b.take i ∧ Below w.heap.size w wr
def EqP (b : Bool) (w : World) (e : Ending) (w' : World) : Prop := e = .returned (.bool b) ∧ Below w.heap.size w w'
theorem drewN_bl (w : World) (n : Nat) : Below w.heap.size w (w.drewN n) := ⟨rfl, rfl, rfl, Nat.le_refl _, fun _ _ => rfl⟩
theorem Rw.ptr {α : Type} {sz : Nat} {LAY : α → List Value} {w : World} {B : Nat} {p : Option Addr} {c n : Nat} {l : List α} (h : Rw sz LAY w B (.slice p n c) l) {i : Nat} (hi : i < l.length) :
    ∃ b off, p = some ⟨b, off, none⟩ ∧ b < B ∧ ∀ j x, (LAY l[i])[j]? = some x → w.cell? ⟨b, off + i * sz + j, none⟩ = some x := by
  obtain ⟨p', c', h1, h2⟩ := h
  injection h1 with h1 _ _
  subst h1
  obtain ⟨b, off, h3, h4, h5⟩ := h2 (by omega)
  exact ⟨b, off, h3, h4, fun j x hx => h5 i hi j x hx⟩
set_option maxRecDepth 100000 in
set_option maxHeartbeats 4000000 in
theorem eq_int {l m : List Int} {w : World} {B : Nat} {v u : Value} (hv : Rw 1 lI w B v l) (hu : Rw 1 lI w B u m) (hB : B ≤ w.heap.size) (hn : l.length ≤ 140737488355328) :
    Calls Try.prog 14 #[v, u] w (EqP (decide (l = m)) w) := by
  have hvv := hv
  have huu := hu
  obtain ⟨p1, c1, rfl, _⟩ := hvv
  obtain ⟨p2, c2, rfl, _⟩ := huu
  have HS1 := Lib.hid hv
  have HS2 := Lib.hid hu
  have HBB := Lib.hid hB
  clear hv hu hB
  by_cases hlen : l.length = m.length
  · have hlen' : ((l.length : Int) == (m.length : Int)) = true := by simp [hlen]
    have HLEN := Lib.hid hlen
    clear hlen
    go_enter Try.func14, Try.ntmps14
    go_wp2
    clear hlen'
    go_loopw [13] (fun u wr => EqRl l m w u wr) (fun u _ => ((l.length : Int) - intOf u).toNat)
    case atStart => exact ⟨0, by omega, rfl, rfl, Below.refl _ _⟩
    case round =>
      obtain ⟨k, hk1, rfl, htk, hb⟩ := hrel
      by_cases hk : k < l.length
      · have hk2 : k < m.length := by have := HLEN.out; omega
        obtain ⟨g1, o1, rfl, hg1, hx⟩ := HS1.out.ptr hk
        obtain ⟨g2, o2, rfl, hg2, hy⟩ := HS2.out.ptr hk2
        have hBB := HBB.out
        have x0 := Below.cellq hb (by omega) (hx 0 _ rfl)
        have y0 := Below.cellq hb (by omega) (hy 0 _ rfl)
        have hne := fun e => eq_ne_at (a := l) (b := m) hk hk2 e
        have heq := fun e => eq_take_succ (a := l) (b := m) hk hk2 htk e
        have hki : (k : Int) < (m.length : Int) := by omega
        have HE : Hid (wrap64 ((k : Int) + 1) = ((k + 1 : Nat) : Int)) := Lib.hid (wr64 rfl (by omega))
        have HB := Lib.hid hb
        clear hx hy hb htk hBB
        generalize l[k] = oa at *
        generalize m[k] = ob at *
        obtain ⟨a0, ha0⟩ : ∃ a0, a0 = oa := ⟨_, rfl⟩
        subst ha0
        obtain ⟨b0, hb0⟩ : ∃ b0, b0 = ob := ⟨_, rfl⟩
        subst hb0
        simp only [Nat.mul_one, Nat.add_zero] at x0 y0
        have HNE := Lib.hid hne
        have HEQ := Lib.hid heq
        clear hne heq
        by_cases e0 : a0 = b0
        · subst e0
          have hn := Lib.hid (HEQ.out rfl)
          clear HEQ HNE
          go_wp2
          go_quiet (fail)
          go_wp2
          go_roundw
          case rel => (try rw [HE.out]); exact ⟨k + 1, by omega, rfl, hn.out, HB.out.trans ((drewN_bl wr _).mono HB.out.size)⟩
          case measure => (try rw [HE.out]); simp [intOf]; omega
        · have hn := Lib.hid (HNE.out (fun h => e0 (congrArg (fun x => x) h)))
          have hb' : (a0 == b0) = false := by simpa using e0
          clear HEQ HNE e0
          go_wp2
          go_quiet (fail)
          go_wp2
          go_ret
          exact ⟨(congrArg (fun z => Ending.returned (Value.bool z)) (decide_eq_false hn.out)).symm, HB.out.trans ((drewN_bl wr _).mono HB.out.size)⟩
      · have : k = l.length := by omega
        subst this
        have HE := Lib.hid (eq_of_tk HLEN.out htk)
        clear htk
        go_wp2
        go_ret
        exact ⟨(congrArg (fun z => Ending.returned (Value.bool z)) (decide_eq_true HE.out)).symm, hb⟩
  · have hlen' : ((l.length : Int) == (m.length : Int)) = false := by simpa using fun e => hlen (by omega)
    have HN := Lib.hid (show ¬ l = m from fun e => hlen (by rw [e]))
    clear hlen
    go_enter Try.func14, Try.ntmps14
    go_wp2
    go_ret
    exact ⟨(congrArg (fun z => Ending.returned (Value.bool z)) (decide_eq_false HN.out)).symm, Below.refl _ _⟩
set_option maxRecDepth 100000 in
set_option maxHeartbeats 4000000 in
theorem eq_u64 {l m : List Int} {w : World} {B : Nat} {v u : Value} (hv : Rw 1 lU w B v l) (hu : Rw 1 lU w B u m) (hB : B ≤ w.heap.size) (hn : l.length ≤ 140737488355328) :
    Calls Try.prog 17 #[v, u] w (EqP (decide (l = m)) w) := by
  have hvv := hv
  have huu := hu
  obtain ⟨p1, c1, rfl, _⟩ := hvv
  obtain ⟨p2, c2, rfl, _⟩ := huu
  have HS1 := Lib.hid hv
  have HS2 := Lib.hid hu
  have HBB := Lib.hid hB
  clear hv hu hB
  by_cases hlen : l.length = m.length
  · have hlen' : ((l.length : Int) == (m.length : Int)) = true := by simp [hlen]
    have HLEN := Lib.hid hlen
    clear hlen
    go_enter Try.func17, Try.ntmps17
    go_wp2
    clear hlen'
    go_loopw [13] (fun u wr => EqRl l m w u wr) (fun u _ => ((l.length : Int) - intOf u).toNat)
    case atStart => exact ⟨0, by omega, rfl, rfl, Below.refl _ _⟩
    case round =>
      obtain ⟨k, hk1, rfl, htk, hb⟩ := hrel
      by_cases hk : k < l.length
      · have hk2 : k < m.length := by have := HLEN.out; omega
        obtain ⟨g1, o1, rfl, hg1, hx⟩ := HS1.out.ptr hk
        obtain ⟨g2, o2, rfl, hg2, hy⟩ := HS2.out.ptr hk2
        have hBB := HBB.out
        have x0 := Below.cellq hb (by omega) (hx 0 _ rfl)
        have y0 := Below.cellq hb (by omega) (hy 0 _ rfl)
        have hne := fun e => eq_ne_at (a := l) (b := m) hk hk2 e
        have heq := fun e => eq_take_succ (a := l) (b := m) hk hk2 htk e
        have hki : (k : Int) < (m.length : Int) := by omega
        have HE : Hid (wrap64 ((k : Int) + 1) = ((k + 1 : Nat) : Int)) := Lib.hid (wr64 rfl (by omega))
        have HB := Lib.hid hb
        clear hx hy hb htk hBB
        generalize l[k] = oa at *
        generalize m[k] = ob at *
        obtain ⟨a0, ha0⟩ : ∃ a0, a0 = oa := ⟨_, rfl⟩
        subst ha0
        obtain ⟨b0, hb0⟩ : ∃ b0, b0 = ob := ⟨_, rfl⟩
        subst hb0
        simp only [Nat.mul_one, Nat.add_zero] at x0 y0
        have HNE := Lib.hid hne
        have HEQ := Lib.hid heq
        clear hne heq
        by_cases e0 : a0 = b0
        · subst e0
          have hn := Lib.hid (HEQ.out rfl)
          clear HEQ HNE
          go_wp2
          go_quiet (fail)
          go_wp2
          go_roundw
          case rel => (try rw [HE.out]); exact ⟨k + 1, by omega, rfl, hn.out, HB.out.trans ((drewN_bl wr _).mono HB.out.size)⟩
          case measure => (try rw [HE.out]); simp [intOf]; omega
        · have hn := Lib.hid (HNE.out (fun h => e0 (congrArg (fun x => x) h)))
          have hb' : (a0 == b0) = false := by simpa using e0
          clear HEQ HNE e0
          go_wp2
          go_quiet (fail)
          go_wp2
          go_ret
          exact ⟨(congrArg (fun z => Ending.returned (Value.bool z)) (decide_eq_false hn.out)).symm, HB.out.trans ((drewN_bl wr _).mono HB.out.size)⟩
      · have : k = l.length := by omega
        subst this
        have HE := Lib.hid (eq_of_tk HLEN.out htk)
        clear htk
        go_wp2
        go_ret
        exact ⟨(congrArg (fun z => Ending.returned (Value.bool z)) (decide_eq_true HE.out)).symm, hb⟩
  · have hlen' : ((l.length : Int) == (m.length : Int)) = false := by simpa using fun e => hlen (by omega)
    have HN := Lib.hid (show ¬ l = m from fun e => hlen (by rw [e]))
    clear hlen
    go_enter Try.func17, Try.ntmps17
    go_wp2
    go_ret
    exact ⟨(congrArg (fun z => Ending.returned (Value.bool z)) (decide_eq_false HN.out)).symm, Below.refl _ _⟩
set_option maxRecDepth 100000 in
set_option maxHeartbeats 4000000 in
theorem eq_nm {l m : List Nm} {w : World} {B : Nat} {v u : Value} (hv : Rw 2 lN w B v l) (hu : Rw 2 lN w B u m) (hB : B ≤ w.heap.size) (hn : l.length ≤ 140737488355328) :
    Calls Try.prog 18 #[v, u] w (EqP (decide (l = m)) w) := by
  have hvv := hv
  have huu := hu
  obtain ⟨p1, c1, rfl, _⟩ := hvv
  obtain ⟨p2, c2, rfl, _⟩ := huu
  have HS1 := Lib.hid hv
  have HS2 := Lib.hid hu
  have HBB := Lib.hid hB
  clear hv hu hB
  by_cases hlen : l.length = m.length
  · have hlen' : ((l.length : Int) == (m.length : Int)) = true := by simp [hlen]
    have HLEN := Lib.hid hlen
    clear hlen
    go_enter Try.func18, Try.ntmps18
    go_wp2
    clear hlen'
    go_loopw [13] (fun u wr => EqRl l m w u wr) (fun u _ => ((l.length : Int) - intOf u).toNat)
    case atStart => exact ⟨0, by omega, rfl, rfl, Below.refl _ _⟩
    case round =>
      obtain ⟨k, hk1, rfl, htk, hb⟩ := hrel
      by_cases hk : k < l.length
      · have hk2 : k < m.length := by have := HLEN.out; omega
        obtain ⟨g1, o1, rfl, hg1, hx⟩ := HS1.out.ptr hk
        obtain ⟨g2, o2, rfl, hg2, hy⟩ := HS2.out.ptr hk2
        have hBB := HBB.out
        have x0 := Below.cellq hb (by omega) (hx 0 _ rfl)
        have y0 := Below.cellq hb (by omega) (hy 0 _ rfl)
        have x1 := Below.cellq hb (by omega) (hx 1 _ rfl)
        have y1 := Below.cellq hb (by omega) (hy 1 _ rfl)
        have hne := fun e => eq_ne_at (a := l) (b := m) hk hk2 e
        have heq := fun e => eq_take_succ (a := l) (b := m) hk hk2 htk e
        have hki : (k : Int) < (m.length : Int) := by omega
        have HE : Hid (wrap64 ((k : Int) + 1) = ((k + 1 : Nat) : Int)) := Lib.hid (wr64 rfl (by omega))
        have HB := Lib.hid hb
        clear hx hy hb htk hBB
        generalize l[k] = oa at *
        generalize m[k] = ob at *
        obtain ⟨a0, a1⟩ := oa
        obtain ⟨b0, b1⟩ := ob
        simp only [Nat.add_zero] at x0 y0 x1 y1
        have HNE := Lib.hid hne
        have HEQ := Lib.hid heq
        clear hne heq
        by_cases e0 : a0 = b0
        · subst e0
          by_cases e1 : a1 = b1
          · subst e1
            have hn := Lib.hid (HEQ.out rfl)
            clear HEQ HNE
            have hs1 := str_of (a := a1) rfl
            go_wp2
            go_quiet (fail)
            go_wp2
            go_roundw
            case rel => (try rw [HE.out]); exact ⟨k + 1, by omega, rfl, hn.out, HB.out.trans ((drewN_bl wr _).mono HB.out.size)⟩
            case measure => (try rw [HE.out]); simp [intOf]; omega
          · have hn := Lib.hid (HNE.out (fun h => e1 (congrArg (Nm.path) h)))
            have hb' := str_ne e1
            clear HEQ HNE e1
            go_wp2
            go_quiet (fail)
            go_wp2
            go_ret
            exact ⟨(congrArg (fun z => Ending.returned (Value.bool z)) (decide_eq_false hn.out)).symm, HB.out.trans ((drewN_bl wr _).mono HB.out.size)⟩
        · have hn := Lib.hid (HNE.out (fun h => e0 (congrArg (Nm.job) h)))
          have hb' : (a0 == b0) = false := by simpa using e0
          clear HEQ HNE e0
          go_wp2
          go_quiet (fail)
          go_wp2
          go_ret
          exact ⟨(congrArg (fun z => Ending.returned (Value.bool z)) (decide_eq_false hn.out)).symm, HB.out.trans ((drewN_bl wr _).mono HB.out.size)⟩
      · have : k = l.length := by omega
        subst this
        have HE := Lib.hid (eq_of_tk HLEN.out htk)
        clear htk
        go_wp2
        go_ret
        exact ⟨(congrArg (fun z => Ending.returned (Value.bool z)) (decide_eq_true HE.out)).symm, hb⟩
  · have hlen' : ((l.length : Int) == (m.length : Int)) = false := by simpa using fun e => hlen (by omega)
    have HN := Lib.hid (show ¬ l = m from fun e => hlen (by rw [e]))
    clear hlen
    go_enter Try.func18, Try.ntmps18
    go_wp2
    go_ret
    exact ⟨(congrArg (fun z => Ending.returned (Value.bool z)) (decide_eq_false HN.out)).symm, Below.refl _ _⟩
set_option maxRecDepth 100000 in
set_option maxHeartbeats 4000000 in
theorem eq_en {l m : List En} {w : World} {B : Nat} {v u : Value} (hv : Rw 5 lE w B v l) (hu : Rw 5 lE w B u m) (hB : B ≤ w.heap.size) (hn : l.length ≤ 140737488355328) :
    Calls Try.prog 16 #[v, u] w (EqP (decide (l = m)) w) := by
  have hvv := hv
  have huu := hu
  obtain ⟨p1, c1, rfl, _⟩ := hvv
  obtain ⟨p2, c2, rfl, _⟩ := huu
  have HS1 := Lib.hid hv
  have HS2 := Lib.hid hu
  have HBB := Lib.hid hB
  clear hv hu hB
  by_cases hlen : l.length = m.length
  · have hlen' : ((l.length : Int) == (m.length : Int)) = true := by simp [hlen]
    have HLEN := Lib.hid hlen
    clear hlen
    go_enter Try.func16, Try.ntmps16
    go_wp2
    clear hlen'
    go_loopw [13] (fun u wr => EqRl l m w u wr) (fun u _ => ((l.length : Int) - intOf u).toNat)
    case atStart => exact ⟨0, by omega, rfl, rfl, Below.refl _ _⟩
    case round =>
      obtain ⟨k, hk1, rfl, htk, hb⟩ := hrel
      by_cases hk : k < l.length
      · have hk2 : k < m.length := by have := HLEN.out; omega
        obtain ⟨g1, o1, rfl, hg1, hx⟩ := HS1.out.ptr hk
        obtain ⟨g2, o2, rfl, hg2, hy⟩ := HS2.out.ptr hk2
        have hBB := HBB.out
        have x0 := Below.cellq hb (by omega) (hx 0 _ rfl)
        have y0 := Below.cellq hb (by omega) (hy 0 _ rfl)
        have x1 := Below.cellq hb (by omega) (hx 1 _ rfl)
        have y1 := Below.cellq hb (by omega) (hy 1 _ rfl)
        have x2 := Below.cellq hb (by omega) (hx 2 _ rfl)
        have y2 := Below.cellq hb (by omega) (hy 2 _ rfl)
        have x3 := Below.cellq hb (by omega) (hx 3 _ rfl)
        have y3 := Below.cellq hb (by omega) (hy 3 _ rfl)
        have x4 := Below.cellq hb (by omega) (hx 4 _ rfl)
        have y4 := Below.cellq hb (by omega) (hy 4 _ rfl)
        have hne := fun e => eq_ne_at (a := l) (b := m) hk hk2 e
        have heq := fun e => eq_take_succ (a := l) (b := m) hk hk2 htk e
        have hki : (k : Int) < (m.length : Int) := by omega
        have HE : Hid (wrap64 ((k : Int) + 1) = ((k + 1 : Nat) : Int)) := Lib.hid (wr64 rfl (by omega))
        have HB := Lib.hid hb
        clear hx hy hb htk hBB
        generalize l[k] = oa at *
        generalize m[k] = ob at *
        obtain ⟨⟨a0, a1⟩, a2, ⟨a3, a4⟩⟩ := oa
        obtain ⟨⟨b0, b1⟩, b2, ⟨b3, b4⟩⟩ := ob
        simp only [Nat.add_zero] at x0 y0 x1 y1 x2 y2 x3 y3 x4 y4
        have HNE := Lib.hid hne
        have HEQ := Lib.hid heq
        clear hne heq
        by_cases e0 : a0 = b0
        · subst e0
          by_cases e1 : a1 = b1
          · subst e1
            by_cases e2 : a2 = b2
            · subst e2
              by_cases e3 : a3 = b3
              · subst e3
                by_cases e4 : a4 = b4
                · subst e4
                  have hn := Lib.hid (HEQ.out rfl)
                  clear HEQ HNE
                  have hs1 := str_of (a := a1) rfl
                  go_wp2
                  go_quiet (fail)
                  go_wp2
                  go_roundw
                  case rel => (try rw [HE.out]); exact ⟨k + 1, by omega, rfl, hn.out, HB.out.trans ((drewN_bl wr _).mono HB.out.size)⟩
                  case measure => (try rw [HE.out]); simp [intOf]; omega
                · have hn := Lib.hid (HNE.out (fun h => e4 (congrArg (fun e => e.res.err) h)))
                  have hb' : (a4 == b4) = false := by simpa using e4
                  have hs1 := str_of (a := a1) rfl
                  clear HEQ HNE e4
                  go_wp2
                  go_quiet (fail)
                  go_wp2
                  go_ret
                  exact ⟨(congrArg (fun z => Ending.returned (Value.bool z)) (decide_eq_false hn.out)).symm, HB.out.trans ((drewN_bl wr _).mono HB.out.size)⟩
              · have hn := Lib.hid (HNE.out (fun h => e3 (congrArg (fun e => e.res.val) h)))
                have hb' : (a3 == b3) = false := by simpa using e3
                have hs1 := str_of (a := a1) rfl
                clear HEQ HNE e3
                go_wp2
                go_quiet (fail)
                go_wp2
                go_ret
                exact ⟨(congrArg (fun z => Ending.returned (Value.bool z)) (decide_eq_false hn.out)).symm, HB.out.trans ((drewN_bl wr _).mono HB.out.size)⟩
            · have hn := Lib.hid (HNE.out (fun h => e2 (congrArg (fun e => e.kids) h)))
              have hb' : (a2 == b2) = false := by simpa using e2
              have hs1 := str_of (a := a1) rfl
              clear HEQ HNE e2
              go_wp2
              go_quiet (fail)
              go_wp2
              go_ret
              exact ⟨(congrArg (fun z => Ending.returned (Value.bool z)) (decide_eq_false hn.out)).symm, HB.out.trans ((drewN_bl wr _).mono HB.out.size)⟩
          · have hn := Lib.hid (HNE.out (fun h => e1 (congrArg (fun e => e.nm.path) h)))
            have hb' := str_ne e1
            clear HEQ HNE e1
            go_wp2
            go_quiet (fail)
            go_wp2
            go_ret
            exact ⟨(congrArg (fun z => Ending.returned (Value.bool z)) (decide_eq_false hn.out)).symm, HB.out.trans ((drewN_bl wr _).mono HB.out.size)⟩
        · have hn := Lib.hid (HNE.out (fun h => e0 (congrArg (fun e => e.nm.job) h)))
          have hb' : (a0 == b0) = false := by simpa using e0
          clear HEQ HNE e0
          go_wp2
          go_quiet (fail)
          go_wp2
          go_ret
          exact ⟨(congrArg (fun z => Ending.returned (Value.bool z)) (decide_eq_false hn.out)).symm, HB.out.trans ((drewN_bl wr _).mono HB.out.size)⟩
      · have : k = l.length := by omega
        subst this
        have HE := Lib.hid (eq_of_tk HLEN.out htk)
        clear htk
        go_wp2
        go_ret
        exact ⟨(congrArg (fun z => Ending.returned (Value.bool z)) (decide_eq_true HE.out)).symm, hb⟩
  · have hlen' : ((l.length : Int) == (m.length : Int)) = false := by simpa using fun e => hlen (by omega)
    have HN := Lib.hid (show ¬ l = m from fun e => hlen (by rw [e]))
    clear hlen
    go_enter Try.func16, Try.ntmps16
    go_wp2
    go_ret
    exact ⟨(congrArg (fun z => Ending.returned (Value.bool z)) (decide_eq_false HN.out)).symm, Below.refl _ _⟩
set_option maxRecDepth 100000 in
set_option maxHeartbeats 4000000 in
theorem eq_err {l m : List Int} {w : World} {B : Nat} {v u : Value} (hv : Rw 1 lI w B v l) (hu : Rw 1 lI w B u m) (hB : B ≤ w.heap.size) (hn : l.length ≤ 140737488355328) :
    Calls Try.prog 19 #[v, u] w (EqP (decide (l = m)) w) := by
  have hvv := hv
  have huu := hu
  obtain ⟨p1, c1, rfl, _⟩ := hvv
  obtain ⟨p2, c2, rfl, _⟩ := huu
  have HS1 := Lib.hid hv
  have HS2 := Lib.hid hu
  have HBB := Lib.hid hB
  clear hv hu hB
  by_cases hlen : l.length = m.length
  · have hlen' : ((l.length : Int) == (m.length : Int)) = true := by simp [hlen]
    have HLEN := Lib.hid hlen
    clear hlen
    go_enter Try.func19, Try.ntmps19
    go_wp2
    clear hlen'
    go_loopw [13] (fun u wr => EqRl l m w u wr) (fun u _ => ((l.length : Int) - intOf u).toNat)
    case atStart => exact ⟨0, by omega, rfl, rfl, Below.refl _ _⟩
    case round =>
      obtain ⟨k, hk1, rfl, htk, hb⟩ := hrel
      by_cases hk : k < l.length
      · have hk2 : k < m.length := by have := HLEN.out; omega
        obtain ⟨g1, o1, rfl, hg1, hx⟩ := HS1.out.ptr hk
        obtain ⟨g2, o2, rfl, hg2, hy⟩ := HS2.out.ptr hk2
        have hBB := HBB.out
        have x0 := Below.cellq hb (by omega) (hx 0 _ rfl)
        have y0 := Below.cellq hb (by omega) (hy 0 _ rfl)
        have hne := fun e => eq_ne_at (a := l) (b := m) hk hk2 e
        have heq := fun e => eq_take_succ (a := l) (b := m) hk hk2 htk e
        have hki : (k : Int) < (m.length : Int) := by omega
        have HE : Hid (wrap64 ((k : Int) + 1) = ((k + 1 : Nat) : Int)) := Lib.hid (wr64 rfl (by omega))
        have HB := Lib.hid hb
        clear hx hy hb htk hBB
        generalize l[k] = oa at *
        generalize m[k] = ob at *
        obtain ⟨a0, ha0⟩ : ∃ a0, a0 = oa := ⟨_, rfl⟩
        subst ha0
        obtain ⟨b0, hb0⟩ : ∃ b0, b0 = ob := ⟨_, rfl⟩
        subst hb0
        simp only [Nat.mul_one, Nat.add_zero] at x0 y0
        have HNE := Lib.hid hne
        have HEQ := Lib.hid heq
        clear hne heq
        by_cases e0 : a0 = b0
        · subst e0
          have hn := Lib.hid (HEQ.out rfl)
          clear HEQ HNE
          go_wp2
          go_quiet (fail)
          go_wp2
          go_roundw
          case rel => (try rw [HE.out]); exact ⟨k + 1, by omega, rfl, hn.out, HB.out.trans ((drewN_bl wr _).mono HB.out.size)⟩
          case measure => (try rw [HE.out]); simp [intOf]; omega
        · have hn := Lib.hid (HNE.out (fun h => e0 (congrArg (fun x => x) h)))
          have hb' : (a0 == b0) = false := by simpa using e0
          clear HEQ HNE e0
          go_wp2
          go_quiet (fail)
          go_wp2
          go_ret
          exact ⟨(congrArg (fun z => Ending.returned (Value.bool z)) (decide_eq_false hn.out)).symm, HB.out.trans ((drewN_bl wr _).mono HB.out.size)⟩
      · have : k = l.length := by omega
        subst this
        have HE := Lib.hid (eq_of_tk HLEN.out htk)
        clear htk
        go_wp2
        go_ret
        exact ⟨(congrArg (fun z => Ending.returned (Value.bool z)) (decide_eq_true HE.out)).symm, hb⟩
  · have hlen' : ((l.length : Int) == (m.length : Int)) = false := by simpa using fun e => hlen (by omega)
    have HN := Lib.hid (show ¬ l = m from fun e => hlen (by rw [e]))
    clear hlen
    go_enter Try.func19, Try.ntmps19
    go_wp2
    go_ret
    exact ⟨(congrArg (fun z => Ending.returned (Value.bool z)) (decide_eq_false HN.out)).symm, Below.refl _ _⟩
end Go.Proofs.Ytghbjknpffiaiaa


/- The walks that tell whether two tasks are the same. No condition but that lists are not too long. -/
namespace Go.Proofs.Ytghbjknpffiaiaa
open Go.RowKit Wire Ms
set_option linter.unusedVariables false
set_option linter.unusedSimpArgs false
theorem blk_new1 (W : World) (o : Obj) (T : TypeId) (A : Array Value) : Blk ((W.alloc o).alloc (.cells A T)) (W.heap.size + 1) T A := by
  have h := Blk.new (W.alloc o) T A
  rwa [show (W.alloc o).heap.size = W.heap.size + 1 by simp] at h
theorem wpl_here {P : Program} {ops : Array Oper} {rest : List Oper} {a : Act} {Q : Exit → Act → World → Prop} {W : World} {oA oB : Obj} (h : ∀ W1, W1 = (W.alloc oA).alloc oB → wpList P ops Q rest a W1) : wpList P ops Q rest a ((W.alloc oA).alloc oB) := h _ rfl
theorem Rw.slc {α : Type} {sz : Nat} {LAY : α → List Value} {w : World} {B : Nat} {v : Value} {l : List α} (h : Rw sz LAY w B v l) : ∃ p c, v = .slice p l.length c := by
  obtain ⟨p, c, h1, _⟩ := h
  exact ⟨p, c, h1⟩
theorem MR.vs {w : World} {B : Nat} {m : M} {v : VS} (h : MR w B m v) : ∃ p1 c1 p2 c2 p3 c3 p4 c4 p5 c5 p6 c6, v = ⟨.slice p1 m.input.length c1, .slice p2 m.task.args.length c2, .slice p3 m.ents.length c3, .slice p4 m.epochs.length c4, .slice p5 m.names.length c5, .slice p6 m.codes.length c6⟩ := by
  obtain ⟨p1, c1, e1⟩ := h.ri.slc
  obtain ⟨p2, c2, e2⟩ := h.ra.slc
  obtain ⟨p3, c3, e3⟩ := h.rn.slc
  obtain ⟨p4, c4, e4⟩ := h.rh.slc
  obtain ⟨p5, c5, e5⟩ := h.rm.slc
  obtain ⟨p6, c6, e6⟩ := h.rc.slc
  refine ⟨p1, c1, p2, c2, p3, c3, p4, c4, p5, c5, p6, c6, ?_⟩
  obtain ⟨vi, va, vn, vh, vm, vc⟩ := v
  dsimp only at *
  subst e1 e2 e3 e4 e5 e6
  rfl
set_option maxRecDepth 100000 in
set_option maxHeartbeats 4000000 in
theorem tsk_any {t u : Tk} {W : World} {B : Nat} {v v2 : Value} (hv : Rw 1 lI W B v t.args) (hu : Rw 1 lI W B v2 u.args) (hB : B ≤ W.heap.size) (hn : t.args.length ≤ 1000) :
    Calls Try.prog 15 #[.agg #[.string t.path, .int .i64 t.fn, v, .int .i64 t.fuel], .agg #[.string u.path, .int .i64 u.fn, v2, .int .i64 u.fuel]] W (EqP (decide (t = u)) W) := by
  have HC1 := Lib.hid (fun w (hb : Below W.heap.size W w) => eq_int (hv.keep fun b o x hlt hx => Below.cellq hb (by omega) hx) (hu.keep fun b o x hlt hx => Below.cellq hb (by omega) hx) (Nat.le_trans hB hb.size) (by omega))
  obtain ⟨p2, c2, rfl⟩ := hv.slc
  obtain ⟨q2, d2, rfl⟩ := hu.slc
  clear hv hu hn
  obtain ⟨a6, a7, a8, a9⟩ := t
  obtain ⟨b6, b7, b8, b9⟩ := u
  dsimp only at *
  obtain ⟨r, hr⟩ : ∃ r : Bool, r = decide ((⟨a6, a7, a8, a9⟩ : Tk) = ⟨b6, b7, b8, b9⟩) := ⟨_, rfl⟩
  rw [← hr]
  have HR := Lib.hid hr
  clear hr
  have HB0 := Lib.hid (((Below.refl _ W).alloc (Nat.le_refl _) (.cells #[.string a6, .int .i64 a7, .slice p2 a8.length c2, .int .i64 a9] 25)).alloc (by simp) (.cells #[.string b6, .int .i64 b7, .slice q2 b8.length d2, .int .i64 b9] 25))
  have HA0 := Lib.hid ((Blk.new W 25 #[.string a6, .int .i64 a7, .slice p2 a8.length c2, .int .i64 a9]).alloc (.cells #[.string b6, .int .i64 b7, .slice q2 b8.length d2, .int .i64 b9] 25))
  have HX0 := Lib.hid (blk_new1 W (.cells #[.string a6, .int .i64 a7, .slice p2 a8.length c2, .int .i64 a9] 25) 25 #[.string b6, .int .i64 b7, .slice q2 b8.length d2, .int .i64 b9])
  by_cases e6 : a6 = b6
  · subst e6
    have hs6 := str_of (a := a6) rfl
    by_cases e7 : a7 = b7
    · subst e7
      by_cases e8 : a8 = b8
      · subst e8
        have H1 := Lib.hid (show ∀ w, Below W.heap.size W w → Calls Try.prog 14 #[.slice p2 a8.length c2, .slice q2 a8.length d2] w (EqP true w) from fun w hb => by have h := HC1.out w hb; rw [decide_eq_true rfl] at h; exact h)
        by_cases e9 : a9 = b9
        · subst e9
          have HT := Lib.hid (HR.out.trans (decide_eq_true rfl))
          go_enter Try.func15, Try.ntmps15
          go_wp2_with (go_at_call 14; go_loud ((with_reducible refine (H1.out _ HB0.out).mono ?_); rintro e w1 ⟨rfl, hb1⟩; have HB1 := Lib.hid (HB0.out.step hb1); have HA1 := Lib.hid (HA0.out.below hb1); have HX1 := Lib.hid (HX0.out.below hb1); clear hb1; have x9 : w1.cell? ⟨W.heap.size, 3, none⟩ = some (.int .i64 a9) := HA1.out.cell 3; have y9 : w1.cell? ⟨W.heap.size + 1, 3, none⟩ = some (.int .i64 a9) := HX1.out.cell 3))
          go_ret
          exact ⟨(congrArg (fun z => Ending.returned (Value.bool z)) HT.out).symm, HB1.out⟩
        · have hn := Lib.hid (show ¬ (⟨a6, a7, a8, a9⟩ : Tk) = (⟨a6, a7, a8, b9⟩ : Tk) from fun h => e9 (congrArg (Tk.fuel) h))
          have hb' : (a9 == b9) = false := by simpa using e9
          go_enter Try.func15, Try.ntmps15
          go_wp2_with (go_at_call 14; go_loud ((with_reducible refine (H1.out _ HB0.out).mono ?_); rintro e w1 ⟨rfl, hb1⟩; have HB1 := Lib.hid (HB0.out.step hb1); have HA1 := Lib.hid (HA0.out.below hb1); have HX1 := Lib.hid (HX0.out.below hb1); clear hb1; have x9 : w1.cell? ⟨W.heap.size, 3, none⟩ = some (.int .i64 a9) := HA1.out.cell 3; have y9 : w1.cell? ⟨W.heap.size + 1, 3, none⟩ = some (.int .i64 b9) := HX1.out.cell 3))
          go_ret
          exact ⟨(congrArg (fun z => Ending.returned (Value.bool z)) (HR.out.trans (decide_eq_false hn.out))).symm, HB1.out⟩
      · have hn := Lib.hid (show ¬ (⟨a6, a7, a8, a9⟩ : Tk) = (⟨a6, a7, b8, b9⟩ : Tk) from fun h => e8 (congrArg (Tk.args) h))
        have H1 := Lib.hid (show ∀ w, Below W.heap.size W w → Calls Try.prog 14 #[.slice p2 a8.length c2, .slice q2 b8.length d2] w (EqP false w) from fun w hb => by have h := HC1.out w hb; rw [decide_eq_false e8] at h; exact h)
        go_enter Try.func15, Try.ntmps15
        go_wp2_with (go_at_call 14; go_loud ((with_reducible refine (H1.out _ HB0.out).mono ?_); rintro e w1 ⟨rfl, hb1⟩; have HB1 := Lib.hid (HB0.out.step hb1); have HA1 := Lib.hid (HA0.out.below hb1); have HX1 := Lib.hid (HX0.out.below hb1); clear hb1; have x9 : w1.cell? ⟨W.heap.size, 3, none⟩ = some (.int .i64 a9) := HA1.out.cell 3; have y9 : w1.cell? ⟨W.heap.size + 1, 3, none⟩ = some (.int .i64 b9) := HX1.out.cell 3))
        go_ret
        exact ⟨(congrArg (fun z => Ending.returned (Value.bool z)) (HR.out.trans (decide_eq_false hn.out))).symm, HB1.out⟩
    · have hn := Lib.hid (show ¬ (⟨a6, a7, a8, a9⟩ : Tk) = (⟨a6, b7, b8, b9⟩ : Tk) from fun h => e7 (congrArg (Tk.fn) h))
      have hb' : (a7 == b7) = false := by simpa using e7
      go_enter Try.func15, Try.ntmps15
      go_wp2_with fail
      go_ret
      exact ⟨(congrArg (fun z => Ending.returned (Value.bool z)) (HR.out.trans (decide_eq_false hn.out))).symm, HB0.out⟩
  · have hn := Lib.hid (show ¬ (⟨a6, a7, a8, a9⟩ : Tk) = (⟨b6, b7, b8, b9⟩ : Tk) from fun h => e6 (congrArg (Tk.path) h))
    have hb' := str_ne e6
    go_enter Try.func15, Try.ntmps15
    go_wp2_with fail
    go_ret
    exact ⟨(congrArg (fun z => Ending.returned (Value.bool z)) (HR.out.trans (decide_eq_false hn.out))).symm, HB0.out⟩
end Go.Proofs.Ytghbjknpffiaiaa


/- Cases of what tells whether two messages are the same. No condition but that lists are not too long. -/
namespace Go.Proofs.Ytghbjknpffiaiaa
open Go.RowKit Wire Ms
set_option linter.unusedVariables false
set_option linter.unusedSimpArgs false
set_option maxRecDepth 100000 in
set_option maxHeartbeats 8000000 in
theorem same_c0 {a0 : Int} {a1 : Int} {a2 : ByteArray} {a3 : ByteArray} {a4 : List Int} {a5 : Int} {a6 : ByteArray} {a7 : Int} {a8 : List Int} {a9 : Int} {a10 : Int} {a11 : List En} {a12 : List Int} {a13 : List Nm} {a14 : List Int} {a15 : Int} {a16 : Int} {a17 : Int} {a18 : Int} {b0 : Int} {b1 : Int} {b2 : ByteArray} {b3 : ByteArray} {b4 : List Int} {b5 : Int} {b6 : ByteArray} {b7 : Int} {b8 : List Int} {b9 : Int} {b10 : Int} {b11 : List En} {b12 : List Int} {b13 : List Nm} {b14 : List Int} {b15 : Int} {b16 : Int} {b17 : Int} {b18 : Int} {W : World} {B : Nat} {p1 p2 p3 p4 p5 p6 q1 q2 q3 q4 q5 q6 : Option Addr} {c1 c2 c3 c4 c5 c6 d1 d2 d3 d4 d5 d6 : Nat}
    (hv : MR W B (⟨a0, a1, a2, a3, a4, a5, ⟨a6, a7, a8, a9⟩, a10, a11, a12, a13, a14, a15, ⟨a16, a17⟩, a18⟩ : M) ⟨.slice p1 a4.length c1, .slice p2 a8.length c2, .slice p3 a11.length c3, .slice p4 a12.length c4, .slice p5 a13.length c5, .slice p6 a14.length c6⟩) (hu : MR W B (⟨b0, b1, b2, b3, b4, b5, ⟨b6, b7, b8, b9⟩, b10, b11, b12, b13, b14, b15, ⟨b16, b17⟩, b18⟩ : M) ⟨.slice q1 b4.length d1, .slice q2 b8.length d2, .slice q3 b11.length d3, .slice q4 b12.length d4, .slice q5 b13.length d5, .slice q6 b14.length d6⟩) (hB : B ≤ W.heap.size) (hl : Lite (⟨a0, a1, a2, a3, a4, a5, ⟨a6, a7, a8, a9⟩, a10, a11, a12, a13, a14, a15, ⟨a16, a17⟩, a18⟩ : M)) (hne : ¬ a0 = b0) :
    Calls Try.prog 9 #[.agg #[.int .u8 a0, .int .u64 a1, .string a2, .string a3, .slice p1 a4.length c1, .int .i64 a5, .string a6, .int .i64 a7, .slice p2 a8.length c2, .int .i64 a9, .int .u64 a10, .slice p3 a11.length c3, .slice p4 a12.length c4, .slice p5 a13.length c5, .slice p6 a14.length c6, .int .u8 a15, .int .i64 a16, .int .i64 a17, .int .i64 a18], .agg #[.int .u8 b0, .int .u64 b1, .string b2, .string b3, .slice q1 b4.length d1, .int .i64 b5, .string b6, .int .i64 b7, .slice q2 b8.length d2, .int .i64 b9, .int .u64 b10, .slice q3 b11.length d3, .slice q4 b12.length d4, .slice q5 b13.length d5, .slice q6 b14.length d6, .int .u8 b15, .int .i64 b16, .int .i64 b17, .int .i64 b18]] W (EqP false W) := by
  have HB0 := Lib.hid (((Below.refl _ W).alloc (Nat.le_refl _) (.cells #[.int .u8 a0, .int .u64 a1, .string a2, .string a3, .slice p1 a4.length c1, .int .i64 a5, .string a6, .int .i64 a7, .slice p2 a8.length c2, .int .i64 a9, .int .u64 a10, .slice p3 a11.length c3, .slice p4 a12.length c4, .slice p5 a13.length c5, .slice p6 a14.length c6, .int .u8 a15, .int .i64 a16, .int .i64 a17, .int .i64 a18] 34)).alloc (by simp) (.cells #[.int .u8 b0, .int .u64 b1, .string b2, .string b3, .slice q1 b4.length d1, .int .i64 b5, .string b6, .int .i64 b7, .slice q2 b8.length d2, .int .i64 b9, .int .u64 b10, .slice q3 b11.length d3, .slice q4 b12.length d4, .slice q5 b13.length d5, .slice q6 b14.length d6, .int .u8 b15, .int .i64 b16, .int .i64 b17, .int .i64 b18] 34))
  have HA0 := Lib.hid ((Blk.new W 34 #[.int .u8 a0, .int .u64 a1, .string a2, .string a3, .slice p1 a4.length c1, .int .i64 a5, .string a6, .int .i64 a7, .slice p2 a8.length c2, .int .i64 a9, .int .u64 a10, .slice p3 a11.length c3, .slice p4 a12.length c4, .slice p5 a13.length c5, .slice p6 a14.length c6, .int .u8 a15, .int .i64 a16, .int .i64 a17, .int .i64 a18]).alloc (.cells #[.int .u8 b0, .int .u64 b1, .string b2, .string b3, .slice q1 b4.length d1, .int .i64 b5, .string b6, .int .i64 b7, .slice q2 b8.length d2, .int .i64 b9, .int .u64 b10, .slice q3 b11.length d3, .slice q4 b12.length d4, .slice q5 b13.length d5, .slice q6 b14.length d6, .int .u8 b15, .int .i64 b16, .int .i64 b17, .int .i64 b18] 34))
  have HX0 := Lib.hid (blk_new1 W (.cells #[.int .u8 a0, .int .u64 a1, .string a2, .string a3, .slice p1 a4.length c1, .int .i64 a5, .string a6, .int .i64 a7, .slice p2 a8.length c2, .int .i64 a9, .int .u64 a10, .slice p3 a11.length c3, .slice p4 a12.length c4, .slice p5 a13.length c5, .slice p6 a14.length c6, .int .u8 a15, .int .i64 a16, .int .i64 a17, .int .i64 a18] 34) 34 #[.int .u8 b0, .int .u64 b1, .string b2, .string b3, .slice q1 b4.length d1, .int .i64 b5, .string b6, .int .i64 b7, .slice q2 b8.length d2, .int .i64 b9, .int .u64 b10, .slice q3 b11.length d3, .slice q4 b12.length d4, .slice q5 b13.length d5, .slice q6 b14.length d6, .int .u8 b15, .int .i64 b16, .int .i64 b17, .int .i64 b18])
  have hb' : (a0 == b0) = false := by simpa using hne
  clear hv hu hl hB hne
  generalize a4.length = na4 at *
  generalize b4.length = nb4 at *
  generalize a8.length = na8 at *
  generalize b8.length = nb8 at *
  generalize a11.length = na11 at *
  generalize b11.length = nb11 at *
  generalize a12.length = na12 at *
  generalize b12.length = nb12 at *
  generalize a13.length = na13 at *
  generalize b13.length = nb13 at *
  generalize a14.length = na14 at *
  generalize b14.length = nb14 at *
  go_enter Try.func9, Try.ntmps9
  go_wp2_with (first | (with_reducible refine wpl_here (W := W) (oA := (.cells #[.int .u8 a0, .int .u64 a1, .string a2, .string a3, .slice p1 na4 c1, .int .i64 a5, .string a6, .int .i64 a7, .slice p2 na8 c2, .int .i64 a9, .int .u64 a10, .slice p3 na11 c3, .slice p4 na12 c4, .slice p5 na13 c5, .slice p6 na14 c6, .int .u8 a15, .int .i64 a16, .int .i64 a17, .int .i64 a18] 34)) (oB := (.cells #[.int .u8 b0, .int .u64 b1, .string b2, .string b3, .slice q1 nb4 d1, .int .i64 b5, .string b6, .int .i64 b7, .slice q2 nb8 d2, .int .i64 b9, .int .u64 b10, .slice q3 nb11 d3, .slice q4 nb12 d4, .slice q5 nb13 d5, .slice q6 nb14 d6, .int .u8 b15, .int .i64 b16, .int .i64 b17, .int .i64 b18] 34)) ?_; intro W1 hW1; rw [← hW1] at HA0 HX0 HB0; clear hW1; have x0 : W1.cell? ⟨W.heap.size, 0, none⟩ = some (.int .u8 a0) := HA0.out.cell 0; have y0 : W1.cell? ⟨W.heap.size + 1, 0, none⟩ = some (.int .u8 b0) := HX0.out.cell 0))
  go_ret
  exact ⟨rfl, HB0.out⟩
set_option maxRecDepth 100000 in
set_option maxHeartbeats 8000000 in
theorem same_c1 {a0 : Int} {a1 : Int} {a2 : ByteArray} {a3 : ByteArray} {a4 : List Int} {a5 : Int} {a6 : ByteArray} {a7 : Int} {a8 : List Int} {a9 : Int} {a10 : Int} {a11 : List En} {a12 : List Int} {a13 : List Nm} {a14 : List Int} {a15 : Int} {a16 : Int} {a17 : Int} {a18 : Int} {b1 : Int} {b2 : ByteArray} {b3 : ByteArray} {b4 : List Int} {b5 : Int} {b6 : ByteArray} {b7 : Int} {b8 : List Int} {b9 : Int} {b10 : Int} {b11 : List En} {b12 : List Int} {b13 : List Nm} {b14 : List Int} {b15 : Int} {b16 : Int} {b17 : Int} {b18 : Int} {W : World} {B : Nat} {p1 p2 p3 p4 p5 p6 q1 q2 q3 q4 q5 q6 : Option Addr} {c1 c2 c3 c4 c5 c6 d1 d2 d3 d4 d5 d6 : Nat}
    (hv : MR W B (⟨a0, a1, a2, a3, a4, a5, ⟨a6, a7, a8, a9⟩, a10, a11, a12, a13, a14, a15, ⟨a16, a17⟩, a18⟩ : M) ⟨.slice p1 a4.length c1, .slice p2 a8.length c2, .slice p3 a11.length c3, .slice p4 a12.length c4, .slice p5 a13.length c5, .slice p6 a14.length c6⟩) (hu : MR W B (⟨a0, b1, b2, b3, b4, b5, ⟨b6, b7, b8, b9⟩, b10, b11, b12, b13, b14, b15, ⟨b16, b17⟩, b18⟩ : M) ⟨.slice q1 b4.length d1, .slice q2 b8.length d2, .slice q3 b11.length d3, .slice q4 b12.length d4, .slice q5 b13.length d5, .slice q6 b14.length d6⟩) (hB : B ≤ W.heap.size) (hl : Lite (⟨a0, a1, a2, a3, a4, a5, ⟨a6, a7, a8, a9⟩, a10, a11, a12, a13, a14, a15, ⟨a16, a17⟩, a18⟩ : M)) (hne : ¬ a1 = b1) :
    Calls Try.prog 9 #[.agg #[.int .u8 a0, .int .u64 a1, .string a2, .string a3, .slice p1 a4.length c1, .int .i64 a5, .string a6, .int .i64 a7, .slice p2 a8.length c2, .int .i64 a9, .int .u64 a10, .slice p3 a11.length c3, .slice p4 a12.length c4, .slice p5 a13.length c5, .slice p6 a14.length c6, .int .u8 a15, .int .i64 a16, .int .i64 a17, .int .i64 a18], .agg #[.int .u8 a0, .int .u64 b1, .string b2, .string b3, .slice q1 b4.length d1, .int .i64 b5, .string b6, .int .i64 b7, .slice q2 b8.length d2, .int .i64 b9, .int .u64 b10, .slice q3 b11.length d3, .slice q4 b12.length d4, .slice q5 b13.length d5, .slice q6 b14.length d6, .int .u8 b15, .int .i64 b16, .int .i64 b17, .int .i64 b18]] W (EqP false W) := by
  have HB0 := Lib.hid (((Below.refl _ W).alloc (Nat.le_refl _) (.cells #[.int .u8 a0, .int .u64 a1, .string a2, .string a3, .slice p1 a4.length c1, .int .i64 a5, .string a6, .int .i64 a7, .slice p2 a8.length c2, .int .i64 a9, .int .u64 a10, .slice p3 a11.length c3, .slice p4 a12.length c4, .slice p5 a13.length c5, .slice p6 a14.length c6, .int .u8 a15, .int .i64 a16, .int .i64 a17, .int .i64 a18] 34)).alloc (by simp) (.cells #[.int .u8 a0, .int .u64 b1, .string b2, .string b3, .slice q1 b4.length d1, .int .i64 b5, .string b6, .int .i64 b7, .slice q2 b8.length d2, .int .i64 b9, .int .u64 b10, .slice q3 b11.length d3, .slice q4 b12.length d4, .slice q5 b13.length d5, .slice q6 b14.length d6, .int .u8 b15, .int .i64 b16, .int .i64 b17, .int .i64 b18] 34))
  have HA0 := Lib.hid ((Blk.new W 34 #[.int .u8 a0, .int .u64 a1, .string a2, .string a3, .slice p1 a4.length c1, .int .i64 a5, .string a6, .int .i64 a7, .slice p2 a8.length c2, .int .i64 a9, .int .u64 a10, .slice p3 a11.length c3, .slice p4 a12.length c4, .slice p5 a13.length c5, .slice p6 a14.length c6, .int .u8 a15, .int .i64 a16, .int .i64 a17, .int .i64 a18]).alloc (.cells #[.int .u8 a0, .int .u64 b1, .string b2, .string b3, .slice q1 b4.length d1, .int .i64 b5, .string b6, .int .i64 b7, .slice q2 b8.length d2, .int .i64 b9, .int .u64 b10, .slice q3 b11.length d3, .slice q4 b12.length d4, .slice q5 b13.length d5, .slice q6 b14.length d6, .int .u8 b15, .int .i64 b16, .int .i64 b17, .int .i64 b18] 34))
  have HX0 := Lib.hid (blk_new1 W (.cells #[.int .u8 a0, .int .u64 a1, .string a2, .string a3, .slice p1 a4.length c1, .int .i64 a5, .string a6, .int .i64 a7, .slice p2 a8.length c2, .int .i64 a9, .int .u64 a10, .slice p3 a11.length c3, .slice p4 a12.length c4, .slice p5 a13.length c5, .slice p6 a14.length c6, .int .u8 a15, .int .i64 a16, .int .i64 a17, .int .i64 a18] 34) 34 #[.int .u8 a0, .int .u64 b1, .string b2, .string b3, .slice q1 b4.length d1, .int .i64 b5, .string b6, .int .i64 b7, .slice q2 b8.length d2, .int .i64 b9, .int .u64 b10, .slice q3 b11.length d3, .slice q4 b12.length d4, .slice q5 b13.length d5, .slice q6 b14.length d6, .int .u8 b15, .int .i64 b16, .int .i64 b17, .int .i64 b18])
  have hb' : (a1 == b1) = false := by simpa using hne
  clear hv hu hl hB hne
  generalize a4.length = na4 at *
  generalize b4.length = nb4 at *
  generalize a8.length = na8 at *
  generalize b8.length = nb8 at *
  generalize a11.length = na11 at *
  generalize b11.length = nb11 at *
  generalize a12.length = na12 at *
  generalize b12.length = nb12 at *
  generalize a13.length = na13 at *
  generalize b13.length = nb13 at *
  generalize a14.length = na14 at *
  generalize b14.length = nb14 at *
  go_enter Try.func9, Try.ntmps9
  go_wp2_with (first | (with_reducible refine wpl_here (W := W) (oA := (.cells #[.int .u8 a0, .int .u64 a1, .string a2, .string a3, .slice p1 na4 c1, .int .i64 a5, .string a6, .int .i64 a7, .slice p2 na8 c2, .int .i64 a9, .int .u64 a10, .slice p3 na11 c3, .slice p4 na12 c4, .slice p5 na13 c5, .slice p6 na14 c6, .int .u8 a15, .int .i64 a16, .int .i64 a17, .int .i64 a18] 34)) (oB := (.cells #[.int .u8 a0, .int .u64 b1, .string b2, .string b3, .slice q1 nb4 d1, .int .i64 b5, .string b6, .int .i64 b7, .slice q2 nb8 d2, .int .i64 b9, .int .u64 b10, .slice q3 nb11 d3, .slice q4 nb12 d4, .slice q5 nb13 d5, .slice q6 nb14 d6, .int .u8 b15, .int .i64 b16, .int .i64 b17, .int .i64 b18] 34)) ?_; intro W1 hW1; rw [← hW1] at HA0 HX0 HB0; clear hW1; have x0 : W1.cell? ⟨W.heap.size, 0, none⟩ = some (.int .u8 a0) := HA0.out.cell 0; have y0 : W1.cell? ⟨W.heap.size + 1, 0, none⟩ = some (.int .u8 a0) := HX0.out.cell 0; have x1 : W1.cell? ⟨W.heap.size, 1, none⟩ = some (.int .u64 a1) := HA0.out.cell 1; have y1 : W1.cell? ⟨W.heap.size + 1, 1, none⟩ = some (.int .u64 b1) := HX0.out.cell 1))
  go_ret
  exact ⟨rfl, HB0.out⟩
set_option maxRecDepth 100000 in
set_option maxHeartbeats 8000000 in
theorem same_c2 {a0 : Int} {a1 : Int} {a2 : ByteArray} {a3 : ByteArray} {a4 : List Int} {a5 : Int} {a6 : ByteArray} {a7 : Int} {a8 : List Int} {a9 : Int} {a10 : Int} {a11 : List En} {a12 : List Int} {a13 : List Nm} {a14 : List Int} {a15 : Int} {a16 : Int} {a17 : Int} {a18 : Int} {b2 : ByteArray} {b3 : ByteArray} {b4 : List Int} {b5 : Int} {b6 : ByteArray} {b7 : Int} {b8 : List Int} {b9 : Int} {b10 : Int} {b11 : List En} {b12 : List Int} {b13 : List Nm} {b14 : List Int} {b15 : Int} {b16 : Int} {b17 : Int} {b18 : Int} {W : World} {B : Nat} {p1 p2 p3 p4 p5 p6 q1 q2 q3 q4 q5 q6 : Option Addr} {c1 c2 c3 c4 c5 c6 d1 d2 d3 d4 d5 d6 : Nat}
    (hv : MR W B (⟨a0, a1, a2, a3, a4, a5, ⟨a6, a7, a8, a9⟩, a10, a11, a12, a13, a14, a15, ⟨a16, a17⟩, a18⟩ : M) ⟨.slice p1 a4.length c1, .slice p2 a8.length c2, .slice p3 a11.length c3, .slice p4 a12.length c4, .slice p5 a13.length c5, .slice p6 a14.length c6⟩) (hu : MR W B (⟨a0, a1, b2, b3, b4, b5, ⟨b6, b7, b8, b9⟩, b10, b11, b12, b13, b14, b15, ⟨b16, b17⟩, b18⟩ : M) ⟨.slice q1 b4.length d1, .slice q2 b8.length d2, .slice q3 b11.length d3, .slice q4 b12.length d4, .slice q5 b13.length d5, .slice q6 b14.length d6⟩) (hB : B ≤ W.heap.size) (hl : Lite (⟨a0, a1, a2, a3, a4, a5, ⟨a6, a7, a8, a9⟩, a10, a11, a12, a13, a14, a15, ⟨a16, a17⟩, a18⟩ : M)) (hne : ¬ a2 = b2) :
    Calls Try.prog 9 #[.agg #[.int .u8 a0, .int .u64 a1, .string a2, .string a3, .slice p1 a4.length c1, .int .i64 a5, .string a6, .int .i64 a7, .slice p2 a8.length c2, .int .i64 a9, .int .u64 a10, .slice p3 a11.length c3, .slice p4 a12.length c4, .slice p5 a13.length c5, .slice p6 a14.length c6, .int .u8 a15, .int .i64 a16, .int .i64 a17, .int .i64 a18], .agg #[.int .u8 a0, .int .u64 a1, .string b2, .string b3, .slice q1 b4.length d1, .int .i64 b5, .string b6, .int .i64 b7, .slice q2 b8.length d2, .int .i64 b9, .int .u64 b10, .slice q3 b11.length d3, .slice q4 b12.length d4, .slice q5 b13.length d5, .slice q6 b14.length d6, .int .u8 b15, .int .i64 b16, .int .i64 b17, .int .i64 b18]] W (EqP false W) := by
  have HB0 := Lib.hid (((Below.refl _ W).alloc (Nat.le_refl _) (.cells #[.int .u8 a0, .int .u64 a1, .string a2, .string a3, .slice p1 a4.length c1, .int .i64 a5, .string a6, .int .i64 a7, .slice p2 a8.length c2, .int .i64 a9, .int .u64 a10, .slice p3 a11.length c3, .slice p4 a12.length c4, .slice p5 a13.length c5, .slice p6 a14.length c6, .int .u8 a15, .int .i64 a16, .int .i64 a17, .int .i64 a18] 34)).alloc (by simp) (.cells #[.int .u8 a0, .int .u64 a1, .string b2, .string b3, .slice q1 b4.length d1, .int .i64 b5, .string b6, .int .i64 b7, .slice q2 b8.length d2, .int .i64 b9, .int .u64 b10, .slice q3 b11.length d3, .slice q4 b12.length d4, .slice q5 b13.length d5, .slice q6 b14.length d6, .int .u8 b15, .int .i64 b16, .int .i64 b17, .int .i64 b18] 34))
  have HA0 := Lib.hid ((Blk.new W 34 #[.int .u8 a0, .int .u64 a1, .string a2, .string a3, .slice p1 a4.length c1, .int .i64 a5, .string a6, .int .i64 a7, .slice p2 a8.length c2, .int .i64 a9, .int .u64 a10, .slice p3 a11.length c3, .slice p4 a12.length c4, .slice p5 a13.length c5, .slice p6 a14.length c6, .int .u8 a15, .int .i64 a16, .int .i64 a17, .int .i64 a18]).alloc (.cells #[.int .u8 a0, .int .u64 a1, .string b2, .string b3, .slice q1 b4.length d1, .int .i64 b5, .string b6, .int .i64 b7, .slice q2 b8.length d2, .int .i64 b9, .int .u64 b10, .slice q3 b11.length d3, .slice q4 b12.length d4, .slice q5 b13.length d5, .slice q6 b14.length d6, .int .u8 b15, .int .i64 b16, .int .i64 b17, .int .i64 b18] 34))
  have HX0 := Lib.hid (blk_new1 W (.cells #[.int .u8 a0, .int .u64 a1, .string a2, .string a3, .slice p1 a4.length c1, .int .i64 a5, .string a6, .int .i64 a7, .slice p2 a8.length c2, .int .i64 a9, .int .u64 a10, .slice p3 a11.length c3, .slice p4 a12.length c4, .slice p5 a13.length c5, .slice p6 a14.length c6, .int .u8 a15, .int .i64 a16, .int .i64 a17, .int .i64 a18] 34) 34 #[.int .u8 a0, .int .u64 a1, .string b2, .string b3, .slice q1 b4.length d1, .int .i64 b5, .string b6, .int .i64 b7, .slice q2 b8.length d2, .int .i64 b9, .int .u64 b10, .slice q3 b11.length d3, .slice q4 b12.length d4, .slice q5 b13.length d5, .slice q6 b14.length d6, .int .u8 b15, .int .i64 b16, .int .i64 b17, .int .i64 b18])
  have hb' := str_ne hne
  clear hv hu hl hB hne
  generalize a4.length = na4 at *
  generalize b4.length = nb4 at *
  generalize a8.length = na8 at *
  generalize b8.length = nb8 at *
  generalize a11.length = na11 at *
  generalize b11.length = nb11 at *
  generalize a12.length = na12 at *
  generalize b12.length = nb12 at *
  generalize a13.length = na13 at *
  generalize b13.length = nb13 at *
  generalize a14.length = na14 at *
  generalize b14.length = nb14 at *
  go_enter Try.func9, Try.ntmps9
  go_wp2_with (first | (with_reducible refine wpl_here (W := W) (oA := (.cells #[.int .u8 a0, .int .u64 a1, .string a2, .string a3, .slice p1 na4 c1, .int .i64 a5, .string a6, .int .i64 a7, .slice p2 na8 c2, .int .i64 a9, .int .u64 a10, .slice p3 na11 c3, .slice p4 na12 c4, .slice p5 na13 c5, .slice p6 na14 c6, .int .u8 a15, .int .i64 a16, .int .i64 a17, .int .i64 a18] 34)) (oB := (.cells #[.int .u8 a0, .int .u64 a1, .string b2, .string b3, .slice q1 nb4 d1, .int .i64 b5, .string b6, .int .i64 b7, .slice q2 nb8 d2, .int .i64 b9, .int .u64 b10, .slice q3 nb11 d3, .slice q4 nb12 d4, .slice q5 nb13 d5, .slice q6 nb14 d6, .int .u8 b15, .int .i64 b16, .int .i64 b17, .int .i64 b18] 34)) ?_; intro W1 hW1; rw [← hW1] at HA0 HX0 HB0; clear hW1; have x0 : W1.cell? ⟨W.heap.size, 0, none⟩ = some (.int .u8 a0) := HA0.out.cell 0; have y0 : W1.cell? ⟨W.heap.size + 1, 0, none⟩ = some (.int .u8 a0) := HX0.out.cell 0; have x1 : W1.cell? ⟨W.heap.size, 1, none⟩ = some (.int .u64 a1) := HA0.out.cell 1; have y1 : W1.cell? ⟨W.heap.size + 1, 1, none⟩ = some (.int .u64 a1) := HX0.out.cell 1; have x2 : W1.cell? ⟨W.heap.size, 2, none⟩ = some (.string a2) := HA0.out.cell 2; have y2 : W1.cell? ⟨W.heap.size + 1, 2, none⟩ = some (.string b2) := HX0.out.cell 2))
  go_ret
  exact ⟨rfl, HB0.out⟩
set_option maxRecDepth 100000 in
set_option maxHeartbeats 8000000 in
theorem same_c3 {a0 : Int} {a1 : Int} {a2 : ByteArray} {a3 : ByteArray} {a4 : List Int} {a5 : Int} {a6 : ByteArray} {a7 : Int} {a8 : List Int} {a9 : Int} {a10 : Int} {a11 : List En} {a12 : List Int} {a13 : List Nm} {a14 : List Int} {a15 : Int} {a16 : Int} {a17 : Int} {a18 : Int} {b3 : ByteArray} {b4 : List Int} {b5 : Int} {b6 : ByteArray} {b7 : Int} {b8 : List Int} {b9 : Int} {b10 : Int} {b11 : List En} {b12 : List Int} {b13 : List Nm} {b14 : List Int} {b15 : Int} {b16 : Int} {b17 : Int} {b18 : Int} {W : World} {B : Nat} {p1 p2 p3 p4 p5 p6 q1 q2 q3 q4 q5 q6 : Option Addr} {c1 c2 c3 c4 c5 c6 d1 d2 d3 d4 d5 d6 : Nat}
    (hv : MR W B (⟨a0, a1, a2, a3, a4, a5, ⟨a6, a7, a8, a9⟩, a10, a11, a12, a13, a14, a15, ⟨a16, a17⟩, a18⟩ : M) ⟨.slice p1 a4.length c1, .slice p2 a8.length c2, .slice p3 a11.length c3, .slice p4 a12.length c4, .slice p5 a13.length c5, .slice p6 a14.length c6⟩) (hu : MR W B (⟨a0, a1, a2, b3, b4, b5, ⟨b6, b7, b8, b9⟩, b10, b11, b12, b13, b14, b15, ⟨b16, b17⟩, b18⟩ : M) ⟨.slice q1 b4.length d1, .slice q2 b8.length d2, .slice q3 b11.length d3, .slice q4 b12.length d4, .slice q5 b13.length d5, .slice q6 b14.length d6⟩) (hB : B ≤ W.heap.size) (hl : Lite (⟨a0, a1, a2, a3, a4, a5, ⟨a6, a7, a8, a9⟩, a10, a11, a12, a13, a14, a15, ⟨a16, a17⟩, a18⟩ : M)) (hne : ¬ a3 = b3) :
    Calls Try.prog 9 #[.agg #[.int .u8 a0, .int .u64 a1, .string a2, .string a3, .slice p1 a4.length c1, .int .i64 a5, .string a6, .int .i64 a7, .slice p2 a8.length c2, .int .i64 a9, .int .u64 a10, .slice p3 a11.length c3, .slice p4 a12.length c4, .slice p5 a13.length c5, .slice p6 a14.length c6, .int .u8 a15, .int .i64 a16, .int .i64 a17, .int .i64 a18], .agg #[.int .u8 a0, .int .u64 a1, .string a2, .string b3, .slice q1 b4.length d1, .int .i64 b5, .string b6, .int .i64 b7, .slice q2 b8.length d2, .int .i64 b9, .int .u64 b10, .slice q3 b11.length d3, .slice q4 b12.length d4, .slice q5 b13.length d5, .slice q6 b14.length d6, .int .u8 b15, .int .i64 b16, .int .i64 b17, .int .i64 b18]] W (EqP false W) := by
  have HB0 := Lib.hid (((Below.refl _ W).alloc (Nat.le_refl _) (.cells #[.int .u8 a0, .int .u64 a1, .string a2, .string a3, .slice p1 a4.length c1, .int .i64 a5, .string a6, .int .i64 a7, .slice p2 a8.length c2, .int .i64 a9, .int .u64 a10, .slice p3 a11.length c3, .slice p4 a12.length c4, .slice p5 a13.length c5, .slice p6 a14.length c6, .int .u8 a15, .int .i64 a16, .int .i64 a17, .int .i64 a18] 34)).alloc (by simp) (.cells #[.int .u8 a0, .int .u64 a1, .string a2, .string b3, .slice q1 b4.length d1, .int .i64 b5, .string b6, .int .i64 b7, .slice q2 b8.length d2, .int .i64 b9, .int .u64 b10, .slice q3 b11.length d3, .slice q4 b12.length d4, .slice q5 b13.length d5, .slice q6 b14.length d6, .int .u8 b15, .int .i64 b16, .int .i64 b17, .int .i64 b18] 34))
  have HA0 := Lib.hid ((Blk.new W 34 #[.int .u8 a0, .int .u64 a1, .string a2, .string a3, .slice p1 a4.length c1, .int .i64 a5, .string a6, .int .i64 a7, .slice p2 a8.length c2, .int .i64 a9, .int .u64 a10, .slice p3 a11.length c3, .slice p4 a12.length c4, .slice p5 a13.length c5, .slice p6 a14.length c6, .int .u8 a15, .int .i64 a16, .int .i64 a17, .int .i64 a18]).alloc (.cells #[.int .u8 a0, .int .u64 a1, .string a2, .string b3, .slice q1 b4.length d1, .int .i64 b5, .string b6, .int .i64 b7, .slice q2 b8.length d2, .int .i64 b9, .int .u64 b10, .slice q3 b11.length d3, .slice q4 b12.length d4, .slice q5 b13.length d5, .slice q6 b14.length d6, .int .u8 b15, .int .i64 b16, .int .i64 b17, .int .i64 b18] 34))
  have HX0 := Lib.hid (blk_new1 W (.cells #[.int .u8 a0, .int .u64 a1, .string a2, .string a3, .slice p1 a4.length c1, .int .i64 a5, .string a6, .int .i64 a7, .slice p2 a8.length c2, .int .i64 a9, .int .u64 a10, .slice p3 a11.length c3, .slice p4 a12.length c4, .slice p5 a13.length c5, .slice p6 a14.length c6, .int .u8 a15, .int .i64 a16, .int .i64 a17, .int .i64 a18] 34) 34 #[.int .u8 a0, .int .u64 a1, .string a2, .string b3, .slice q1 b4.length d1, .int .i64 b5, .string b6, .int .i64 b7, .slice q2 b8.length d2, .int .i64 b9, .int .u64 b10, .slice q3 b11.length d3, .slice q4 b12.length d4, .slice q5 b13.length d5, .slice q6 b14.length d6, .int .u8 b15, .int .i64 b16, .int .i64 b17, .int .i64 b18])
  have hs2 := str_of (a := a2) rfl
  have hb' := str_ne hne
  clear hv hu hl hB hne
  generalize a4.length = na4 at *
  generalize b4.length = nb4 at *
  generalize a8.length = na8 at *
  generalize b8.length = nb8 at *
  generalize a11.length = na11 at *
  generalize b11.length = nb11 at *
  generalize a12.length = na12 at *
  generalize b12.length = nb12 at *
  generalize a13.length = na13 at *
  generalize b13.length = nb13 at *
  generalize a14.length = na14 at *
  generalize b14.length = nb14 at *
  go_enter Try.func9, Try.ntmps9
  go_wp2_with (first | (with_reducible refine wpl_here (W := W) (oA := (.cells #[.int .u8 a0, .int .u64 a1, .string a2, .string a3, .slice p1 na4 c1, .int .i64 a5, .string a6, .int .i64 a7, .slice p2 na8 c2, .int .i64 a9, .int .u64 a10, .slice p3 na11 c3, .slice p4 na12 c4, .slice p5 na13 c5, .slice p6 na14 c6, .int .u8 a15, .int .i64 a16, .int .i64 a17, .int .i64 a18] 34)) (oB := (.cells #[.int .u8 a0, .int .u64 a1, .string a2, .string b3, .slice q1 nb4 d1, .int .i64 b5, .string b6, .int .i64 b7, .slice q2 nb8 d2, .int .i64 b9, .int .u64 b10, .slice q3 nb11 d3, .slice q4 nb12 d4, .slice q5 nb13 d5, .slice q6 nb14 d6, .int .u8 b15, .int .i64 b16, .int .i64 b17, .int .i64 b18] 34)) ?_; intro W1 hW1; rw [← hW1] at HA0 HX0 HB0; clear hW1; have x0 : W1.cell? ⟨W.heap.size, 0, none⟩ = some (.int .u8 a0) := HA0.out.cell 0; have y0 : W1.cell? ⟨W.heap.size + 1, 0, none⟩ = some (.int .u8 a0) := HX0.out.cell 0; have x1 : W1.cell? ⟨W.heap.size, 1, none⟩ = some (.int .u64 a1) := HA0.out.cell 1; have y1 : W1.cell? ⟨W.heap.size + 1, 1, none⟩ = some (.int .u64 a1) := HX0.out.cell 1; have x2 : W1.cell? ⟨W.heap.size, 2, none⟩ = some (.string a2) := HA0.out.cell 2; have y2 : W1.cell? ⟨W.heap.size + 1, 2, none⟩ = some (.string a2) := HX0.out.cell 2; have x3 : W1.cell? ⟨W.heap.size, 3, none⟩ = some (.string a3) := HA0.out.cell 3; have y3 : W1.cell? ⟨W.heap.size + 1, 3, none⟩ = some (.string b3) := HX0.out.cell 3))
  go_ret
  exact ⟨rfl, HB0.out⟩
set_option maxRecDepth 100000 in
set_option maxHeartbeats 8000000 in
theorem same_c4 {a0 : Int} {a1 : Int} {a2 : ByteArray} {a3 : ByteArray} {a4 : List Int} {a5 : Int} {a6 : ByteArray} {a7 : Int} {a8 : List Int} {a9 : Int} {a10 : Int} {a11 : List En} {a12 : List Int} {a13 : List Nm} {a14 : List Int} {a15 : Int} {a16 : Int} {a17 : Int} {a18 : Int} {b4 : List Int} {b5 : Int} {b6 : ByteArray} {b7 : Int} {b8 : List Int} {b9 : Int} {b10 : Int} {b11 : List En} {b12 : List Int} {b13 : List Nm} {b14 : List Int} {b15 : Int} {b16 : Int} {b17 : Int} {b18 : Int} {W : World} {B : Nat} {p1 p2 p3 p4 p5 p6 q1 q2 q3 q4 q5 q6 : Option Addr} {c1 c2 c3 c4 c5 c6 d1 d2 d3 d4 d5 d6 : Nat}
    (hv : MR W B (⟨a0, a1, a2, a3, a4, a5, ⟨a6, a7, a8, a9⟩, a10, a11, a12, a13, a14, a15, ⟨a16, a17⟩, a18⟩ : M) ⟨.slice p1 a4.length c1, .slice p2 a8.length c2, .slice p3 a11.length c3, .slice p4 a12.length c4, .slice p5 a13.length c5, .slice p6 a14.length c6⟩) (hu : MR W B (⟨a0, a1, a2, a3, b4, b5, ⟨b6, b7, b8, b9⟩, b10, b11, b12, b13, b14, b15, ⟨b16, b17⟩, b18⟩ : M) ⟨.slice q1 b4.length d1, .slice q2 b8.length d2, .slice q3 b11.length d3, .slice q4 b12.length d4, .slice q5 b13.length d5, .slice q6 b14.length d6⟩) (hB : B ≤ W.heap.size) (hl : Lite (⟨a0, a1, a2, a3, a4, a5, ⟨a6, a7, a8, a9⟩, a10, a11, a12, a13, a14, a15, ⟨a16, a17⟩, a18⟩ : M)) (hne : ¬ a4 = b4) :
    Calls Try.prog 9 #[.agg #[.int .u8 a0, .int .u64 a1, .string a2, .string a3, .slice p1 a4.length c1, .int .i64 a5, .string a6, .int .i64 a7, .slice p2 a8.length c2, .int .i64 a9, .int .u64 a10, .slice p3 a11.length c3, .slice p4 a12.length c4, .slice p5 a13.length c5, .slice p6 a14.length c6, .int .u8 a15, .int .i64 a16, .int .i64 a17, .int .i64 a18], .agg #[.int .u8 a0, .int .u64 a1, .string a2, .string a3, .slice q1 b4.length d1, .int .i64 b5, .string b6, .int .i64 b7, .slice q2 b8.length d2, .int .i64 b9, .int .u64 b10, .slice q3 b11.length d3, .slice q4 b12.length d4, .slice q5 b13.length d5, .slice q6 b14.length d6, .int .u8 b15, .int .i64 b16, .int .i64 b17, .int .i64 b18]] W (EqP false W) := by
  have H1 := Lib.hid (show ∀ w, Below W.heap.size W w → Calls Try.prog 14 #[.slice p1 a4.length c1, .slice q1 b4.length d1] w (EqP false w) from fun w hb => by
    have h := eq_int ((hv.keep fun b o x hlt hx => Below.cellq hb (by omega) hx).ri) ((hu.keep fun b o x hlt hx => Below.cellq hb (by omega) hx).ri) (Nat.le_trans hB hb.size) (by have := hl.input; omega)
    rw [decide_eq_false hne] at h; exact h)
  have HB0 := Lib.hid (((Below.refl _ W).alloc (Nat.le_refl _) (.cells #[.int .u8 a0, .int .u64 a1, .string a2, .string a3, .slice p1 a4.length c1, .int .i64 a5, .string a6, .int .i64 a7, .slice p2 a8.length c2, .int .i64 a9, .int .u64 a10, .slice p3 a11.length c3, .slice p4 a12.length c4, .slice p5 a13.length c5, .slice p6 a14.length c6, .int .u8 a15, .int .i64 a16, .int .i64 a17, .int .i64 a18] 34)).alloc (by simp) (.cells #[.int .u8 a0, .int .u64 a1, .string a2, .string a3, .slice q1 b4.length d1, .int .i64 b5, .string b6, .int .i64 b7, .slice q2 b8.length d2, .int .i64 b9, .int .u64 b10, .slice q3 b11.length d3, .slice q4 b12.length d4, .slice q5 b13.length d5, .slice q6 b14.length d6, .int .u8 b15, .int .i64 b16, .int .i64 b17, .int .i64 b18] 34))
  have HA0 := Lib.hid ((Blk.new W 34 #[.int .u8 a0, .int .u64 a1, .string a2, .string a3, .slice p1 a4.length c1, .int .i64 a5, .string a6, .int .i64 a7, .slice p2 a8.length c2, .int .i64 a9, .int .u64 a10, .slice p3 a11.length c3, .slice p4 a12.length c4, .slice p5 a13.length c5, .slice p6 a14.length c6, .int .u8 a15, .int .i64 a16, .int .i64 a17, .int .i64 a18]).alloc (.cells #[.int .u8 a0, .int .u64 a1, .string a2, .string a3, .slice q1 b4.length d1, .int .i64 b5, .string b6, .int .i64 b7, .slice q2 b8.length d2, .int .i64 b9, .int .u64 b10, .slice q3 b11.length d3, .slice q4 b12.length d4, .slice q5 b13.length d5, .slice q6 b14.length d6, .int .u8 b15, .int .i64 b16, .int .i64 b17, .int .i64 b18] 34))
  have HX0 := Lib.hid (blk_new1 W (.cells #[.int .u8 a0, .int .u64 a1, .string a2, .string a3, .slice p1 a4.length c1, .int .i64 a5, .string a6, .int .i64 a7, .slice p2 a8.length c2, .int .i64 a9, .int .u64 a10, .slice p3 a11.length c3, .slice p4 a12.length c4, .slice p5 a13.length c5, .slice p6 a14.length c6, .int .u8 a15, .int .i64 a16, .int .i64 a17, .int .i64 a18] 34) 34 #[.int .u8 a0, .int .u64 a1, .string a2, .string a3, .slice q1 b4.length d1, .int .i64 b5, .string b6, .int .i64 b7, .slice q2 b8.length d2, .int .i64 b9, .int .u64 b10, .slice q3 b11.length d3, .slice q4 b12.length d4, .slice q5 b13.length d5, .slice q6 b14.length d6, .int .u8 b15, .int .i64 b16, .int .i64 b17, .int .i64 b18])
  have hs2 := str_of (a := a2) rfl
  have hs3 := str_of (a := a3) rfl
  clear hv hu hl hB hne
  generalize a4.length = na4 at *
  generalize b4.length = nb4 at *
  generalize a8.length = na8 at *
  generalize b8.length = nb8 at *
  generalize a11.length = na11 at *
  generalize b11.length = nb11 at *
  generalize a12.length = na12 at *
  generalize b12.length = nb12 at *
  generalize a13.length = na13 at *
  generalize b13.length = nb13 at *
  generalize a14.length = na14 at *
  generalize b14.length = nb14 at *
  go_enter Try.func9, Try.ntmps9
  go_wp2_with (first | (with_reducible refine wpl_here (W := W) (oA := (.cells #[.int .u8 a0, .int .u64 a1, .string a2, .string a3, .slice p1 na4 c1, .int .i64 a5, .string a6, .int .i64 a7, .slice p2 na8 c2, .int .i64 a9, .int .u64 a10, .slice p3 na11 c3, .slice p4 na12 c4, .slice p5 na13 c5, .slice p6 na14 c6, .int .u8 a15, .int .i64 a16, .int .i64 a17, .int .i64 a18] 34)) (oB := (.cells #[.int .u8 a0, .int .u64 a1, .string a2, .string a3, .slice q1 nb4 d1, .int .i64 b5, .string b6, .int .i64 b7, .slice q2 nb8 d2, .int .i64 b9, .int .u64 b10, .slice q3 nb11 d3, .slice q4 nb12 d4, .slice q5 nb13 d5, .slice q6 nb14 d6, .int .u8 b15, .int .i64 b16, .int .i64 b17, .int .i64 b18] 34)) ?_; intro W1 hW1; rw [← hW1] at HA0 HX0 HB0; clear hW1; have x0 : W1.cell? ⟨W.heap.size, 0, none⟩ = some (.int .u8 a0) := HA0.out.cell 0; have y0 : W1.cell? ⟨W.heap.size + 1, 0, none⟩ = some (.int .u8 a0) := HX0.out.cell 0; have x1 : W1.cell? ⟨W.heap.size, 1, none⟩ = some (.int .u64 a1) := HA0.out.cell 1; have y1 : W1.cell? ⟨W.heap.size + 1, 1, none⟩ = some (.int .u64 a1) := HX0.out.cell 1; have x2 : W1.cell? ⟨W.heap.size, 2, none⟩ = some (.string a2) := HA0.out.cell 2; have y2 : W1.cell? ⟨W.heap.size + 1, 2, none⟩ = some (.string a2) := HX0.out.cell 2; have x3 : W1.cell? ⟨W.heap.size, 3, none⟩ = some (.string a3) := HA0.out.cell 3; have y3 : W1.cell? ⟨W.heap.size + 1, 3, none⟩ = some (.string a3) := HX0.out.cell 3; have x4 : W1.cell? ⟨W.heap.size, 4, none⟩ = some (.slice p1 na4 c1) := HA0.out.cell 4; have y4 : W1.cell? ⟨W.heap.size + 1, 4, none⟩ = some (.slice q1 nb4 d1) := HX0.out.cell 4) | (go_at_call 14; go_loud ((with_reducible refine (H1.out _ HB0.out).mono ?_); rintro e w1 ⟨rfl, hb1⟩; have HB1 := Lib.hid (HB0.out.step hb1); have HA1 := Lib.hid (HA0.out.below hb1); have HX1 := Lib.hid (HX0.out.below hb1); clear hb1)))
  go_ret
  exact ⟨rfl, HB1.out⟩
set_option maxRecDepth 100000 in
set_option maxHeartbeats 8000000 in
theorem same_c5 {a0 : Int} {a1 : Int} {a2 : ByteArray} {a3 : ByteArray} {a4 : List Int} {a5 : Int} {a6 : ByteArray} {a7 : Int} {a8 : List Int} {a9 : Int} {a10 : Int} {a11 : List En} {a12 : List Int} {a13 : List Nm} {a14 : List Int} {a15 : Int} {a16 : Int} {a17 : Int} {a18 : Int} {b5 : Int} {b6 : ByteArray} {b7 : Int} {b8 : List Int} {b9 : Int} {b10 : Int} {b11 : List En} {b12 : List Int} {b13 : List Nm} {b14 : List Int} {b15 : Int} {b16 : Int} {b17 : Int} {b18 : Int} {W : World} {B : Nat} {p1 p2 p3 p4 p5 p6 q1 q2 q3 q4 q5 q6 : Option Addr} {c1 c2 c3 c4 c5 c6 d1 d2 d3 d4 d5 d6 : Nat}
    (hv : MR W B (⟨a0, a1, a2, a3, a4, a5, ⟨a6, a7, a8, a9⟩, a10, a11, a12, a13, a14, a15, ⟨a16, a17⟩, a18⟩ : M) ⟨.slice p1 a4.length c1, .slice p2 a8.length c2, .slice p3 a11.length c3, .slice p4 a12.length c4, .slice p5 a13.length c5, .slice p6 a14.length c6⟩) (hu : MR W B (⟨a0, a1, a2, a3, a4, b5, ⟨b6, b7, b8, b9⟩, b10, b11, b12, b13, b14, b15, ⟨b16, b17⟩, b18⟩ : M) ⟨.slice q1 a4.length d1, .slice q2 b8.length d2, .slice q3 b11.length d3, .slice q4 b12.length d4, .slice q5 b13.length d5, .slice q6 b14.length d6⟩) (hB : B ≤ W.heap.size) (hl : Lite (⟨a0, a1, a2, a3, a4, a5, ⟨a6, a7, a8, a9⟩, a10, a11, a12, a13, a14, a15, ⟨a16, a17⟩, a18⟩ : M)) (hne : ¬ a5 = b5) :
    Calls Try.prog 9 #[.agg #[.int .u8 a0, .int .u64 a1, .string a2, .string a3, .slice p1 a4.length c1, .int .i64 a5, .string a6, .int .i64 a7, .slice p2 a8.length c2, .int .i64 a9, .int .u64 a10, .slice p3 a11.length c3, .slice p4 a12.length c4, .slice p5 a13.length c5, .slice p6 a14.length c6, .int .u8 a15, .int .i64 a16, .int .i64 a17, .int .i64 a18], .agg #[.int .u8 a0, .int .u64 a1, .string a2, .string a3, .slice q1 a4.length d1, .int .i64 b5, .string b6, .int .i64 b7, .slice q2 b8.length d2, .int .i64 b9, .int .u64 b10, .slice q3 b11.length d3, .slice q4 b12.length d4, .slice q5 b13.length d5, .slice q6 b14.length d6, .int .u8 b15, .int .i64 b16, .int .i64 b17, .int .i64 b18]] W (EqP false W) := by
  have H1 := Lib.hid (show ∀ w, Below W.heap.size W w → Calls Try.prog 14 #[.slice p1 a4.length c1, .slice q1 a4.length d1] w (EqP true w) from fun w hb => by
    have h := eq_int ((hv.keep fun b o x hlt hx => Below.cellq hb (by omega) hx).ri) ((hu.keep fun b o x hlt hx => Below.cellq hb (by omega) hx).ri) (Nat.le_trans hB hb.size) (by have := hl.input; omega)
    rw [decide_eq_true rfl] at h; exact h)
  have HB0 := Lib.hid (((Below.refl _ W).alloc (Nat.le_refl _) (.cells #[.int .u8 a0, .int .u64 a1, .string a2, .string a3, .slice p1 a4.length c1, .int .i64 a5, .string a6, .int .i64 a7, .slice p2 a8.length c2, .int .i64 a9, .int .u64 a10, .slice p3 a11.length c3, .slice p4 a12.length c4, .slice p5 a13.length c5, .slice p6 a14.length c6, .int .u8 a15, .int .i64 a16, .int .i64 a17, .int .i64 a18] 34)).alloc (by simp) (.cells #[.int .u8 a0, .int .u64 a1, .string a2, .string a3, .slice q1 a4.length d1, .int .i64 b5, .string b6, .int .i64 b7, .slice q2 b8.length d2, .int .i64 b9, .int .u64 b10, .slice q3 b11.length d3, .slice q4 b12.length d4, .slice q5 b13.length d5, .slice q6 b14.length d6, .int .u8 b15, .int .i64 b16, .int .i64 b17, .int .i64 b18] 34))
  have HA0 := Lib.hid ((Blk.new W 34 #[.int .u8 a0, .int .u64 a1, .string a2, .string a3, .slice p1 a4.length c1, .int .i64 a5, .string a6, .int .i64 a7, .slice p2 a8.length c2, .int .i64 a9, .int .u64 a10, .slice p3 a11.length c3, .slice p4 a12.length c4, .slice p5 a13.length c5, .slice p6 a14.length c6, .int .u8 a15, .int .i64 a16, .int .i64 a17, .int .i64 a18]).alloc (.cells #[.int .u8 a0, .int .u64 a1, .string a2, .string a3, .slice q1 a4.length d1, .int .i64 b5, .string b6, .int .i64 b7, .slice q2 b8.length d2, .int .i64 b9, .int .u64 b10, .slice q3 b11.length d3, .slice q4 b12.length d4, .slice q5 b13.length d5, .slice q6 b14.length d6, .int .u8 b15, .int .i64 b16, .int .i64 b17, .int .i64 b18] 34))
  have HX0 := Lib.hid (blk_new1 W (.cells #[.int .u8 a0, .int .u64 a1, .string a2, .string a3, .slice p1 a4.length c1, .int .i64 a5, .string a6, .int .i64 a7, .slice p2 a8.length c2, .int .i64 a9, .int .u64 a10, .slice p3 a11.length c3, .slice p4 a12.length c4, .slice p5 a13.length c5, .slice p6 a14.length c6, .int .u8 a15, .int .i64 a16, .int .i64 a17, .int .i64 a18] 34) 34 #[.int .u8 a0, .int .u64 a1, .string a2, .string a3, .slice q1 a4.length d1, .int .i64 b5, .string b6, .int .i64 b7, .slice q2 b8.length d2, .int .i64 b9, .int .u64 b10, .slice q3 b11.length d3, .slice q4 b12.length d4, .slice q5 b13.length d5, .slice q6 b14.length d6, .int .u8 b15, .int .i64 b16, .int .i64 b17, .int .i64 b18])
  have hs2 := str_of (a := a2) rfl
  have hs3 := str_of (a := a3) rfl
  have hb' : (a5 == b5) = false := by simpa using hne
  clear hv hu hl hB hne
  generalize a4.length = na4 at *
  generalize a8.length = na8 at *
  generalize b8.length = nb8 at *
  generalize a11.length = na11 at *
  generalize b11.length = nb11 at *
  generalize a12.length = na12 at *
  generalize b12.length = nb12 at *
  generalize a13.length = na13 at *
  generalize b13.length = nb13 at *
  generalize a14.length = na14 at *
  generalize b14.length = nb14 at *
  go_enter Try.func9, Try.ntmps9
  go_wp2_with (first | (with_reducible refine wpl_here (W := W) (oA := (.cells #[.int .u8 a0, .int .u64 a1, .string a2, .string a3, .slice p1 na4 c1, .int .i64 a5, .string a6, .int .i64 a7, .slice p2 na8 c2, .int .i64 a9, .int .u64 a10, .slice p3 na11 c3, .slice p4 na12 c4, .slice p5 na13 c5, .slice p6 na14 c6, .int .u8 a15, .int .i64 a16, .int .i64 a17, .int .i64 a18] 34)) (oB := (.cells #[.int .u8 a0, .int .u64 a1, .string a2, .string a3, .slice q1 na4 d1, .int .i64 b5, .string b6, .int .i64 b7, .slice q2 nb8 d2, .int .i64 b9, .int .u64 b10, .slice q3 nb11 d3, .slice q4 nb12 d4, .slice q5 nb13 d5, .slice q6 nb14 d6, .int .u8 b15, .int .i64 b16, .int .i64 b17, .int .i64 b18] 34)) ?_; intro W1 hW1; rw [← hW1] at HA0 HX0 HB0; clear hW1; have x0 : W1.cell? ⟨W.heap.size, 0, none⟩ = some (.int .u8 a0) := HA0.out.cell 0; have y0 : W1.cell? ⟨W.heap.size + 1, 0, none⟩ = some (.int .u8 a0) := HX0.out.cell 0; have x1 : W1.cell? ⟨W.heap.size, 1, none⟩ = some (.int .u64 a1) := HA0.out.cell 1; have y1 : W1.cell? ⟨W.heap.size + 1, 1, none⟩ = some (.int .u64 a1) := HX0.out.cell 1; have x2 : W1.cell? ⟨W.heap.size, 2, none⟩ = some (.string a2) := HA0.out.cell 2; have y2 : W1.cell? ⟨W.heap.size + 1, 2, none⟩ = some (.string a2) := HX0.out.cell 2; have x3 : W1.cell? ⟨W.heap.size, 3, none⟩ = some (.string a3) := HA0.out.cell 3; have y3 : W1.cell? ⟨W.heap.size + 1, 3, none⟩ = some (.string a3) := HX0.out.cell 3; have x4 : W1.cell? ⟨W.heap.size, 4, none⟩ = some (.slice p1 na4 c1) := HA0.out.cell 4; have y4 : W1.cell? ⟨W.heap.size + 1, 4, none⟩ = some (.slice q1 na4 d1) := HX0.out.cell 4) | (go_at_call 14; go_loud ((with_reducible refine (H1.out _ HB0.out).mono ?_); rintro e w1 ⟨rfl, hb1⟩; have HB1 := Lib.hid (HB0.out.step hb1); have HA1 := Lib.hid (HA0.out.below hb1); have HX1 := Lib.hid (HX0.out.below hb1); clear hb1; have x5 : w1.cell? ⟨W.heap.size, 5, none⟩ = some (.int .i64 a5) := HA1.out.cell 5; have y5 : w1.cell? ⟨W.heap.size + 1, 5, none⟩ = some (.int .i64 b5) := HX1.out.cell 5)))
  go_ret
  exact ⟨rfl, HB1.out⟩
set_option maxRecDepth 100000 in
set_option maxHeartbeats 8000000 in
theorem same_c6 {a0 : Int} {a1 : Int} {a2 : ByteArray} {a3 : ByteArray} {a4 : List Int} {a5 : Int} {a6 : ByteArray} {a7 : Int} {a8 : List Int} {a9 : Int} {a10 : Int} {a11 : List En} {a12 : List Int} {a13 : List Nm} {a14 : List Int} {a15 : Int} {a16 : Int} {a17 : Int} {a18 : Int} {b6 : ByteArray} {b7 : Int} {b8 : List Int} {b9 : Int} {b10 : Int} {b11 : List En} {b12 : List Int} {b13 : List Nm} {b14 : List Int} {b15 : Int} {b16 : Int} {b17 : Int} {b18 : Int} {W : World} {B : Nat} {p1 p2 p3 p4 p5 p6 q1 q2 q3 q4 q5 q6 : Option Addr} {c1 c2 c3 c4 c5 c6 d1 d2 d3 d4 d5 d6 : Nat}
    (hv : MR W B (⟨a0, a1, a2, a3, a4, a5, ⟨a6, a7, a8, a9⟩, a10, a11, a12, a13, a14, a15, ⟨a16, a17⟩, a18⟩ : M) ⟨.slice p1 a4.length c1, .slice p2 a8.length c2, .slice p3 a11.length c3, .slice p4 a12.length c4, .slice p5 a13.length c5, .slice p6 a14.length c6⟩) (hu : MR W B (⟨a0, a1, a2, a3, a4, a5, ⟨b6, b7, b8, b9⟩, b10, b11, b12, b13, b14, b15, ⟨b16, b17⟩, b18⟩ : M) ⟨.slice q1 a4.length d1, .slice q2 b8.length d2, .slice q3 b11.length d3, .slice q4 b12.length d4, .slice q5 b13.length d5, .slice q6 b14.length d6⟩) (hB : B ≤ W.heap.size) (hl : Lite (⟨a0, a1, a2, a3, a4, a5, ⟨a6, a7, a8, a9⟩, a10, a11, a12, a13, a14, a15, ⟨a16, a17⟩, a18⟩ : M)) (hne : ¬ (⟨a6, a7, a8, a9⟩ : Tk) = (⟨b6, b7, b8, b9⟩ : Tk)) :
    Calls Try.prog 9 #[.agg #[.int .u8 a0, .int .u64 a1, .string a2, .string a3, .slice p1 a4.length c1, .int .i64 a5, .string a6, .int .i64 a7, .slice p2 a8.length c2, .int .i64 a9, .int .u64 a10, .slice p3 a11.length c3, .slice p4 a12.length c4, .slice p5 a13.length c5, .slice p6 a14.length c6, .int .u8 a15, .int .i64 a16, .int .i64 a17, .int .i64 a18], .agg #[.int .u8 a0, .int .u64 a1, .string a2, .string a3, .slice q1 a4.length d1, .int .i64 a5, .string b6, .int .i64 b7, .slice q2 b8.length d2, .int .i64 b9, .int .u64 b10, .slice q3 b11.length d3, .slice q4 b12.length d4, .slice q5 b13.length d5, .slice q6 b14.length d6, .int .u8 b15, .int .i64 b16, .int .i64 b17, .int .i64 b18]] W (EqP false W) := by
  have H1 := Lib.hid (show ∀ w, Below W.heap.size W w → Calls Try.prog 14 #[.slice p1 a4.length c1, .slice q1 a4.length d1] w (EqP true w) from fun w hb => by
    have h := eq_int ((hv.keep fun b o x hlt hx => Below.cellq hb (by omega) hx).ri) ((hu.keep fun b o x hlt hx => Below.cellq hb (by omega) hx).ri) (Nat.le_trans hB hb.size) (by have := hl.input; omega)
    rw [decide_eq_true rfl] at h; exact h)
  have H2 := Lib.hid (show ∀ w, Below W.heap.size W w → Calls Try.prog 15 #[.agg #[.string a6, .int .i64 a7, .slice p2 a8.length c2, .int .i64 a9], .agg #[.string b6, .int .i64 b7, .slice q2 b8.length d2, .int .i64 b9]] w (EqP false w) from fun w hb => by
    have h := tsk_any (t := (⟨a6, a7, a8, a9⟩ : Tk)) (u := (⟨b6, b7, b8, b9⟩ : Tk)) ((hv.keep fun b o x hlt hx => Below.cellq hb (by omega) hx).ra) ((hu.keep fun b o x hlt hx => Below.cellq hb (by omega) hx).ra) (Nat.le_trans hB hb.size) (hl.args)
    rw [decide_eq_false hne] at h; exact h)
  have HB0 := Lib.hid (((Below.refl _ W).alloc (Nat.le_refl _) (.cells #[.int .u8 a0, .int .u64 a1, .string a2, .string a3, .slice p1 a4.length c1, .int .i64 a5, .string a6, .int .i64 a7, .slice p2 a8.length c2, .int .i64 a9, .int .u64 a10, .slice p3 a11.length c3, .slice p4 a12.length c4, .slice p5 a13.length c5, .slice p6 a14.length c6, .int .u8 a15, .int .i64 a16, .int .i64 a17, .int .i64 a18] 34)).alloc (by simp) (.cells #[.int .u8 a0, .int .u64 a1, .string a2, .string a3, .slice q1 a4.length d1, .int .i64 a5, .string b6, .int .i64 b7, .slice q2 b8.length d2, .int .i64 b9, .int .u64 b10, .slice q3 b11.length d3, .slice q4 b12.length d4, .slice q5 b13.length d5, .slice q6 b14.length d6, .int .u8 b15, .int .i64 b16, .int .i64 b17, .int .i64 b18] 34))
  have HA0 := Lib.hid ((Blk.new W 34 #[.int .u8 a0, .int .u64 a1, .string a2, .string a3, .slice p1 a4.length c1, .int .i64 a5, .string a6, .int .i64 a7, .slice p2 a8.length c2, .int .i64 a9, .int .u64 a10, .slice p3 a11.length c3, .slice p4 a12.length c4, .slice p5 a13.length c5, .slice p6 a14.length c6, .int .u8 a15, .int .i64 a16, .int .i64 a17, .int .i64 a18]).alloc (.cells #[.int .u8 a0, .int .u64 a1, .string a2, .string a3, .slice q1 a4.length d1, .int .i64 a5, .string b6, .int .i64 b7, .slice q2 b8.length d2, .int .i64 b9, .int .u64 b10, .slice q3 b11.length d3, .slice q4 b12.length d4, .slice q5 b13.length d5, .slice q6 b14.length d6, .int .u8 b15, .int .i64 b16, .int .i64 b17, .int .i64 b18] 34))
  have HX0 := Lib.hid (blk_new1 W (.cells #[.int .u8 a0, .int .u64 a1, .string a2, .string a3, .slice p1 a4.length c1, .int .i64 a5, .string a6, .int .i64 a7, .slice p2 a8.length c2, .int .i64 a9, .int .u64 a10, .slice p3 a11.length c3, .slice p4 a12.length c4, .slice p5 a13.length c5, .slice p6 a14.length c6, .int .u8 a15, .int .i64 a16, .int .i64 a17, .int .i64 a18] 34) 34 #[.int .u8 a0, .int .u64 a1, .string a2, .string a3, .slice q1 a4.length d1, .int .i64 a5, .string b6, .int .i64 b7, .slice q2 b8.length d2, .int .i64 b9, .int .u64 b10, .slice q3 b11.length d3, .slice q4 b12.length d4, .slice q5 b13.length d5, .slice q6 b14.length d6, .int .u8 b15, .int .i64 b16, .int .i64 b17, .int .i64 b18])
  have hs2 := str_of (a := a2) rfl
  have hs3 := str_of (a := a3) rfl
  clear hv hu hl hB hne
  generalize a4.length = na4 at *
  generalize a8.length = na8 at *
  generalize b8.length = nb8 at *
  generalize a11.length = na11 at *
  generalize b11.length = nb11 at *
  generalize a12.length = na12 at *
  generalize b12.length = nb12 at *
  generalize a13.length = na13 at *
  generalize b13.length = nb13 at *
  generalize a14.length = na14 at *
  generalize b14.length = nb14 at *
  go_enter Try.func9, Try.ntmps9
  go_wp2_with (first | (with_reducible refine wpl_here (W := W) (oA := (.cells #[.int .u8 a0, .int .u64 a1, .string a2, .string a3, .slice p1 na4 c1, .int .i64 a5, .string a6, .int .i64 a7, .slice p2 na8 c2, .int .i64 a9, .int .u64 a10, .slice p3 na11 c3, .slice p4 na12 c4, .slice p5 na13 c5, .slice p6 na14 c6, .int .u8 a15, .int .i64 a16, .int .i64 a17, .int .i64 a18] 34)) (oB := (.cells #[.int .u8 a0, .int .u64 a1, .string a2, .string a3, .slice q1 na4 d1, .int .i64 a5, .string b6, .int .i64 b7, .slice q2 nb8 d2, .int .i64 b9, .int .u64 b10, .slice q3 nb11 d3, .slice q4 nb12 d4, .slice q5 nb13 d5, .slice q6 nb14 d6, .int .u8 b15, .int .i64 b16, .int .i64 b17, .int .i64 b18] 34)) ?_; intro W1 hW1; rw [← hW1] at HA0 HX0 HB0; clear hW1; have x0 : W1.cell? ⟨W.heap.size, 0, none⟩ = some (.int .u8 a0) := HA0.out.cell 0; have y0 : W1.cell? ⟨W.heap.size + 1, 0, none⟩ = some (.int .u8 a0) := HX0.out.cell 0; have x1 : W1.cell? ⟨W.heap.size, 1, none⟩ = some (.int .u64 a1) := HA0.out.cell 1; have y1 : W1.cell? ⟨W.heap.size + 1, 1, none⟩ = some (.int .u64 a1) := HX0.out.cell 1; have x2 : W1.cell? ⟨W.heap.size, 2, none⟩ = some (.string a2) := HA0.out.cell 2; have y2 : W1.cell? ⟨W.heap.size + 1, 2, none⟩ = some (.string a2) := HX0.out.cell 2; have x3 : W1.cell? ⟨W.heap.size, 3, none⟩ = some (.string a3) := HA0.out.cell 3; have y3 : W1.cell? ⟨W.heap.size + 1, 3, none⟩ = some (.string a3) := HX0.out.cell 3; have x4 : W1.cell? ⟨W.heap.size, 4, none⟩ = some (.slice p1 na4 c1) := HA0.out.cell 4; have y4 : W1.cell? ⟨W.heap.size + 1, 4, none⟩ = some (.slice q1 na4 d1) := HX0.out.cell 4) | (go_at_call 14; go_loud ((with_reducible refine (H1.out _ HB0.out).mono ?_); rintro e w1 ⟨rfl, hb1⟩; have HB1 := Lib.hid (HB0.out.step hb1); have HA1 := Lib.hid (HA0.out.below hb1); have HX1 := Lib.hid (HX0.out.below hb1); clear hb1; have x5 : w1.cell? ⟨W.heap.size, 5, none⟩ = some (.int .i64 a5) := HA1.out.cell 5; have y5 : w1.cell? ⟨W.heap.size + 1, 5, none⟩ = some (.int .i64 a5) := HX1.out.cell 5; have x6 : w1.cell? ⟨W.heap.size, 6, none⟩ = some (.string a6) := HA1.out.cell 6; have y6 : w1.cell? ⟨W.heap.size + 1, 6, none⟩ = some (.string b6) := HX1.out.cell 6; have x7 : w1.cell? ⟨W.heap.size, 7, none⟩ = some (.int .i64 a7) := HA1.out.cell 7; have y7 : w1.cell? ⟨W.heap.size + 1, 7, none⟩ = some (.int .i64 b7) := HX1.out.cell 7; have x8 : w1.cell? ⟨W.heap.size, 8, none⟩ = some (.slice p2 na8 c2) := HA1.out.cell 8; have y8 : w1.cell? ⟨W.heap.size + 1, 8, none⟩ = some (.slice q2 nb8 d2) := HX1.out.cell 8; have x9 : w1.cell? ⟨W.heap.size, 9, none⟩ = some (.int .i64 a9) := HA1.out.cell 9; have y9 : w1.cell? ⟨W.heap.size + 1, 9, none⟩ = some (.int .i64 b9) := HX1.out.cell 9)) | (go_at_call 15; go_loud ((with_reducible refine (H2.out _ HB1.out).mono ?_); rintro e w2 ⟨rfl, hb2⟩; have HB2 := Lib.hid (HB1.out.step hb2); have HA2 := Lib.hid (HA1.out.below hb2); have HX2 := Lib.hid (HX1.out.below hb2); clear hb2)))
  go_ret
  exact ⟨rfl, HB2.out⟩
end Go.Proofs.Ytghbjknpffiaiaa


/- Cases of what tells whether two messages are the same. No condition but that lists are not too long. -/
namespace Go.Proofs.Ytghbjknpffiaiaa
open Go.RowKit Wire Ms
set_option linter.unusedVariables false
set_option linter.unusedSimpArgs false
set_option maxRecDepth 100000 in
set_option maxHeartbeats 8000000 in
theorem same_c7 {a0 : Int} {a1 : Int} {a2 : ByteArray} {a3 : ByteArray} {a4 : List Int} {a5 : Int} {a6 : ByteArray} {a7 : Int} {a8 : List Int} {a9 : Int} {a10 : Int} {a11 : List En} {a12 : List Int} {a13 : List Nm} {a14 : List Int} {a15 : Int} {a16 : Int} {a17 : Int} {a18 : Int} {b10 : Int} {b11 : List En} {b12 : List Int} {b13 : List Nm} {b14 : List Int} {b15 : Int} {b16 : Int} {b17 : Int} {b18 : Int} {W : World} {B : Nat} {p1 p2 p3 p4 p5 p6 q1 q2 q3 q4 q5 q6 : Option Addr} {c1 c2 c3 c4 c5 c6 d1 d2 d3 d4 d5 d6 : Nat}
    (hv : MR W B (⟨a0, a1, a2, a3, a4, a5, ⟨a6, a7, a8, a9⟩, a10, a11, a12, a13, a14, a15, ⟨a16, a17⟩, a18⟩ : M) ⟨.slice p1 a4.length c1, .slice p2 a8.length c2, .slice p3 a11.length c3, .slice p4 a12.length c4, .slice p5 a13.length c5, .slice p6 a14.length c6⟩) (hu : MR W B (⟨a0, a1, a2, a3, a4, a5, ⟨a6, a7, a8, a9⟩, b10, b11, b12, b13, b14, b15, ⟨b16, b17⟩, b18⟩ : M) ⟨.slice q1 a4.length d1, .slice q2 a8.length d2, .slice q3 b11.length d3, .slice q4 b12.length d4, .slice q5 b13.length d5, .slice q6 b14.length d6⟩) (hB : B ≤ W.heap.size) (hl : Lite (⟨a0, a1, a2, a3, a4, a5, ⟨a6, a7, a8, a9⟩, a10, a11, a12, a13, a14, a15, ⟨a16, a17⟩, a18⟩ : M)) (hne : ¬ a10 = b10) :
    Calls Try.prog 9 #[.agg #[.int .u8 a0, .int .u64 a1, .string a2, .string a3, .slice p1 a4.length c1, .int .i64 a5, .string a6, .int .i64 a7, .slice p2 a8.length c2, .int .i64 a9, .int .u64 a10, .slice p3 a11.length c3, .slice p4 a12.length c4, .slice p5 a13.length c5, .slice p6 a14.length c6, .int .u8 a15, .int .i64 a16, .int .i64 a17, .int .i64 a18], .agg #[.int .u8 a0, .int .u64 a1, .string a2, .string a3, .slice q1 a4.length d1, .int .i64 a5, .string a6, .int .i64 a7, .slice q2 a8.length d2, .int .i64 a9, .int .u64 b10, .slice q3 b11.length d3, .slice q4 b12.length d4, .slice q5 b13.length d5, .slice q6 b14.length d6, .int .u8 b15, .int .i64 b16, .int .i64 b17, .int .i64 b18]] W (EqP false W) := by
  have H1 := Lib.hid (show ∀ w, Below W.heap.size W w → Calls Try.prog 14 #[.slice p1 a4.length c1, .slice q1 a4.length d1] w (EqP true w) from fun w hb => by
    have h := eq_int ((hv.keep fun b o x hlt hx => Below.cellq hb (by omega) hx).ri) ((hu.keep fun b o x hlt hx => Below.cellq hb (by omega) hx).ri) (Nat.le_trans hB hb.size) (by have := hl.input; omega)
    rw [decide_eq_true rfl] at h; exact h)
  have H2 := Lib.hid (show ∀ w, Below W.heap.size W w → Calls Try.prog 15 #[.agg #[.string a6, .int .i64 a7, .slice p2 a8.length c2, .int .i64 a9], .agg #[.string a6, .int .i64 a7, .slice q2 a8.length d2, .int .i64 a9]] w (EqP true w) from fun w hb => by
    have h := tsk_any (t := (⟨a6, a7, a8, a9⟩ : Tk)) (u := (⟨a6, a7, a8, a9⟩ : Tk)) ((hv.keep fun b o x hlt hx => Below.cellq hb (by omega) hx).ra) ((hu.keep fun b o x hlt hx => Below.cellq hb (by omega) hx).ra) (Nat.le_trans hB hb.size) (hl.args)
    rw [decide_eq_true rfl] at h; exact h)
  have HB0 := Lib.hid (((Below.refl _ W).alloc (Nat.le_refl _) (.cells #[.int .u8 a0, .int .u64 a1, .string a2, .string a3, .slice p1 a4.length c1, .int .i64 a5, .string a6, .int .i64 a7, .slice p2 a8.length c2, .int .i64 a9, .int .u64 a10, .slice p3 a11.length c3, .slice p4 a12.length c4, .slice p5 a13.length c5, .slice p6 a14.length c6, .int .u8 a15, .int .i64 a16, .int .i64 a17, .int .i64 a18] 34)).alloc (by simp) (.cells #[.int .u8 a0, .int .u64 a1, .string a2, .string a3, .slice q1 a4.length d1, .int .i64 a5, .string a6, .int .i64 a7, .slice q2 a8.length d2, .int .i64 a9, .int .u64 b10, .slice q3 b11.length d3, .slice q4 b12.length d4, .slice q5 b13.length d5, .slice q6 b14.length d6, .int .u8 b15, .int .i64 b16, .int .i64 b17, .int .i64 b18] 34))
  have HA0 := Lib.hid ((Blk.new W 34 #[.int .u8 a0, .int .u64 a1, .string a2, .string a3, .slice p1 a4.length c1, .int .i64 a5, .string a6, .int .i64 a7, .slice p2 a8.length c2, .int .i64 a9, .int .u64 a10, .slice p3 a11.length c3, .slice p4 a12.length c4, .slice p5 a13.length c5, .slice p6 a14.length c6, .int .u8 a15, .int .i64 a16, .int .i64 a17, .int .i64 a18]).alloc (.cells #[.int .u8 a0, .int .u64 a1, .string a2, .string a3, .slice q1 a4.length d1, .int .i64 a5, .string a6, .int .i64 a7, .slice q2 a8.length d2, .int .i64 a9, .int .u64 b10, .slice q3 b11.length d3, .slice q4 b12.length d4, .slice q5 b13.length d5, .slice q6 b14.length d6, .int .u8 b15, .int .i64 b16, .int .i64 b17, .int .i64 b18] 34))
  have HX0 := Lib.hid (blk_new1 W (.cells #[.int .u8 a0, .int .u64 a1, .string a2, .string a3, .slice p1 a4.length c1, .int .i64 a5, .string a6, .int .i64 a7, .slice p2 a8.length c2, .int .i64 a9, .int .u64 a10, .slice p3 a11.length c3, .slice p4 a12.length c4, .slice p5 a13.length c5, .slice p6 a14.length c6, .int .u8 a15, .int .i64 a16, .int .i64 a17, .int .i64 a18] 34) 34 #[.int .u8 a0, .int .u64 a1, .string a2, .string a3, .slice q1 a4.length d1, .int .i64 a5, .string a6, .int .i64 a7, .slice q2 a8.length d2, .int .i64 a9, .int .u64 b10, .slice q3 b11.length d3, .slice q4 b12.length d4, .slice q5 b13.length d5, .slice q6 b14.length d6, .int .u8 b15, .int .i64 b16, .int .i64 b17, .int .i64 b18])
  have hs2 := str_of (a := a2) rfl
  have hs3 := str_of (a := a3) rfl
  have hb' : (a10 == b10) = false := by simpa using hne
  clear hv hu hl hB hne
  generalize a4.length = na4 at *
  generalize a8.length = na8 at *
  generalize a11.length = na11 at *
  generalize b11.length = nb11 at *
  generalize a12.length = na12 at *
  generalize b12.length = nb12 at *
  generalize a13.length = na13 at *
  generalize b13.length = nb13 at *
  generalize a14.length = na14 at *
  generalize b14.length = nb14 at *
  go_enter Try.func9, Try.ntmps9
  go_wp2_with (first | (with_reducible refine wpl_here (W := W) (oA := (.cells #[.int .u8 a0, .int .u64 a1, .string a2, .string a3, .slice p1 na4 c1, .int .i64 a5, .string a6, .int .i64 a7, .slice p2 na8 c2, .int .i64 a9, .int .u64 a10, .slice p3 na11 c3, .slice p4 na12 c4, .slice p5 na13 c5, .slice p6 na14 c6, .int .u8 a15, .int .i64 a16, .int .i64 a17, .int .i64 a18] 34)) (oB := (.cells #[.int .u8 a0, .int .u64 a1, .string a2, .string a3, .slice q1 na4 d1, .int .i64 a5, .string a6, .int .i64 a7, .slice q2 na8 d2, .int .i64 a9, .int .u64 b10, .slice q3 nb11 d3, .slice q4 nb12 d4, .slice q5 nb13 d5, .slice q6 nb14 d6, .int .u8 b15, .int .i64 b16, .int .i64 b17, .int .i64 b18] 34)) ?_; intro W1 hW1; rw [← hW1] at HA0 HX0 HB0; clear hW1; have x0 : W1.cell? ⟨W.heap.size, 0, none⟩ = some (.int .u8 a0) := HA0.out.cell 0; have y0 : W1.cell? ⟨W.heap.size + 1, 0, none⟩ = some (.int .u8 a0) := HX0.out.cell 0; have x1 : W1.cell? ⟨W.heap.size, 1, none⟩ = some (.int .u64 a1) := HA0.out.cell 1; have y1 : W1.cell? ⟨W.heap.size + 1, 1, none⟩ = some (.int .u64 a1) := HX0.out.cell 1; have x2 : W1.cell? ⟨W.heap.size, 2, none⟩ = some (.string a2) := HA0.out.cell 2; have y2 : W1.cell? ⟨W.heap.size + 1, 2, none⟩ = some (.string a2) := HX0.out.cell 2; have x3 : W1.cell? ⟨W.heap.size, 3, none⟩ = some (.string a3) := HA0.out.cell 3; have y3 : W1.cell? ⟨W.heap.size + 1, 3, none⟩ = some (.string a3) := HX0.out.cell 3; have x4 : W1.cell? ⟨W.heap.size, 4, none⟩ = some (.slice p1 na4 c1) := HA0.out.cell 4; have y4 : W1.cell? ⟨W.heap.size + 1, 4, none⟩ = some (.slice q1 na4 d1) := HX0.out.cell 4) | (go_at_call 14; go_loud ((with_reducible refine (H1.out _ HB0.out).mono ?_); rintro e w1 ⟨rfl, hb1⟩; have HB1 := Lib.hid (HB0.out.step hb1); have HA1 := Lib.hid (HA0.out.below hb1); have HX1 := Lib.hid (HX0.out.below hb1); clear hb1; have x5 : w1.cell? ⟨W.heap.size, 5, none⟩ = some (.int .i64 a5) := HA1.out.cell 5; have y5 : w1.cell? ⟨W.heap.size + 1, 5, none⟩ = some (.int .i64 a5) := HX1.out.cell 5; have x6 : w1.cell? ⟨W.heap.size, 6, none⟩ = some (.string a6) := HA1.out.cell 6; have y6 : w1.cell? ⟨W.heap.size + 1, 6, none⟩ = some (.string a6) := HX1.out.cell 6; have x7 : w1.cell? ⟨W.heap.size, 7, none⟩ = some (.int .i64 a7) := HA1.out.cell 7; have y7 : w1.cell? ⟨W.heap.size + 1, 7, none⟩ = some (.int .i64 a7) := HX1.out.cell 7; have x8 : w1.cell? ⟨W.heap.size, 8, none⟩ = some (.slice p2 na8 c2) := HA1.out.cell 8; have y8 : w1.cell? ⟨W.heap.size + 1, 8, none⟩ = some (.slice q2 na8 d2) := HX1.out.cell 8; have x9 : w1.cell? ⟨W.heap.size, 9, none⟩ = some (.int .i64 a9) := HA1.out.cell 9; have y9 : w1.cell? ⟨W.heap.size + 1, 9, none⟩ = some (.int .i64 a9) := HX1.out.cell 9)) | (go_at_call 15; go_loud ((with_reducible refine (H2.out _ HB1.out).mono ?_); rintro e w2 ⟨rfl, hb2⟩; have HB2 := Lib.hid (HB1.out.step hb2); have HA2 := Lib.hid (HA1.out.below hb2); have HX2 := Lib.hid (HX1.out.below hb2); clear hb2; have x10 : w2.cell? ⟨W.heap.size, 10, none⟩ = some (.int .u64 a10) := HA2.out.cell 10; have y10 : w2.cell? ⟨W.heap.size + 1, 10, none⟩ = some (.int .u64 b10) := HX2.out.cell 10)))
  go_ret
  exact ⟨rfl, HB2.out⟩
set_option maxRecDepth 100000 in
set_option maxHeartbeats 8000000 in
theorem same_c8 {a0 : Int} {a1 : Int} {a2 : ByteArray} {a3 : ByteArray} {a4 : List Int} {a5 : Int} {a6 : ByteArray} {a7 : Int} {a8 : List Int} {a9 : Int} {a10 : Int} {a11 : List En} {a12 : List Int} {a13 : List Nm} {a14 : List Int} {a15 : Int} {a16 : Int} {a17 : Int} {a18 : Int} {b11 : List En} {b12 : List Int} {b13 : List Nm} {b14 : List Int} {b15 : Int} {b16 : Int} {b17 : Int} {b18 : Int} {W : World} {B : Nat} {p1 p2 p3 p4 p5 p6 q1 q2 q3 q4 q5 q6 : Option Addr} {c1 c2 c3 c4 c5 c6 d1 d2 d3 d4 d5 d6 : Nat}
    (hv : MR W B (⟨a0, a1, a2, a3, a4, a5, ⟨a6, a7, a8, a9⟩, a10, a11, a12, a13, a14, a15, ⟨a16, a17⟩, a18⟩ : M) ⟨.slice p1 a4.length c1, .slice p2 a8.length c2, .slice p3 a11.length c3, .slice p4 a12.length c4, .slice p5 a13.length c5, .slice p6 a14.length c6⟩) (hu : MR W B (⟨a0, a1, a2, a3, a4, a5, ⟨a6, a7, a8, a9⟩, a10, b11, b12, b13, b14, b15, ⟨b16, b17⟩, b18⟩ : M) ⟨.slice q1 a4.length d1, .slice q2 a8.length d2, .slice q3 b11.length d3, .slice q4 b12.length d4, .slice q5 b13.length d5, .slice q6 b14.length d6⟩) (hB : B ≤ W.heap.size) (hl : Lite (⟨a0, a1, a2, a3, a4, a5, ⟨a6, a7, a8, a9⟩, a10, a11, a12, a13, a14, a15, ⟨a16, a17⟩, a18⟩ : M)) (hne : ¬ a11 = b11) :
    Calls Try.prog 9 #[.agg #[.int .u8 a0, .int .u64 a1, .string a2, .string a3, .slice p1 a4.length c1, .int .i64 a5, .string a6, .int .i64 a7, .slice p2 a8.length c2, .int .i64 a9, .int .u64 a10, .slice p3 a11.length c3, .slice p4 a12.length c4, .slice p5 a13.length c5, .slice p6 a14.length c6, .int .u8 a15, .int .i64 a16, .int .i64 a17, .int .i64 a18], .agg #[.int .u8 a0, .int .u64 a1, .string a2, .string a3, .slice q1 a4.length d1, .int .i64 a5, .string a6, .int .i64 a7, .slice q2 a8.length d2, .int .i64 a9, .int .u64 a10, .slice q3 b11.length d3, .slice q4 b12.length d4, .slice q5 b13.length d5, .slice q6 b14.length d6, .int .u8 b15, .int .i64 b16, .int .i64 b17, .int .i64 b18]] W (EqP false W) := by
  have H1 := Lib.hid (show ∀ w, Below W.heap.size W w → Calls Try.prog 14 #[.slice p1 a4.length c1, .slice q1 a4.length d1] w (EqP true w) from fun w hb => by
    have h := eq_int ((hv.keep fun b o x hlt hx => Below.cellq hb (by omega) hx).ri) ((hu.keep fun b o x hlt hx => Below.cellq hb (by omega) hx).ri) (Nat.le_trans hB hb.size) (by have := hl.input; omega)
    rw [decide_eq_true rfl] at h; exact h)
  have H2 := Lib.hid (show ∀ w, Below W.heap.size W w → Calls Try.prog 15 #[.agg #[.string a6, .int .i64 a7, .slice p2 a8.length c2, .int .i64 a9], .agg #[.string a6, .int .i64 a7, .slice q2 a8.length d2, .int .i64 a9]] w (EqP true w) from fun w hb => by
    have h := tsk_any (t := (⟨a6, a7, a8, a9⟩ : Tk)) (u := (⟨a6, a7, a8, a9⟩ : Tk)) ((hv.keep fun b o x hlt hx => Below.cellq hb (by omega) hx).ra) ((hu.keep fun b o x hlt hx => Below.cellq hb (by omega) hx).ra) (Nat.le_trans hB hb.size) (hl.args)
    rw [decide_eq_true rfl] at h; exact h)
  have H3 := Lib.hid (show ∀ w, Below W.heap.size W w → Calls Try.prog 16 #[.slice p3 a11.length c3, .slice q3 b11.length d3] w (EqP false w) from fun w hb => by
    have h := eq_en ((hv.keep fun b o x hlt hx => Below.cellq hb (by omega) hx).rn) ((hu.keep fun b o x hlt hx => Below.cellq hb (by omega) hx).rn) (Nat.le_trans hB hb.size) (by have := hl.ents.1; omega)
    rw [decide_eq_false hne] at h; exact h)
  have HB0 := Lib.hid (((Below.refl _ W).alloc (Nat.le_refl _) (.cells #[.int .u8 a0, .int .u64 a1, .string a2, .string a3, .slice p1 a4.length c1, .int .i64 a5, .string a6, .int .i64 a7, .slice p2 a8.length c2, .int .i64 a9, .int .u64 a10, .slice p3 a11.length c3, .slice p4 a12.length c4, .slice p5 a13.length c5, .slice p6 a14.length c6, .int .u8 a15, .int .i64 a16, .int .i64 a17, .int .i64 a18] 34)).alloc (by simp) (.cells #[.int .u8 a0, .int .u64 a1, .string a2, .string a3, .slice q1 a4.length d1, .int .i64 a5, .string a6, .int .i64 a7, .slice q2 a8.length d2, .int .i64 a9, .int .u64 a10, .slice q3 b11.length d3, .slice q4 b12.length d4, .slice q5 b13.length d5, .slice q6 b14.length d6, .int .u8 b15, .int .i64 b16, .int .i64 b17, .int .i64 b18] 34))
  have HA0 := Lib.hid ((Blk.new W 34 #[.int .u8 a0, .int .u64 a1, .string a2, .string a3, .slice p1 a4.length c1, .int .i64 a5, .string a6, .int .i64 a7, .slice p2 a8.length c2, .int .i64 a9, .int .u64 a10, .slice p3 a11.length c3, .slice p4 a12.length c4, .slice p5 a13.length c5, .slice p6 a14.length c6, .int .u8 a15, .int .i64 a16, .int .i64 a17, .int .i64 a18]).alloc (.cells #[.int .u8 a0, .int .u64 a1, .string a2, .string a3, .slice q1 a4.length d1, .int .i64 a5, .string a6, .int .i64 a7, .slice q2 a8.length d2, .int .i64 a9, .int .u64 a10, .slice q3 b11.length d3, .slice q4 b12.length d4, .slice q5 b13.length d5, .slice q6 b14.length d6, .int .u8 b15, .int .i64 b16, .int .i64 b17, .int .i64 b18] 34))
  have HX0 := Lib.hid (blk_new1 W (.cells #[.int .u8 a0, .int .u64 a1, .string a2, .string a3, .slice p1 a4.length c1, .int .i64 a5, .string a6, .int .i64 a7, .slice p2 a8.length c2, .int .i64 a9, .int .u64 a10, .slice p3 a11.length c3, .slice p4 a12.length c4, .slice p5 a13.length c5, .slice p6 a14.length c6, .int .u8 a15, .int .i64 a16, .int .i64 a17, .int .i64 a18] 34) 34 #[.int .u8 a0, .int .u64 a1, .string a2, .string a3, .slice q1 a4.length d1, .int .i64 a5, .string a6, .int .i64 a7, .slice q2 a8.length d2, .int .i64 a9, .int .u64 a10, .slice q3 b11.length d3, .slice q4 b12.length d4, .slice q5 b13.length d5, .slice q6 b14.length d6, .int .u8 b15, .int .i64 b16, .int .i64 b17, .int .i64 b18])
  have hs2 := str_of (a := a2) rfl
  have hs3 := str_of (a := a3) rfl
  clear hv hu hl hB hne
  generalize a4.length = na4 at *
  generalize a8.length = na8 at *
  generalize a11.length = na11 at *
  generalize b11.length = nb11 at *
  generalize a12.length = na12 at *
  generalize b12.length = nb12 at *
  generalize a13.length = na13 at *
  generalize b13.length = nb13 at *
  generalize a14.length = na14 at *
  generalize b14.length = nb14 at *
  go_enter Try.func9, Try.ntmps9
  go_wp2_with (first | (with_reducible refine wpl_here (W := W) (oA := (.cells #[.int .u8 a0, .int .u64 a1, .string a2, .string a3, .slice p1 na4 c1, .int .i64 a5, .string a6, .int .i64 a7, .slice p2 na8 c2, .int .i64 a9, .int .u64 a10, .slice p3 na11 c3, .slice p4 na12 c4, .slice p5 na13 c5, .slice p6 na14 c6, .int .u8 a15, .int .i64 a16, .int .i64 a17, .int .i64 a18] 34)) (oB := (.cells #[.int .u8 a0, .int .u64 a1, .string a2, .string a3, .slice q1 na4 d1, .int .i64 a5, .string a6, .int .i64 a7, .slice q2 na8 d2, .int .i64 a9, .int .u64 a10, .slice q3 nb11 d3, .slice q4 nb12 d4, .slice q5 nb13 d5, .slice q6 nb14 d6, .int .u8 b15, .int .i64 b16, .int .i64 b17, .int .i64 b18] 34)) ?_; intro W1 hW1; rw [← hW1] at HA0 HX0 HB0; clear hW1; have x0 : W1.cell? ⟨W.heap.size, 0, none⟩ = some (.int .u8 a0) := HA0.out.cell 0; have y0 : W1.cell? ⟨W.heap.size + 1, 0, none⟩ = some (.int .u8 a0) := HX0.out.cell 0; have x1 : W1.cell? ⟨W.heap.size, 1, none⟩ = some (.int .u64 a1) := HA0.out.cell 1; have y1 : W1.cell? ⟨W.heap.size + 1, 1, none⟩ = some (.int .u64 a1) := HX0.out.cell 1; have x2 : W1.cell? ⟨W.heap.size, 2, none⟩ = some (.string a2) := HA0.out.cell 2; have y2 : W1.cell? ⟨W.heap.size + 1, 2, none⟩ = some (.string a2) := HX0.out.cell 2; have x3 : W1.cell? ⟨W.heap.size, 3, none⟩ = some (.string a3) := HA0.out.cell 3; have y3 : W1.cell? ⟨W.heap.size + 1, 3, none⟩ = some (.string a3) := HX0.out.cell 3; have x4 : W1.cell? ⟨W.heap.size, 4, none⟩ = some (.slice p1 na4 c1) := HA0.out.cell 4; have y4 : W1.cell? ⟨W.heap.size + 1, 4, none⟩ = some (.slice q1 na4 d1) := HX0.out.cell 4) | (go_at_call 14; go_loud ((with_reducible refine (H1.out _ HB0.out).mono ?_); rintro e w1 ⟨rfl, hb1⟩; have HB1 := Lib.hid (HB0.out.step hb1); have HA1 := Lib.hid (HA0.out.below hb1); have HX1 := Lib.hid (HX0.out.below hb1); clear hb1; have x5 : w1.cell? ⟨W.heap.size, 5, none⟩ = some (.int .i64 a5) := HA1.out.cell 5; have y5 : w1.cell? ⟨W.heap.size + 1, 5, none⟩ = some (.int .i64 a5) := HX1.out.cell 5; have x6 : w1.cell? ⟨W.heap.size, 6, none⟩ = some (.string a6) := HA1.out.cell 6; have y6 : w1.cell? ⟨W.heap.size + 1, 6, none⟩ = some (.string a6) := HX1.out.cell 6; have x7 : w1.cell? ⟨W.heap.size, 7, none⟩ = some (.int .i64 a7) := HA1.out.cell 7; have y7 : w1.cell? ⟨W.heap.size + 1, 7, none⟩ = some (.int .i64 a7) := HX1.out.cell 7; have x8 : w1.cell? ⟨W.heap.size, 8, none⟩ = some (.slice p2 na8 c2) := HA1.out.cell 8; have y8 : w1.cell? ⟨W.heap.size + 1, 8, none⟩ = some (.slice q2 na8 d2) := HX1.out.cell 8; have x9 : w1.cell? ⟨W.heap.size, 9, none⟩ = some (.int .i64 a9) := HA1.out.cell 9; have y9 : w1.cell? ⟨W.heap.size + 1, 9, none⟩ = some (.int .i64 a9) := HX1.out.cell 9)) | (go_at_call 15; go_loud ((with_reducible refine (H2.out _ HB1.out).mono ?_); rintro e w2 ⟨rfl, hb2⟩; have HB2 := Lib.hid (HB1.out.step hb2); have HA2 := Lib.hid (HA1.out.below hb2); have HX2 := Lib.hid (HX1.out.below hb2); clear hb2; have x10 : w2.cell? ⟨W.heap.size, 10, none⟩ = some (.int .u64 a10) := HA2.out.cell 10; have y10 : w2.cell? ⟨W.heap.size + 1, 10, none⟩ = some (.int .u64 a10) := HX2.out.cell 10; have x11 : w2.cell? ⟨W.heap.size, 11, none⟩ = some (.slice p3 na11 c3) := HA2.out.cell 11; have y11 : w2.cell? ⟨W.heap.size + 1, 11, none⟩ = some (.slice q3 nb11 d3) := HX2.out.cell 11)) | (go_at_call 16; go_loud ((with_reducible refine (H3.out _ HB2.out).mono ?_); rintro e w3 ⟨rfl, hb3⟩; have HB3 := Lib.hid (HB2.out.step hb3); have HA3 := Lib.hid (HA2.out.below hb3); have HX3 := Lib.hid (HX2.out.below hb3); clear hb3)))
  go_ret
  exact ⟨rfl, HB3.out⟩
set_option maxRecDepth 100000 in
set_option maxHeartbeats 8000000 in
theorem same_c9 {a0 : Int} {a1 : Int} {a2 : ByteArray} {a3 : ByteArray} {a4 : List Int} {a5 : Int} {a6 : ByteArray} {a7 : Int} {a8 : List Int} {a9 : Int} {a10 : Int} {a11 : List En} {a12 : List Int} {a13 : List Nm} {a14 : List Int} {a15 : Int} {a16 : Int} {a17 : Int} {a18 : Int} {b12 : List Int} {b13 : List Nm} {b14 : List Int} {b15 : Int} {b16 : Int} {b17 : Int} {b18 : Int} {W : World} {B : Nat} {p1 p2 p3 p4 p5 p6 q1 q2 q3 q4 q5 q6 : Option Addr} {c1 c2 c3 c4 c5 c6 d1 d2 d3 d4 d5 d6 : Nat}
    (hv : MR W B (⟨a0, a1, a2, a3, a4, a5, ⟨a6, a7, a8, a9⟩, a10, a11, a12, a13, a14, a15, ⟨a16, a17⟩, a18⟩ : M) ⟨.slice p1 a4.length c1, .slice p2 a8.length c2, .slice p3 a11.length c3, .slice p4 a12.length c4, .slice p5 a13.length c5, .slice p6 a14.length c6⟩) (hu : MR W B (⟨a0, a1, a2, a3, a4, a5, ⟨a6, a7, a8, a9⟩, a10, a11, b12, b13, b14, b15, ⟨b16, b17⟩, b18⟩ : M) ⟨.slice q1 a4.length d1, .slice q2 a8.length d2, .slice q3 a11.length d3, .slice q4 b12.length d4, .slice q5 b13.length d5, .slice q6 b14.length d6⟩) (hB : B ≤ W.heap.size) (hl : Lite (⟨a0, a1, a2, a3, a4, a5, ⟨a6, a7, a8, a9⟩, a10, a11, a12, a13, a14, a15, ⟨a16, a17⟩, a18⟩ : M)) (hne : ¬ a12 = b12) :
    Calls Try.prog 9 #[.agg #[.int .u8 a0, .int .u64 a1, .string a2, .string a3, .slice p1 a4.length c1, .int .i64 a5, .string a6, .int .i64 a7, .slice p2 a8.length c2, .int .i64 a9, .int .u64 a10, .slice p3 a11.length c3, .slice p4 a12.length c4, .slice p5 a13.length c5, .slice p6 a14.length c6, .int .u8 a15, .int .i64 a16, .int .i64 a17, .int .i64 a18], .agg #[.int .u8 a0, .int .u64 a1, .string a2, .string a3, .slice q1 a4.length d1, .int .i64 a5, .string a6, .int .i64 a7, .slice q2 a8.length d2, .int .i64 a9, .int .u64 a10, .slice q3 a11.length d3, .slice q4 b12.length d4, .slice q5 b13.length d5, .slice q6 b14.length d6, .int .u8 b15, .int .i64 b16, .int .i64 b17, .int .i64 b18]] W (EqP false W) := by
  have H1 := Lib.hid (show ∀ w, Below W.heap.size W w → Calls Try.prog 14 #[.slice p1 a4.length c1, .slice q1 a4.length d1] w (EqP true w) from fun w hb => by
    have h := eq_int ((hv.keep fun b o x hlt hx => Below.cellq hb (by omega) hx).ri) ((hu.keep fun b o x hlt hx => Below.cellq hb (by omega) hx).ri) (Nat.le_trans hB hb.size) (by have := hl.input; omega)
    rw [decide_eq_true rfl] at h; exact h)
  have H2 := Lib.hid (show ∀ w, Below W.heap.size W w → Calls Try.prog 15 #[.agg #[.string a6, .int .i64 a7, .slice p2 a8.length c2, .int .i64 a9], .agg #[.string a6, .int .i64 a7, .slice q2 a8.length d2, .int .i64 a9]] w (EqP true w) from fun w hb => by
    have h := tsk_any (t := (⟨a6, a7, a8, a9⟩ : Tk)) (u := (⟨a6, a7, a8, a9⟩ : Tk)) ((hv.keep fun b o x hlt hx => Below.cellq hb (by omega) hx).ra) ((hu.keep fun b o x hlt hx => Below.cellq hb (by omega) hx).ra) (Nat.le_trans hB hb.size) (hl.args)
    rw [decide_eq_true rfl] at h; exact h)
  have H3 := Lib.hid (show ∀ w, Below W.heap.size W w → Calls Try.prog 16 #[.slice p3 a11.length c3, .slice q3 a11.length d3] w (EqP true w) from fun w hb => by
    have h := eq_en ((hv.keep fun b o x hlt hx => Below.cellq hb (by omega) hx).rn) ((hu.keep fun b o x hlt hx => Below.cellq hb (by omega) hx).rn) (Nat.le_trans hB hb.size) (by have := hl.ents.1; omega)
    rw [decide_eq_true rfl] at h; exact h)
  have H4 := Lib.hid (show ∀ w, Below W.heap.size W w → Calls Try.prog 17 #[.slice p4 a12.length c4, .slice q4 b12.length d4] w (EqP false w) from fun w hb => by
    have h := eq_u64 ((hv.keep fun b o x hlt hx => Below.cellq hb (by omega) hx).rh) ((hu.keep fun b o x hlt hx => Below.cellq hb (by omega) hx).rh) (Nat.le_trans hB hb.size) (by have := hl.epochs; omega)
    rw [decide_eq_false hne] at h; exact h)
  have HB0 := Lib.hid (((Below.refl _ W).alloc (Nat.le_refl _) (.cells #[.int .u8 a0, .int .u64 a1, .string a2, .string a3, .slice p1 a4.length c1, .int .i64 a5, .string a6, .int .i64 a7, .slice p2 a8.length c2, .int .i64 a9, .int .u64 a10, .slice p3 a11.length c3, .slice p4 a12.length c4, .slice p5 a13.length c5, .slice p6 a14.length c6, .int .u8 a15, .int .i64 a16, .int .i64 a17, .int .i64 a18] 34)).alloc (by simp) (.cells #[.int .u8 a0, .int .u64 a1, .string a2, .string a3, .slice q1 a4.length d1, .int .i64 a5, .string a6, .int .i64 a7, .slice q2 a8.length d2, .int .i64 a9, .int .u64 a10, .slice q3 a11.length d3, .slice q4 b12.length d4, .slice q5 b13.length d5, .slice q6 b14.length d6, .int .u8 b15, .int .i64 b16, .int .i64 b17, .int .i64 b18] 34))
  have HA0 := Lib.hid ((Blk.new W 34 #[.int .u8 a0, .int .u64 a1, .string a2, .string a3, .slice p1 a4.length c1, .int .i64 a5, .string a6, .int .i64 a7, .slice p2 a8.length c2, .int .i64 a9, .int .u64 a10, .slice p3 a11.length c3, .slice p4 a12.length c4, .slice p5 a13.length c5, .slice p6 a14.length c6, .int .u8 a15, .int .i64 a16, .int .i64 a17, .int .i64 a18]).alloc (.cells #[.int .u8 a0, .int .u64 a1, .string a2, .string a3, .slice q1 a4.length d1, .int .i64 a5, .string a6, .int .i64 a7, .slice q2 a8.length d2, .int .i64 a9, .int .u64 a10, .slice q3 a11.length d3, .slice q4 b12.length d4, .slice q5 b13.length d5, .slice q6 b14.length d6, .int .u8 b15, .int .i64 b16, .int .i64 b17, .int .i64 b18] 34))
  have HX0 := Lib.hid (blk_new1 W (.cells #[.int .u8 a0, .int .u64 a1, .string a2, .string a3, .slice p1 a4.length c1, .int .i64 a5, .string a6, .int .i64 a7, .slice p2 a8.length c2, .int .i64 a9, .int .u64 a10, .slice p3 a11.length c3, .slice p4 a12.length c4, .slice p5 a13.length c5, .slice p6 a14.length c6, .int .u8 a15, .int .i64 a16, .int .i64 a17, .int .i64 a18] 34) 34 #[.int .u8 a0, .int .u64 a1, .string a2, .string a3, .slice q1 a4.length d1, .int .i64 a5, .string a6, .int .i64 a7, .slice q2 a8.length d2, .int .i64 a9, .int .u64 a10, .slice q3 a11.length d3, .slice q4 b12.length d4, .slice q5 b13.length d5, .slice q6 b14.length d6, .int .u8 b15, .int .i64 b16, .int .i64 b17, .int .i64 b18])
  have hs2 := str_of (a := a2) rfl
  have hs3 := str_of (a := a3) rfl
  clear hv hu hl hB hne
  generalize a4.length = na4 at *
  generalize a8.length = na8 at *
  generalize a11.length = na11 at *
  generalize a12.length = na12 at *
  generalize b12.length = nb12 at *
  generalize a13.length = na13 at *
  generalize b13.length = nb13 at *
  generalize a14.length = na14 at *
  generalize b14.length = nb14 at *
  go_enter Try.func9, Try.ntmps9
  go_wp2_with (first | (with_reducible refine wpl_here (W := W) (oA := (.cells #[.int .u8 a0, .int .u64 a1, .string a2, .string a3, .slice p1 na4 c1, .int .i64 a5, .string a6, .int .i64 a7, .slice p2 na8 c2, .int .i64 a9, .int .u64 a10, .slice p3 na11 c3, .slice p4 na12 c4, .slice p5 na13 c5, .slice p6 na14 c6, .int .u8 a15, .int .i64 a16, .int .i64 a17, .int .i64 a18] 34)) (oB := (.cells #[.int .u8 a0, .int .u64 a1, .string a2, .string a3, .slice q1 na4 d1, .int .i64 a5, .string a6, .int .i64 a7, .slice q2 na8 d2, .int .i64 a9, .int .u64 a10, .slice q3 na11 d3, .slice q4 nb12 d4, .slice q5 nb13 d5, .slice q6 nb14 d6, .int .u8 b15, .int .i64 b16, .int .i64 b17, .int .i64 b18] 34)) ?_; intro W1 hW1; rw [← hW1] at HA0 HX0 HB0; clear hW1; have x0 : W1.cell? ⟨W.heap.size, 0, none⟩ = some (.int .u8 a0) := HA0.out.cell 0; have y0 : W1.cell? ⟨W.heap.size + 1, 0, none⟩ = some (.int .u8 a0) := HX0.out.cell 0; have x1 : W1.cell? ⟨W.heap.size, 1, none⟩ = some (.int .u64 a1) := HA0.out.cell 1; have y1 : W1.cell? ⟨W.heap.size + 1, 1, none⟩ = some (.int .u64 a1) := HX0.out.cell 1; have x2 : W1.cell? ⟨W.heap.size, 2, none⟩ = some (.string a2) := HA0.out.cell 2; have y2 : W1.cell? ⟨W.heap.size + 1, 2, none⟩ = some (.string a2) := HX0.out.cell 2; have x3 : W1.cell? ⟨W.heap.size, 3, none⟩ = some (.string a3) := HA0.out.cell 3; have y3 : W1.cell? ⟨W.heap.size + 1, 3, none⟩ = some (.string a3) := HX0.out.cell 3; have x4 : W1.cell? ⟨W.heap.size, 4, none⟩ = some (.slice p1 na4 c1) := HA0.out.cell 4; have y4 : W1.cell? ⟨W.heap.size + 1, 4, none⟩ = some (.slice q1 na4 d1) := HX0.out.cell 4) | (go_at_call 14; go_loud ((with_reducible refine (H1.out _ HB0.out).mono ?_); rintro e w1 ⟨rfl, hb1⟩; have HB1 := Lib.hid (HB0.out.step hb1); have HA1 := Lib.hid (HA0.out.below hb1); have HX1 := Lib.hid (HX0.out.below hb1); clear hb1; have x5 : w1.cell? ⟨W.heap.size, 5, none⟩ = some (.int .i64 a5) := HA1.out.cell 5; have y5 : w1.cell? ⟨W.heap.size + 1, 5, none⟩ = some (.int .i64 a5) := HX1.out.cell 5; have x6 : w1.cell? ⟨W.heap.size, 6, none⟩ = some (.string a6) := HA1.out.cell 6; have y6 : w1.cell? ⟨W.heap.size + 1, 6, none⟩ = some (.string a6) := HX1.out.cell 6; have x7 : w1.cell? ⟨W.heap.size, 7, none⟩ = some (.int .i64 a7) := HA1.out.cell 7; have y7 : w1.cell? ⟨W.heap.size + 1, 7, none⟩ = some (.int .i64 a7) := HX1.out.cell 7; have x8 : w1.cell? ⟨W.heap.size, 8, none⟩ = some (.slice p2 na8 c2) := HA1.out.cell 8; have y8 : w1.cell? ⟨W.heap.size + 1, 8, none⟩ = some (.slice q2 na8 d2) := HX1.out.cell 8; have x9 : w1.cell? ⟨W.heap.size, 9, none⟩ = some (.int .i64 a9) := HA1.out.cell 9; have y9 : w1.cell? ⟨W.heap.size + 1, 9, none⟩ = some (.int .i64 a9) := HX1.out.cell 9)) | (go_at_call 15; go_loud ((with_reducible refine (H2.out _ HB1.out).mono ?_); rintro e w2 ⟨rfl, hb2⟩; have HB2 := Lib.hid (HB1.out.step hb2); have HA2 := Lib.hid (HA1.out.below hb2); have HX2 := Lib.hid (HX1.out.below hb2); clear hb2; have x10 : w2.cell? ⟨W.heap.size, 10, none⟩ = some (.int .u64 a10) := HA2.out.cell 10; have y10 : w2.cell? ⟨W.heap.size + 1, 10, none⟩ = some (.int .u64 a10) := HX2.out.cell 10; have x11 : w2.cell? ⟨W.heap.size, 11, none⟩ = some (.slice p3 na11 c3) := HA2.out.cell 11; have y11 : w2.cell? ⟨W.heap.size + 1, 11, none⟩ = some (.slice q3 na11 d3) := HX2.out.cell 11)) | (go_at_call 16; go_loud ((with_reducible refine (H3.out _ HB2.out).mono ?_); rintro e w3 ⟨rfl, hb3⟩; have HB3 := Lib.hid (HB2.out.step hb3); have HA3 := Lib.hid (HA2.out.below hb3); have HX3 := Lib.hid (HX2.out.below hb3); clear hb3; have x12 : w3.cell? ⟨W.heap.size, 12, none⟩ = some (.slice p4 na12 c4) := HA3.out.cell 12; have y12 : w3.cell? ⟨W.heap.size + 1, 12, none⟩ = some (.slice q4 nb12 d4) := HX3.out.cell 12)) | (go_at_call 17; go_loud ((with_reducible refine (H4.out _ HB3.out).mono ?_); rintro e w4 ⟨rfl, hb4⟩; have HB4 := Lib.hid (HB3.out.step hb4); have HA4 := Lib.hid (HA3.out.below hb4); have HX4 := Lib.hid (HX3.out.below hb4); clear hb4)))
  go_ret
  exact ⟨rfl, HB4.out⟩
set_option maxRecDepth 100000 in
set_option maxHeartbeats 8000000 in
theorem same_c10 {a0 : Int} {a1 : Int} {a2 : ByteArray} {a3 : ByteArray} {a4 : List Int} {a5 : Int} {a6 : ByteArray} {a7 : Int} {a8 : List Int} {a9 : Int} {a10 : Int} {a11 : List En} {a12 : List Int} {a13 : List Nm} {a14 : List Int} {a15 : Int} {a16 : Int} {a17 : Int} {a18 : Int} {b13 : List Nm} {b14 : List Int} {b15 : Int} {b16 : Int} {b17 : Int} {b18 : Int} {W : World} {B : Nat} {p1 p2 p3 p4 p5 p6 q1 q2 q3 q4 q5 q6 : Option Addr} {c1 c2 c3 c4 c5 c6 d1 d2 d3 d4 d5 d6 : Nat}
    (hv : MR W B (⟨a0, a1, a2, a3, a4, a5, ⟨a6, a7, a8, a9⟩, a10, a11, a12, a13, a14, a15, ⟨a16, a17⟩, a18⟩ : M) ⟨.slice p1 a4.length c1, .slice p2 a8.length c2, .slice p3 a11.length c3, .slice p4 a12.length c4, .slice p5 a13.length c5, .slice p6 a14.length c6⟩) (hu : MR W B (⟨a0, a1, a2, a3, a4, a5, ⟨a6, a7, a8, a9⟩, a10, a11, a12, b13, b14, b15, ⟨b16, b17⟩, b18⟩ : M) ⟨.slice q1 a4.length d1, .slice q2 a8.length d2, .slice q3 a11.length d3, .slice q4 a12.length d4, .slice q5 b13.length d5, .slice q6 b14.length d6⟩) (hB : B ≤ W.heap.size) (hl : Lite (⟨a0, a1, a2, a3, a4, a5, ⟨a6, a7, a8, a9⟩, a10, a11, a12, a13, a14, a15, ⟨a16, a17⟩, a18⟩ : M)) (hne : ¬ a13 = b13) :
    Calls Try.prog 9 #[.agg #[.int .u8 a0, .int .u64 a1, .string a2, .string a3, .slice p1 a4.length c1, .int .i64 a5, .string a6, .int .i64 a7, .slice p2 a8.length c2, .int .i64 a9, .int .u64 a10, .slice p3 a11.length c3, .slice p4 a12.length c4, .slice p5 a13.length c5, .slice p6 a14.length c6, .int .u8 a15, .int .i64 a16, .int .i64 a17, .int .i64 a18], .agg #[.int .u8 a0, .int .u64 a1, .string a2, .string a3, .slice q1 a4.length d1, .int .i64 a5, .string a6, .int .i64 a7, .slice q2 a8.length d2, .int .i64 a9, .int .u64 a10, .slice q3 a11.length d3, .slice q4 a12.length d4, .slice q5 b13.length d5, .slice q6 b14.length d6, .int .u8 b15, .int .i64 b16, .int .i64 b17, .int .i64 b18]] W (EqP false W) := by
  have H1 := Lib.hid (show ∀ w, Below W.heap.size W w → Calls Try.prog 14 #[.slice p1 a4.length c1, .slice q1 a4.length d1] w (EqP true w) from fun w hb => by
    have h := eq_int ((hv.keep fun b o x hlt hx => Below.cellq hb (by omega) hx).ri) ((hu.keep fun b o x hlt hx => Below.cellq hb (by omega) hx).ri) (Nat.le_trans hB hb.size) (by have := hl.input; omega)
    rw [decide_eq_true rfl] at h; exact h)
  have H2 := Lib.hid (show ∀ w, Below W.heap.size W w → Calls Try.prog 15 #[.agg #[.string a6, .int .i64 a7, .slice p2 a8.length c2, .int .i64 a9], .agg #[.string a6, .int .i64 a7, .slice q2 a8.length d2, .int .i64 a9]] w (EqP true w) from fun w hb => by
    have h := tsk_any (t := (⟨a6, a7, a8, a9⟩ : Tk)) (u := (⟨a6, a7, a8, a9⟩ : Tk)) ((hv.keep fun b o x hlt hx => Below.cellq hb (by omega) hx).ra) ((hu.keep fun b o x hlt hx => Below.cellq hb (by omega) hx).ra) (Nat.le_trans hB hb.size) (hl.args)
    rw [decide_eq_true rfl] at h; exact h)
  have H3 := Lib.hid (show ∀ w, Below W.heap.size W w → Calls Try.prog 16 #[.slice p3 a11.length c3, .slice q3 a11.length d3] w (EqP true w) from fun w hb => by
    have h := eq_en ((hv.keep fun b o x hlt hx => Below.cellq hb (by omega) hx).rn) ((hu.keep fun b o x hlt hx => Below.cellq hb (by omega) hx).rn) (Nat.le_trans hB hb.size) (by have := hl.ents.1; omega)
    rw [decide_eq_true rfl] at h; exact h)
  have H4 := Lib.hid (show ∀ w, Below W.heap.size W w → Calls Try.prog 17 #[.slice p4 a12.length c4, .slice q4 a12.length d4] w (EqP true w) from fun w hb => by
    have h := eq_u64 ((hv.keep fun b o x hlt hx => Below.cellq hb (by omega) hx).rh) ((hu.keep fun b o x hlt hx => Below.cellq hb (by omega) hx).rh) (Nat.le_trans hB hb.size) (by have := hl.epochs; omega)
    rw [decide_eq_true rfl] at h; exact h)
  have H5 := Lib.hid (show ∀ w, Below W.heap.size W w → Calls Try.prog 18 #[.slice p5 a13.length c5, .slice q5 b13.length d5] w (EqP false w) from fun w hb => by
    have h := eq_nm ((hv.keep fun b o x hlt hx => Below.cellq hb (by omega) hx).rm) ((hu.keep fun b o x hlt hx => Below.cellq hb (by omega) hx).rm) (Nat.le_trans hB hb.size) (by have := hl.names.1; omega)
    rw [decide_eq_false hne] at h; exact h)
  have HB0 := Lib.hid (((Below.refl _ W).alloc (Nat.le_refl _) (.cells #[.int .u8 a0, .int .u64 a1, .string a2, .string a3, .slice p1 a4.length c1, .int .i64 a5, .string a6, .int .i64 a7, .slice p2 a8.length c2, .int .i64 a9, .int .u64 a10, .slice p3 a11.length c3, .slice p4 a12.length c4, .slice p5 a13.length c5, .slice p6 a14.length c6, .int .u8 a15, .int .i64 a16, .int .i64 a17, .int .i64 a18] 34)).alloc (by simp) (.cells #[.int .u8 a0, .int .u64 a1, .string a2, .string a3, .slice q1 a4.length d1, .int .i64 a5, .string a6, .int .i64 a7, .slice q2 a8.length d2, .int .i64 a9, .int .u64 a10, .slice q3 a11.length d3, .slice q4 a12.length d4, .slice q5 b13.length d5, .slice q6 b14.length d6, .int .u8 b15, .int .i64 b16, .int .i64 b17, .int .i64 b18] 34))
  have HA0 := Lib.hid ((Blk.new W 34 #[.int .u8 a0, .int .u64 a1, .string a2, .string a3, .slice p1 a4.length c1, .int .i64 a5, .string a6, .int .i64 a7, .slice p2 a8.length c2, .int .i64 a9, .int .u64 a10, .slice p3 a11.length c3, .slice p4 a12.length c4, .slice p5 a13.length c5, .slice p6 a14.length c6, .int .u8 a15, .int .i64 a16, .int .i64 a17, .int .i64 a18]).alloc (.cells #[.int .u8 a0, .int .u64 a1, .string a2, .string a3, .slice q1 a4.length d1, .int .i64 a5, .string a6, .int .i64 a7, .slice q2 a8.length d2, .int .i64 a9, .int .u64 a10, .slice q3 a11.length d3, .slice q4 a12.length d4, .slice q5 b13.length d5, .slice q6 b14.length d6, .int .u8 b15, .int .i64 b16, .int .i64 b17, .int .i64 b18] 34))
  have HX0 := Lib.hid (blk_new1 W (.cells #[.int .u8 a0, .int .u64 a1, .string a2, .string a3, .slice p1 a4.length c1, .int .i64 a5, .string a6, .int .i64 a7, .slice p2 a8.length c2, .int .i64 a9, .int .u64 a10, .slice p3 a11.length c3, .slice p4 a12.length c4, .slice p5 a13.length c5, .slice p6 a14.length c6, .int .u8 a15, .int .i64 a16, .int .i64 a17, .int .i64 a18] 34) 34 #[.int .u8 a0, .int .u64 a1, .string a2, .string a3, .slice q1 a4.length d1, .int .i64 a5, .string a6, .int .i64 a7, .slice q2 a8.length d2, .int .i64 a9, .int .u64 a10, .slice q3 a11.length d3, .slice q4 a12.length d4, .slice q5 b13.length d5, .slice q6 b14.length d6, .int .u8 b15, .int .i64 b16, .int .i64 b17, .int .i64 b18])
  have hs2 := str_of (a := a2) rfl
  have hs3 := str_of (a := a3) rfl
  clear hv hu hl hB hne
  generalize a4.length = na4 at *
  generalize a8.length = na8 at *
  generalize a11.length = na11 at *
  generalize a12.length = na12 at *
  generalize a13.length = na13 at *
  generalize b13.length = nb13 at *
  generalize a14.length = na14 at *
  generalize b14.length = nb14 at *
  go_enter Try.func9, Try.ntmps9
  go_wp2_with (first | (with_reducible refine wpl_here (W := W) (oA := (.cells #[.int .u8 a0, .int .u64 a1, .string a2, .string a3, .slice p1 na4 c1, .int .i64 a5, .string a6, .int .i64 a7, .slice p2 na8 c2, .int .i64 a9, .int .u64 a10, .slice p3 na11 c3, .slice p4 na12 c4, .slice p5 na13 c5, .slice p6 na14 c6, .int .u8 a15, .int .i64 a16, .int .i64 a17, .int .i64 a18] 34)) (oB := (.cells #[.int .u8 a0, .int .u64 a1, .string a2, .string a3, .slice q1 na4 d1, .int .i64 a5, .string a6, .int .i64 a7, .slice q2 na8 d2, .int .i64 a9, .int .u64 a10, .slice q3 na11 d3, .slice q4 na12 d4, .slice q5 nb13 d5, .slice q6 nb14 d6, .int .u8 b15, .int .i64 b16, .int .i64 b17, .int .i64 b18] 34)) ?_; intro W1 hW1; rw [← hW1] at HA0 HX0 HB0; clear hW1; have x0 : W1.cell? ⟨W.heap.size, 0, none⟩ = some (.int .u8 a0) := HA0.out.cell 0; have y0 : W1.cell? ⟨W.heap.size + 1, 0, none⟩ = some (.int .u8 a0) := HX0.out.cell 0; have x1 : W1.cell? ⟨W.heap.size, 1, none⟩ = some (.int .u64 a1) := HA0.out.cell 1; have y1 : W1.cell? ⟨W.heap.size + 1, 1, none⟩ = some (.int .u64 a1) := HX0.out.cell 1; have x2 : W1.cell? ⟨W.heap.size, 2, none⟩ = some (.string a2) := HA0.out.cell 2; have y2 : W1.cell? ⟨W.heap.size + 1, 2, none⟩ = some (.string a2) := HX0.out.cell 2; have x3 : W1.cell? ⟨W.heap.size, 3, none⟩ = some (.string a3) := HA0.out.cell 3; have y3 : W1.cell? ⟨W.heap.size + 1, 3, none⟩ = some (.string a3) := HX0.out.cell 3; have x4 : W1.cell? ⟨W.heap.size, 4, none⟩ = some (.slice p1 na4 c1) := HA0.out.cell 4; have y4 : W1.cell? ⟨W.heap.size + 1, 4, none⟩ = some (.slice q1 na4 d1) := HX0.out.cell 4) | (go_at_call 14; go_loud ((with_reducible refine (H1.out _ HB0.out).mono ?_); rintro e w1 ⟨rfl, hb1⟩; have HB1 := Lib.hid (HB0.out.step hb1); have HA1 := Lib.hid (HA0.out.below hb1); have HX1 := Lib.hid (HX0.out.below hb1); clear hb1; have x5 : w1.cell? ⟨W.heap.size, 5, none⟩ = some (.int .i64 a5) := HA1.out.cell 5; have y5 : w1.cell? ⟨W.heap.size + 1, 5, none⟩ = some (.int .i64 a5) := HX1.out.cell 5; have x6 : w1.cell? ⟨W.heap.size, 6, none⟩ = some (.string a6) := HA1.out.cell 6; have y6 : w1.cell? ⟨W.heap.size + 1, 6, none⟩ = some (.string a6) := HX1.out.cell 6; have x7 : w1.cell? ⟨W.heap.size, 7, none⟩ = some (.int .i64 a7) := HA1.out.cell 7; have y7 : w1.cell? ⟨W.heap.size + 1, 7, none⟩ = some (.int .i64 a7) := HX1.out.cell 7; have x8 : w1.cell? ⟨W.heap.size, 8, none⟩ = some (.slice p2 na8 c2) := HA1.out.cell 8; have y8 : w1.cell? ⟨W.heap.size + 1, 8, none⟩ = some (.slice q2 na8 d2) := HX1.out.cell 8; have x9 : w1.cell? ⟨W.heap.size, 9, none⟩ = some (.int .i64 a9) := HA1.out.cell 9; have y9 : w1.cell? ⟨W.heap.size + 1, 9, none⟩ = some (.int .i64 a9) := HX1.out.cell 9)) | (go_at_call 15; go_loud ((with_reducible refine (H2.out _ HB1.out).mono ?_); rintro e w2 ⟨rfl, hb2⟩; have HB2 := Lib.hid (HB1.out.step hb2); have HA2 := Lib.hid (HA1.out.below hb2); have HX2 := Lib.hid (HX1.out.below hb2); clear hb2; have x10 : w2.cell? ⟨W.heap.size, 10, none⟩ = some (.int .u64 a10) := HA2.out.cell 10; have y10 : w2.cell? ⟨W.heap.size + 1, 10, none⟩ = some (.int .u64 a10) := HX2.out.cell 10; have x11 : w2.cell? ⟨W.heap.size, 11, none⟩ = some (.slice p3 na11 c3) := HA2.out.cell 11; have y11 : w2.cell? ⟨W.heap.size + 1, 11, none⟩ = some (.slice q3 na11 d3) := HX2.out.cell 11)) | (go_at_call 16; go_loud ((with_reducible refine (H3.out _ HB2.out).mono ?_); rintro e w3 ⟨rfl, hb3⟩; have HB3 := Lib.hid (HB2.out.step hb3); have HA3 := Lib.hid (HA2.out.below hb3); have HX3 := Lib.hid (HX2.out.below hb3); clear hb3; have x12 : w3.cell? ⟨W.heap.size, 12, none⟩ = some (.slice p4 na12 c4) := HA3.out.cell 12; have y12 : w3.cell? ⟨W.heap.size + 1, 12, none⟩ = some (.slice q4 na12 d4) := HX3.out.cell 12)) | (go_at_call 17; go_loud ((with_reducible refine (H4.out _ HB3.out).mono ?_); rintro e w4 ⟨rfl, hb4⟩; have HB4 := Lib.hid (HB3.out.step hb4); have HA4 := Lib.hid (HA3.out.below hb4); have HX4 := Lib.hid (HX3.out.below hb4); clear hb4; have x13 : w4.cell? ⟨W.heap.size, 13, none⟩ = some (.slice p5 na13 c5) := HA4.out.cell 13; have y13 : w4.cell? ⟨W.heap.size + 1, 13, none⟩ = some (.slice q5 nb13 d5) := HX4.out.cell 13)) | (go_at_call 18; go_loud ((with_reducible refine (H5.out _ HB4.out).mono ?_); rintro e w5 ⟨rfl, hb5⟩; have HB5 := Lib.hid (HB4.out.step hb5); have HA5 := Lib.hid (HA4.out.below hb5); have HX5 := Lib.hid (HX4.out.below hb5); clear hb5)))
  go_ret
  exact ⟨rfl, HB5.out⟩
set_option maxRecDepth 100000 in
set_option maxHeartbeats 8000000 in
theorem same_c11 {a0 : Int} {a1 : Int} {a2 : ByteArray} {a3 : ByteArray} {a4 : List Int} {a5 : Int} {a6 : ByteArray} {a7 : Int} {a8 : List Int} {a9 : Int} {a10 : Int} {a11 : List En} {a12 : List Int} {a13 : List Nm} {a14 : List Int} {a15 : Int} {a16 : Int} {a17 : Int} {a18 : Int} {b14 : List Int} {b15 : Int} {b16 : Int} {b17 : Int} {b18 : Int} {W : World} {B : Nat} {p1 p2 p3 p4 p5 p6 q1 q2 q3 q4 q5 q6 : Option Addr} {c1 c2 c3 c4 c5 c6 d1 d2 d3 d4 d5 d6 : Nat}
    (hv : MR W B (⟨a0, a1, a2, a3, a4, a5, ⟨a6, a7, a8, a9⟩, a10, a11, a12, a13, a14, a15, ⟨a16, a17⟩, a18⟩ : M) ⟨.slice p1 a4.length c1, .slice p2 a8.length c2, .slice p3 a11.length c3, .slice p4 a12.length c4, .slice p5 a13.length c5, .slice p6 a14.length c6⟩) (hu : MR W B (⟨a0, a1, a2, a3, a4, a5, ⟨a6, a7, a8, a9⟩, a10, a11, a12, a13, b14, b15, ⟨b16, b17⟩, b18⟩ : M) ⟨.slice q1 a4.length d1, .slice q2 a8.length d2, .slice q3 a11.length d3, .slice q4 a12.length d4, .slice q5 a13.length d5, .slice q6 b14.length d6⟩) (hB : B ≤ W.heap.size) (hl : Lite (⟨a0, a1, a2, a3, a4, a5, ⟨a6, a7, a8, a9⟩, a10, a11, a12, a13, a14, a15, ⟨a16, a17⟩, a18⟩ : M)) (hne : ¬ a14 = b14) :
    Calls Try.prog 9 #[.agg #[.int .u8 a0, .int .u64 a1, .string a2, .string a3, .slice p1 a4.length c1, .int .i64 a5, .string a6, .int .i64 a7, .slice p2 a8.length c2, .int .i64 a9, .int .u64 a10, .slice p3 a11.length c3, .slice p4 a12.length c4, .slice p5 a13.length c5, .slice p6 a14.length c6, .int .u8 a15, .int .i64 a16, .int .i64 a17, .int .i64 a18], .agg #[.int .u8 a0, .int .u64 a1, .string a2, .string a3, .slice q1 a4.length d1, .int .i64 a5, .string a6, .int .i64 a7, .slice q2 a8.length d2, .int .i64 a9, .int .u64 a10, .slice q3 a11.length d3, .slice q4 a12.length d4, .slice q5 a13.length d5, .slice q6 b14.length d6, .int .u8 b15, .int .i64 b16, .int .i64 b17, .int .i64 b18]] W (EqP false W) := by
  have H1 := Lib.hid (show ∀ w, Below W.heap.size W w → Calls Try.prog 14 #[.slice p1 a4.length c1, .slice q1 a4.length d1] w (EqP true w) from fun w hb => by
    have h := eq_int ((hv.keep fun b o x hlt hx => Below.cellq hb (by omega) hx).ri) ((hu.keep fun b o x hlt hx => Below.cellq hb (by omega) hx).ri) (Nat.le_trans hB hb.size) (by have := hl.input; omega)
    rw [decide_eq_true rfl] at h; exact h)
  have H2 := Lib.hid (show ∀ w, Below W.heap.size W w → Calls Try.prog 15 #[.agg #[.string a6, .int .i64 a7, .slice p2 a8.length c2, .int .i64 a9], .agg #[.string a6, .int .i64 a7, .slice q2 a8.length d2, .int .i64 a9]] w (EqP true w) from fun w hb => by
    have h := tsk_any (t := (⟨a6, a7, a8, a9⟩ : Tk)) (u := (⟨a6, a7, a8, a9⟩ : Tk)) ((hv.keep fun b o x hlt hx => Below.cellq hb (by omega) hx).ra) ((hu.keep fun b o x hlt hx => Below.cellq hb (by omega) hx).ra) (Nat.le_trans hB hb.size) (hl.args)
    rw [decide_eq_true rfl] at h; exact h)
  have H3 := Lib.hid (show ∀ w, Below W.heap.size W w → Calls Try.prog 16 #[.slice p3 a11.length c3, .slice q3 a11.length d3] w (EqP true w) from fun w hb => by
    have h := eq_en ((hv.keep fun b o x hlt hx => Below.cellq hb (by omega) hx).rn) ((hu.keep fun b o x hlt hx => Below.cellq hb (by omega) hx).rn) (Nat.le_trans hB hb.size) (by have := hl.ents.1; omega)
    rw [decide_eq_true rfl] at h; exact h)
  have H4 := Lib.hid (show ∀ w, Below W.heap.size W w → Calls Try.prog 17 #[.slice p4 a12.length c4, .slice q4 a12.length d4] w (EqP true w) from fun w hb => by
    have h := eq_u64 ((hv.keep fun b o x hlt hx => Below.cellq hb (by omega) hx).rh) ((hu.keep fun b o x hlt hx => Below.cellq hb (by omega) hx).rh) (Nat.le_trans hB hb.size) (by have := hl.epochs; omega)
    rw [decide_eq_true rfl] at h; exact h)
  have H5 := Lib.hid (show ∀ w, Below W.heap.size W w → Calls Try.prog 18 #[.slice p5 a13.length c5, .slice q5 a13.length d5] w (EqP true w) from fun w hb => by
    have h := eq_nm ((hv.keep fun b o x hlt hx => Below.cellq hb (by omega) hx).rm) ((hu.keep fun b o x hlt hx => Below.cellq hb (by omega) hx).rm) (Nat.le_trans hB hb.size) (by have := hl.names.1; omega)
    rw [decide_eq_true rfl] at h; exact h)
  have H6 := Lib.hid (show ∀ w, Below W.heap.size W w → Calls Try.prog 19 #[.slice p6 a14.length c6, .slice q6 b14.length d6] w (EqP false w) from fun w hb => by
    have h := eq_err ((hv.keep fun b o x hlt hx => Below.cellq hb (by omega) hx).rc) ((hu.keep fun b o x hlt hx => Below.cellq hb (by omega) hx).rc) (Nat.le_trans hB hb.size) (by have := hl.codes; omega)
    rw [decide_eq_false hne] at h; exact h)
  have HB0 := Lib.hid (((Below.refl _ W).alloc (Nat.le_refl _) (.cells #[.int .u8 a0, .int .u64 a1, .string a2, .string a3, .slice p1 a4.length c1, .int .i64 a5, .string a6, .int .i64 a7, .slice p2 a8.length c2, .int .i64 a9, .int .u64 a10, .slice p3 a11.length c3, .slice p4 a12.length c4, .slice p5 a13.length c5, .slice p6 a14.length c6, .int .u8 a15, .int .i64 a16, .int .i64 a17, .int .i64 a18] 34)).alloc (by simp) (.cells #[.int .u8 a0, .int .u64 a1, .string a2, .string a3, .slice q1 a4.length d1, .int .i64 a5, .string a6, .int .i64 a7, .slice q2 a8.length d2, .int .i64 a9, .int .u64 a10, .slice q3 a11.length d3, .slice q4 a12.length d4, .slice q5 a13.length d5, .slice q6 b14.length d6, .int .u8 b15, .int .i64 b16, .int .i64 b17, .int .i64 b18] 34))
  have HA0 := Lib.hid ((Blk.new W 34 #[.int .u8 a0, .int .u64 a1, .string a2, .string a3, .slice p1 a4.length c1, .int .i64 a5, .string a6, .int .i64 a7, .slice p2 a8.length c2, .int .i64 a9, .int .u64 a10, .slice p3 a11.length c3, .slice p4 a12.length c4, .slice p5 a13.length c5, .slice p6 a14.length c6, .int .u8 a15, .int .i64 a16, .int .i64 a17, .int .i64 a18]).alloc (.cells #[.int .u8 a0, .int .u64 a1, .string a2, .string a3, .slice q1 a4.length d1, .int .i64 a5, .string a6, .int .i64 a7, .slice q2 a8.length d2, .int .i64 a9, .int .u64 a10, .slice q3 a11.length d3, .slice q4 a12.length d4, .slice q5 a13.length d5, .slice q6 b14.length d6, .int .u8 b15, .int .i64 b16, .int .i64 b17, .int .i64 b18] 34))
  have HX0 := Lib.hid (blk_new1 W (.cells #[.int .u8 a0, .int .u64 a1, .string a2, .string a3, .slice p1 a4.length c1, .int .i64 a5, .string a6, .int .i64 a7, .slice p2 a8.length c2, .int .i64 a9, .int .u64 a10, .slice p3 a11.length c3, .slice p4 a12.length c4, .slice p5 a13.length c5, .slice p6 a14.length c6, .int .u8 a15, .int .i64 a16, .int .i64 a17, .int .i64 a18] 34) 34 #[.int .u8 a0, .int .u64 a1, .string a2, .string a3, .slice q1 a4.length d1, .int .i64 a5, .string a6, .int .i64 a7, .slice q2 a8.length d2, .int .i64 a9, .int .u64 a10, .slice q3 a11.length d3, .slice q4 a12.length d4, .slice q5 a13.length d5, .slice q6 b14.length d6, .int .u8 b15, .int .i64 b16, .int .i64 b17, .int .i64 b18])
  have hs2 := str_of (a := a2) rfl
  have hs3 := str_of (a := a3) rfl
  clear hv hu hl hB hne
  generalize a4.length = na4 at *
  generalize a8.length = na8 at *
  generalize a11.length = na11 at *
  generalize a12.length = na12 at *
  generalize a13.length = na13 at *
  generalize a14.length = na14 at *
  generalize b14.length = nb14 at *
  go_enter Try.func9, Try.ntmps9
  go_wp2_with (first | (with_reducible refine wpl_here (W := W) (oA := (.cells #[.int .u8 a0, .int .u64 a1, .string a2, .string a3, .slice p1 na4 c1, .int .i64 a5, .string a6, .int .i64 a7, .slice p2 na8 c2, .int .i64 a9, .int .u64 a10, .slice p3 na11 c3, .slice p4 na12 c4, .slice p5 na13 c5, .slice p6 na14 c6, .int .u8 a15, .int .i64 a16, .int .i64 a17, .int .i64 a18] 34)) (oB := (.cells #[.int .u8 a0, .int .u64 a1, .string a2, .string a3, .slice q1 na4 d1, .int .i64 a5, .string a6, .int .i64 a7, .slice q2 na8 d2, .int .i64 a9, .int .u64 a10, .slice q3 na11 d3, .slice q4 na12 d4, .slice q5 na13 d5, .slice q6 nb14 d6, .int .u8 b15, .int .i64 b16, .int .i64 b17, .int .i64 b18] 34)) ?_; intro W1 hW1; rw [← hW1] at HA0 HX0 HB0; clear hW1; have x0 : W1.cell? ⟨W.heap.size, 0, none⟩ = some (.int .u8 a0) := HA0.out.cell 0; have y0 : W1.cell? ⟨W.heap.size + 1, 0, none⟩ = some (.int .u8 a0) := HX0.out.cell 0; have x1 : W1.cell? ⟨W.heap.size, 1, none⟩ = some (.int .u64 a1) := HA0.out.cell 1; have y1 : W1.cell? ⟨W.heap.size + 1, 1, none⟩ = some (.int .u64 a1) := HX0.out.cell 1; have x2 : W1.cell? ⟨W.heap.size, 2, none⟩ = some (.string a2) := HA0.out.cell 2; have y2 : W1.cell? ⟨W.heap.size + 1, 2, none⟩ = some (.string a2) := HX0.out.cell 2; have x3 : W1.cell? ⟨W.heap.size, 3, none⟩ = some (.string a3) := HA0.out.cell 3; have y3 : W1.cell? ⟨W.heap.size + 1, 3, none⟩ = some (.string a3) := HX0.out.cell 3; have x4 : W1.cell? ⟨W.heap.size, 4, none⟩ = some (.slice p1 na4 c1) := HA0.out.cell 4; have y4 : W1.cell? ⟨W.heap.size + 1, 4, none⟩ = some (.slice q1 na4 d1) := HX0.out.cell 4) | (go_at_call 14; go_loud ((with_reducible refine (H1.out _ HB0.out).mono ?_); rintro e w1 ⟨rfl, hb1⟩; have HB1 := Lib.hid (HB0.out.step hb1); have HA1 := Lib.hid (HA0.out.below hb1); have HX1 := Lib.hid (HX0.out.below hb1); clear hb1; have x5 : w1.cell? ⟨W.heap.size, 5, none⟩ = some (.int .i64 a5) := HA1.out.cell 5; have y5 : w1.cell? ⟨W.heap.size + 1, 5, none⟩ = some (.int .i64 a5) := HX1.out.cell 5; have x6 : w1.cell? ⟨W.heap.size, 6, none⟩ = some (.string a6) := HA1.out.cell 6; have y6 : w1.cell? ⟨W.heap.size + 1, 6, none⟩ = some (.string a6) := HX1.out.cell 6; have x7 : w1.cell? ⟨W.heap.size, 7, none⟩ = some (.int .i64 a7) := HA1.out.cell 7; have y7 : w1.cell? ⟨W.heap.size + 1, 7, none⟩ = some (.int .i64 a7) := HX1.out.cell 7; have x8 : w1.cell? ⟨W.heap.size, 8, none⟩ = some (.slice p2 na8 c2) := HA1.out.cell 8; have y8 : w1.cell? ⟨W.heap.size + 1, 8, none⟩ = some (.slice q2 na8 d2) := HX1.out.cell 8; have x9 : w1.cell? ⟨W.heap.size, 9, none⟩ = some (.int .i64 a9) := HA1.out.cell 9; have y9 : w1.cell? ⟨W.heap.size + 1, 9, none⟩ = some (.int .i64 a9) := HX1.out.cell 9)) | (go_at_call 15; go_loud ((with_reducible refine (H2.out _ HB1.out).mono ?_); rintro e w2 ⟨rfl, hb2⟩; have HB2 := Lib.hid (HB1.out.step hb2); have HA2 := Lib.hid (HA1.out.below hb2); have HX2 := Lib.hid (HX1.out.below hb2); clear hb2; have x10 : w2.cell? ⟨W.heap.size, 10, none⟩ = some (.int .u64 a10) := HA2.out.cell 10; have y10 : w2.cell? ⟨W.heap.size + 1, 10, none⟩ = some (.int .u64 a10) := HX2.out.cell 10; have x11 : w2.cell? ⟨W.heap.size, 11, none⟩ = some (.slice p3 na11 c3) := HA2.out.cell 11; have y11 : w2.cell? ⟨W.heap.size + 1, 11, none⟩ = some (.slice q3 na11 d3) := HX2.out.cell 11)) | (go_at_call 16; go_loud ((with_reducible refine (H3.out _ HB2.out).mono ?_); rintro e w3 ⟨rfl, hb3⟩; have HB3 := Lib.hid (HB2.out.step hb3); have HA3 := Lib.hid (HA2.out.below hb3); have HX3 := Lib.hid (HX2.out.below hb3); clear hb3; have x12 : w3.cell? ⟨W.heap.size, 12, none⟩ = some (.slice p4 na12 c4) := HA3.out.cell 12; have y12 : w3.cell? ⟨W.heap.size + 1, 12, none⟩ = some (.slice q4 na12 d4) := HX3.out.cell 12)) | (go_at_call 17; go_loud ((with_reducible refine (H4.out _ HB3.out).mono ?_); rintro e w4 ⟨rfl, hb4⟩; have HB4 := Lib.hid (HB3.out.step hb4); have HA4 := Lib.hid (HA3.out.below hb4); have HX4 := Lib.hid (HX3.out.below hb4); clear hb4; have x13 : w4.cell? ⟨W.heap.size, 13, none⟩ = some (.slice p5 na13 c5) := HA4.out.cell 13; have y13 : w4.cell? ⟨W.heap.size + 1, 13, none⟩ = some (.slice q5 na13 d5) := HX4.out.cell 13)) | (go_at_call 18; go_loud ((with_reducible refine (H5.out _ HB4.out).mono ?_); rintro e w5 ⟨rfl, hb5⟩; have HB5 := Lib.hid (HB4.out.step hb5); have HA5 := Lib.hid (HA4.out.below hb5); have HX5 := Lib.hid (HX4.out.below hb5); clear hb5; have x14 : w5.cell? ⟨W.heap.size, 14, none⟩ = some (.slice p6 na14 c6) := HA5.out.cell 14; have y14 : w5.cell? ⟨W.heap.size + 1, 14, none⟩ = some (.slice q6 nb14 d6) := HX5.out.cell 14)) | (go_at_call 19; go_loud ((with_reducible refine (H6.out _ HB5.out).mono ?_); rintro e w6 ⟨rfl, hb6⟩; have HB6 := Lib.hid (HB5.out.step hb6); have HA6 := Lib.hid (HA5.out.below hb6); have HX6 := Lib.hid (HX5.out.below hb6); clear hb6)))
  go_ret
  exact ⟨rfl, HB6.out⟩
end Go.Proofs.Ytghbjknpffiaiaa
