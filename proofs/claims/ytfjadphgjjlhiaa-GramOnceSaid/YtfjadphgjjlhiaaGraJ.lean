
/- A net beside whatever else: what each call leaves of both. No condition but that the net is one, and not beyond any bound. -/
import Derived.Test.YtfjadphgjjlhiaaGraI
namespace Go.Proofs.Ytfjadphgjjlhiaa
open Go.RowKit Go.Maps Gr Sok
set_option linter.unusedVariables false
set_option linter.unusedSimpArgs false
/-- A net that was made behind w0, and what was at w0. -/
structure NT (w0 w : World) (b h c : Nat) (last : Int) (L : List G) (C : Int → Int → Bool) (N : Nat) : Prop where
  nw : NW w b h c last L C N
  bel : Below w0.heap.size w0 w
  ge : w0.heap.size ≤ b ∧ w0.heap.size ≤ h ∧ w0.heap.size ≤ c
section
variable {w0 w w' : World} {b h c N : Nat} {last : Int} {L : List G} {C : Int → Int → Bool}
theorem NT.step (t : NT w0 w b h c last L C N) {last' : Int} {L' : List G} {C' : Int → Int → Bool} {N' : Nat} (n : NW w' b h c last' L' C' N') {S : Nat → Prop} (o : Only S w w') (hS : ∀ k, S k → k = b ∨ k = h ∨ k = c) : NT w0 w' b h c last' L' C' N' := by
  refine ⟨n, t.bel.trans (o.below t.bel.size fun k hk => ?_), t.ge⟩
  have := t.ge
  rcases hS k hk with e | e | e <;> omega
theorem NT.below (t : NT w0 w b h c last L C N) (hb : Below w.heap.size w w') : NT w0 w' b h c last L C N := t.step (t.nw.below hb) (Only.of_below (S := fun _ => False) hb) (fun _ h => h.elim)
theorem NT.alloc (t : NT w0 w b h c last L C N) (o : Obj) : NT w0 (w.alloc o) b h c last L C N := t.below ((Below.refl _ _).alloc (Nat.le_refl _) o)
theorem NT.other {S : Nat → Prop} (t : NT w0 w b h c last L C N) (o : Only S w w') (hS : ∀ k, S k → w0.heap.size ≤ k ∧ k ≠ b ∧ k ≠ h ∧ k ≠ c) : NT w0 w' b h c last L C N :=
  ⟨t.nw.only o ⟨fun s => (hS _ s).2.1 rfl, fun s => (hS _ s).2.2.1 rfl, fun s => (hS _ s).2.2.2 rfl⟩, t.bel.trans (o.below t.bel.size fun k hk => (hS k hk).1), t.ge⟩
abbrev OnN (b h c : Nat) (w w' : World) : Prop := Only (fun k => k = b ∨ k = h ∨ k = c) w w'
theorem onN1 {w w' : World} {b h c : Nat} (o : Only (· = h) w w') : OnN b h c w w' := o.mono fun k _ e => .inr (.inl e)
theorem onN2 {w w' : World} {b h c : Nat} (o : Only (· = c) w w') : OnN b h c w w' := o.mono fun k _ e => .inr (.inr e)
theorem onN3 {w w' : World} {b h c : Nat} (o : Only (fun k => k = b ∨ k = h) w w') : OnN b h c w w' := o.mono fun k _ e => by rcases e with e | e; exact .inl e; exact .inr (.inl e)
theorem nt_new (hb : Below w0.heap.size w0 w) : Calls Try.prog 8 #[] w fun e w' => ∃ b h c, e = .returned (.pointer (some ⟨b, 0, none⟩)) ∧ NT w0 w' b h c 0 [] (fun _ _ => false) 0 ∧ Below w.heap.size w w' := by
  refine (new_any w).mono ?_
  rintro e w' ⟨b, h, c, rfl, hn, hb2, h1, h2, h3⟩
  have := hb.size
  exact ⟨b, h, c, rfl, ⟨hn, hb.step hb2, by omega, by omega, by omega⟩, hb2⟩
theorem to_new (w : World) (T : TypeId) (cap : Nat) (xs : List Int) (cs : Array Value) (hcs : cs = (xs.map (Value.int .i64)).toArray) : To (w.alloc (.cells cs T)) (some ⟨w.heap.size, 0, none⟩) cap xs := by
  subst hcs
  refine .inr ⟨_, 0, rfl, fun i hi => ?_⟩
  rw [show (0 + i) = i by omega, (Blk.new w T _).cell i, List.getElem?_toArray, List.getElem?_map, List.getElem?_eq_getElem hi, getElem!_pos xs i hi]; rfl
theorem ul_new (w : World) (T : TypeId) (xs : List Int) (cs : Array Value) (hcs : cs = (xs.map (Value.int .u64)).toArray) : Ul (w.alloc (.cells cs T)) (some ⟨w.heap.size, 0, none⟩) xs := by
  subst hcs
  refine .inr ⟨_, 0, rfl, fun i hi => ?_⟩
  rw [show (0 + i) = i by omega, (Blk.new w T _).cell i, List.getElem?_toArray, List.getElem?_map, List.getElem?_eq_getElem hi, getElem!_pos xs i hi]; rfl
/-- What a Send of a net leaves. -/
def SendT (w0 w : World) (b h c : Nat) (last fr : Int) (tx : ByteArray) (tos : List Int) (L : List G) (C : Int → Int → Bool) (N : Nat) (k : Int) (e : Ending) (w' : World) : Prop :=
  e = .returned (.tuple #[.int .i64 (if k = 0 then (tos.length : Int) else 0), .int .i64 k]) ∧ OnN b h c w w' ∧
    (k ≠ 0 → NT w0 w' b h c last L C N) ∧ (k = 0 → NT w0 w' b h c (last + tos.length) (L ++ laid last fr tx tos tos.length) C (N + tos.length))
theorem nt_send (t : NT w0 w b h c last L C N) {fr : Int} {tx : ByteArray} {p : Option Addr} {m cap : Nat} {tos : List Int} (ht : To w p cap tos) (hm : tos.length = m) (hmx : m ≤ 100000)
    (hlt : ∀ g o, p = some ⟨g, o, none⟩ → g < w.heap.size ∧ ¬ (g = b ∨ g = h)) (hL : L.length ≤ 4096) (hl : last + m ≤ 4611686018427387904) (hN : N + m ≤ 1000000) {k : Int} (hk : sc ((fr :: tos).any bad) tx.size m L.length = k) :
    Calls Try.prog 9 #[.pointer (some ⟨b, 0, none⟩), .int .i64 fr, .string tx, .slice p m cap] w (SendT w0 w b h c last fr tx tos L C N k) := by
  subst hm
  refine (send_any t.nw ht rfl hmx hlt rfl hL hl hN hk).mono ?_
  rintro e w' ⟨h1, h2⟩
  by_cases hz : k = 0
  · subst hz
    obtain ⟨rfl, hn, ho⟩ := h2 rfl
    exact ⟨by simp, onN3 ho, fun h => absurd rfl h, fun _ => t.step hn (onN3 ho) (fun _ h => h)⟩
  · obtain ⟨rfl, hb⟩ := h1 hz
    exact ⟨by simp [hz], Only.of_below hb, fun _ => t.below hb, fun h => absurd h hz⟩
/-- .. to a row that was laid just now. -/
theorem nt_send_new (t : NT w0 w b h c last L C N) {fr : Int} {tx : ByteArray} {T : TypeId} {m : Nat} {cs : Array Value} {q : Nat} (tos : List Int) (k : Int) (hq : q = w.heap.size) (hcs : cs = (tos.map (Value.int .i64)).toArray) (hm : tos.length = m) (hmx : m ≤ 100000)
    (hL : L.length ≤ 4096) (hl : last + m ≤ 4611686018427387904) (hN : N + m ≤ 1000000) (hk : sc ((fr :: tos).any bad) tx.size m L.length = k) :
    Calls Try.prog 9 #[.pointer (some ⟨b, 0, none⟩), .int .i64 fr, .string tx, .slice (some ⟨q, 0, none⟩) m m] (w.alloc (.cells cs T)) (SendT w0 w b h c last fr tx tos L C N k) := by
  subst hq
  refine (nt_send (t.alloc (.cells cs T)) (to_new w T m tos cs hcs) hm hmx ?_ hL hl hN hk).mono ?_
  · rintro g o e
    injection e with e
    injection e with e1 e2
    subst e1
    have h1 := t.nw.blk.lt; have h2 := t.nw.gm.lt
    exact ⟨by simp, by omega⟩
  · rintro e w' ⟨he, ho, h1, h2⟩
    exact ⟨he, ((Only.refl _ w).alloc _).trans ho, h1, h2⟩
/-- What a Take leaves. -/
def takeG (C : Int → Int → Bool) (L : List G) (x : Int) : G × Int × List G := match L.find? (fun g => g.id == x) with
  | none => (g0, 5, L)
  | some g => if C g.fr g.tt then (g0, 90, L) else (g, 0, rem L x)
def TakeT (w0 w : World) (b h c : Nat) (last : Int) (L : List G) (C : Int → Int → Bool) (N : Nat) (r : G × Int × List G) (e : Ending) (w' : World) : Prop :=
  e = .returned (.tuple #[gv r.1, .int .i64 r.2.1]) ∧ NT w0 w' b h c last r.2.2 C N ∧ OnN b h c w w'
theorem nt_take (t : NT w0 w b h c last L C N) {x : Int} (hu : U64 x) {r : G × Int × List G} (hr : takeG C L x = r) :
    Calls Try.prog 11 #[.pointer (some ⟨b, 0, none⟩), .int .u64 x] w (TakeT w0 w b h c last L C N r) := by
  subst hr
  unfold takeG
  cases hf : L.find? (fun g => g.id == x) with
  | none =>
    have hno : ¬ ∃ g ∈ L, g.id = x := by
      rintro ⟨g, hg, e⟩
      have := List.find?_eq_none.1 hf g hg
      simp [e] at this
    refine (take_miss t.nw hno hu).mono ?_
    rintro e w' ⟨rfl, hb⟩
    exact ⟨rfl, t.below hb, Only.of_below hb⟩
  | some g =>
    have hg := List.mem_of_find?_eq_some hf
    have hx : g.id = x := by simpa using List.find?_some hf
    dsimp only
    cases hc : C g.fr g.tt with
    | true =>
      refine (take_any t.nw hg hx hc).mono ?_
      rintro e w' ⟨rfl, hn, ho⟩
      exact ⟨rfl, t.step hn (onN1 ho) (fun _ h => h), onN1 ho⟩
    | false =>
      refine (take_any t.nw hg hx hc).mono ?_
      rintro e w' ⟨rfl, hn, ho⟩
      exact ⟨rfl, t.step hn (onN1 ho) (fun _ h => h), onN1 ho⟩
/-- What a Double leaves. -/
def dblG (last : Int) (L : List G) (x : Int) : Int × Int × Int × List G × Nat := match L.find? (fun g => g.id == x) with
  | none => (0, 5, last, L, 0)
  | some g => if 4096 ≤ L.length then (0, 6, last, L, 0) else (last + 1, 0, last + 1, L ++ [{ g with id := last + 1 }], 1)
def DblT (w0 w : World) (b h c : Nat) (C : Int → Int → Bool) (N : Nat) (r : Int × Int × Int × List G × Nat) (e : Ending) (w' : World) : Prop :=
  e = .returned (.tuple #[.int .u64 r.1, .int .i64 r.2.1]) ∧ NT w0 w' b h c r.2.2.1 r.2.2.2.1 C (N + r.2.2.2.2) ∧ OnN b h c w w'
theorem nt_double (t : NT w0 w b h c last L C N) {x : Int} (hu : U64 x) (hl : last + 1 ≤ 4611686018427387904) (hN : N ≤ 1000000) {r : Int × Int × Int × List G × Nat} (hr : dblG last L x = r) :
    Calls Try.prog 10 #[.pointer (some ⟨b, 0, none⟩), .int .u64 x] w (DblT w0 w b h c C N r) := by
  subst hr
  unfold dblG
  cases hf : L.find? (fun g => g.id == x) with
  | none =>
    have hno : ¬ ∃ g ∈ L, g.id = x := by
      rintro ⟨g, hg, e⟩
      have := List.find?_eq_none.1 hf g hg
      simp [e] at this
    refine (double_miss t.nw hno hu).mono ?_
    rintro e w' ⟨rfl, hb⟩
    exact ⟨rfl, t.below hb, Only.of_below hb⟩
  | some g =>
    have hg := List.mem_of_find?_eq_some hf
    have hx : g.id = x := by simpa using List.find?_some hf
    by_cases hfull : 4096 ≤ L.length
    · refine (double_full t.nw hg hx hfull).mono ?_
      rintro e w' ⟨rfl, hb⟩
      simp only [hfull, if_true]
      exact ⟨rfl, t.below hb, Only.of_below hb⟩
    · refine (double_any t.nw hg hx hfull hl hN).mono ?_
      rintro e w' ⟨rfl, hn, ho⟩
      simp only [hfull, if_false]
      exact ⟨rfl, t.step hn (onN3 ho) (fun _ h => h), onN3 ho⟩
/-- What a Drop leaves. -/
def DropT (w0 w : World) (b h c : Nat) (last : Int) (C : Int → Int → Bool) (N : Nat) (r : Nat × List G) (e : Ending) (w' : World) : Prop :=
  e = .returned (.int .i64 r.1) ∧ NT w0 w' b h c last r.2 C N ∧ OnN b h c w w'
theorem nt_drop_new (t : NT w0 w b h c last L C N) {T : TypeId} {m q : Nat} {cs : Array Value} (xs : List Int) (hq : q = w.heap.size) (hcs : cs = (xs.map (Value.int .u64)).toArray) (hm : xs.length = m) (hmx : m ≤ 100000) (hu : ∀ x ∈ xs, U64 x) {r : Nat × List G} (hr : drN L xs = r) :
    Calls Try.prog 17 #[.pointer (some ⟨b, 0, none⟩), .slice (some ⟨q, 0, none⟩) m m] (w.alloc (.cells cs T)) (DropT w0 w b h c last C N r) := by
  subst hr hq
  have t1 := t.alloc (.cells cs T)
  refine (drop_any t1.nw (ul_new w T xs cs hcs) hm hmx ?_ hu).mono ?_
  · rintro g o e
    injection e with e
    injection e with e1 e2
    subst e1
    have h2 := t.nw.gm.lt
    exact ⟨by simp, by omega⟩
  · rintro e w' ⟨rfl, hn, ho⟩
    exact ⟨rfl, t1.step hn (onN1 ho) (fun _ h => h), ((Only.refl _ w).alloc _).trans (onN1 ho)⟩
def cutC (C : Int → Int → Bool) (x y : Int) : Int → Int → Bool := fun p q => C p q || (p == x && q == y)
def healC (C : Int → Int → Bool) (x y : Int) : Int → Int → Bool := fun p q => C p q && !(p == x && q == y)
def CutT (w0 w : World) (b h c : Nat) (last : Int) (L : List G) (r : Int × (Int → Int → Bool) × Nat) (e : Ending) (w' : World) : Prop :=
  e = .returned (.int .i64 r.1) ∧ NT w0 w' b h c last L r.2.1 r.2.2 ∧ OnN b h c w w'
theorem nt_cut (t : NT w0 w b h c last L C N) {x y : Int} (hN : N ≤ 1000000) {q : Bool} (hq : bad2 x y = q) {r : Int × (Int → Int → Bool) × Nat} (hr : (if q then (2, C, N) else (0, cutC C x y, N + 1)) = r) :
    Calls Try.prog 20 #[.pointer (some ⟨b, 0, none⟩), .int .i64 x, .int .i64 y] w (CutT w0 w b h c last L r) := by
  subst hr
  cases q with
  | true =>
    refine (cut_bad t.nw hq).mono ?_
    rintro e w' ⟨rfl, hb⟩
    exact ⟨rfl, t.below hb, Only.of_below hb⟩
  | false =>
    refine (cut_any t.nw hq hN).mono ?_
    rintro e w' ⟨rfl, hn, ho⟩
    exact ⟨rfl, t.step hn (onN2 ho) (fun _ h => h), onN2 ho⟩
theorem nt_heal (t : NT w0 w b h c last L C N) {x y : Int} {q : Bool} (hq : bad2 x y = q) {r : Int × (Int → Int → Bool) × Nat} (hr : (if q then (2, C, N) else (0, healC C x y, N)) = r) :
    Calls Try.prog 22 #[.pointer (some ⟨b, 0, none⟩), .int .i64 x, .int .i64 y] w (CutT w0 w b h c last L r) := by
  subst hr
  cases q with
  | true =>
    refine (heal_bad t.nw hq).mono ?_
    rintro e w' ⟨rfl, hb⟩
    exact ⟨rfl, t.below hb, Only.of_below hb⟩
  | false =>
    refine (heal_any t.nw hq).mono ?_
    rintro e w' ⟨rfl, hn, ho⟩
    exact ⟨rfl, t.step hn (onN2 ho) (fun _ h => h), onN2 ho⟩
/-- What a call leaves that answers numbers. -/
def ReadyT (w0 w : World) (b h c : Nat) (last : Int) (L : List G) (C : Int → Int → Bool) (N : Nat) (xs : List Int) (e : Ending) (w' : World) : Prop :=
  ∃ v, e = .returned v ∧ w'.ownsRow w.heap.size 29 1 v xs.length (xs.map (Value.int .u64)) ∧ NT w0 w' b h c last L C N ∧ Below w.heap.size w w'
theorem nt_ready (t : NT w0 w b h c last L C N) (hL : L.length ≤ 100000) {xs : List Int} (hr : rdyL C L = xs) : Calls Try.prog 24 #[.pointer (some ⟨b, 0, none⟩)] w (ReadyT w0 w b h c last L C N xs) := by
  subst hr
  refine (ready_any t.nw hL).mono ?_
  rintro e w' ⟨v, rfl, hr, hb⟩
  exact ⟨v, rfl, hr, t.below hb, hb⟩
def ListT (w0 w : World) (b h c : Nat) (last : Int) (L : List G) (C : Int → Int → Bool) (N : Nat) (e : Ending) (w' : World) : Prop :=
  ∃ v, e = .returned v ∧ w'.ownsRow w.heap.size 33 4 v L.length (rowsG L) ∧ NT w0 w' b h c last L C N ∧ Below w.heap.size w w'
theorem nt_list (t : NT w0 w b h c last L C N) (hL : L.length ≤ 100000) : Calls Try.prog 12 #[.pointer (some ⟨b, 0, none⟩)] w (ListT w0 w b h c last L C N) := by
  refine (list_any t.nw hL).mono ?_
  rintro e w' ⟨v, rfl, hr, hb⟩
  exact ⟨v, rfl, hr, t.below hb, hb⟩
end
end Go.Proofs.Ytfjadphgjjlhiaa
