
/- Each step of a script, at the program's net and at the document's one. No condition but that a script is not too long. -/
import Derived.Test.YtfjadphgjjlhiaaGrbA
namespace Go.Proofs.Ytfjadphgjjlhiaa
open Go.RowKit Go.Maps Gr Sok
set_option linter.unusedVariables false
set_option linter.unusedSimpArgs false
/-- The bounds behind i steps. -/
def Bd (i : Nat) (last : Int) (L : List G) (Cs : List (Int × Int)) (N : Nat) : Prop := L.length ≤ 4096 ∧ last ≤ 50 * (i : Int) ∧ N ≤ 50 * i ∧ Cs.length ≤ i
/-- The program's net has gone on, the document's one not yet. -/
def PP (W w : World) (b h c r : Nat) (vL vC : Value) (last : Int) (L : List G) (Cs : List (Int × Int)) (s : Int × List G × (Int → Int → Bool) × Nat) (v : Value) (e : Ending) (w' : World) : Prop :=
  e = .returned v ∧ NT W w' b h c s.1 s.2.1 s.2.2.1 s.2.2.2 ∧ RW w' W.heap.size r vL vC last L Cs ∧ OnN b h c w w'
/-- Both have. -/
def DD (W w : World) (b h c r i : Nat) (v : Value) (e : Ending) (w' : World) : Prop := e = .returned v ∧ PX W b h c r (i + 1) w' ∧ OnR W.heap.size r w w'
section
variable {W w w' w1 : World} {b h c r i N : Nat} {vL vC : Value} {last : Int} {L : List G} {Cs : List (Int × Int)}
theorem PX.of {vL' vC' : Value} {last' : Int} {L' : List G} {Cs' : List (Int × Int)} {N' : Nat} (n : NT W w b h c last' L' (cutL Cs') N') (d : RW w W.heap.size r vL' vC' last' L' Cs') (hb : Bd i last' L' Cs' N') : PX W b h c r i w := ⟨vL', vC', last', L', Cs', N', ⟨n, d⟩, hb⟩
theorem PX.next (p : PX W b h c r i w) : PX W b h c r (i + 1) w := by
  obtain ⟨vL, vC, last, L, Cs, N, p, h1, h2, h3, h4⟩ := p
  exact ⟨vL, vC, last, L, Cs, N, p, h1, by omega, by omega, by omega⟩
/-! ### Send -/
def sendS (k : Int) (last fr : Int) (tx : ByteArray) (ts : List Int) (L : List G) (C : Int → Int → Bool) (N : Nat) : Int × List G × (Int → Int → Bool) × Nat :=
  if k = 0 then (last + ts.length, L ++ laid last fr tx ts ts.length, C, N + ts.length) else (last, L, C, N)
theorem p_send (p : PG W w b h c r vL vC last L Cs N) (hB : Bd i last L Cs N) (hi : i ≤ 150) {fr : Int} {tx : ByteArray} {pt : Option Addr} {m cap : Nat} {ts : List Int} (ht : To w pt cap ts) (hm : ts.length = m) (h40 : m ≤ 40)
    (hlt : ∀ g o, pt = some ⟨g, o, none⟩ → g < w.heap.size ∧ ¬ (g = b ∨ g = h)) {k cnt : Int} (hk : sc ((fr :: ts).any bad) tx.size m L.length = k) (hc : (if k = 0 then (m : Int) else 0) = cnt) :
    Calls Try.prog 9 #[.pointer (some ⟨b, 0, none⟩), .int .i64 fr, .string tx, .slice pt m cap] w (PP W w b h c r vL vC last L Cs (sendS k last fr tx ts L (cutL Cs) N) (.tuple #[.int .i64 cnt, .int .i64 k])) := by
  obtain ⟨h1, h2, h3, h4⟩ := hB
  refine (nt_send p.nt ht hm (by omega) hlt h1 (by omega) (by omega) hk).mono ?_
  rintro e w' ⟨rfl, ho, hn, hy⟩
  subst hm hc
  refine ⟨rfl, ?_, p.rw.onN p.nt ho, ho⟩
  unfold sendS
  by_cases hz : k = 0
  · rw [if_pos hz]; exact hy hz
  · rw [if_neg hz]; exact hn hz
theorem d_send {k cnt : Int} {fr : Int} {tx : ByteArray} {ts : List Int} (n : NT W w b h c (sendS k last fr tx ts L (cutL Cs) N).1 (sendS k last fr tx ts L (cutL Cs) N).2.1 (sendS k last fr tx ts L (cutL Cs) N).2.2.1 (sendS k last fr tx ts L (cutL Cs) N).2.2.2)
    (d : RW w W.heap.size r vL vC last L Cs) (hB : Bd i last L Cs N) (h0 : 0 ≤ last) (hi : i ≤ 150) {pt : Option Addr} {m cap : Nat} (ht : Pl w pt ts) (hm : ts.length = m) (h40 : m ≤ 40)
    (hlt : ts ≠ [] → ∀ g o, pt = some ⟨g, o, none⟩ → g < w.heap.size ∧ g < W.heap.size) (hk : sc ((fr :: ts).any bad) tx.size m L.length = k) (hc : (if k = 0 then (m : Int) else 0) = cnt) :
    Calls Try.prog 15 #[.pointer (some ⟨r, 0, none⟩), .int .i64 fr, .string tx, .slice pt m cap] w (DD W w b h c r i (.tuple #[.int .i64 cnt, .int .i64 k])) := by
  obtain ⟨h1, h2, h3, h4⟩ := hB
  refine (rsend_any d h1 ht hm (by omega) hlt h0 (by omega) hk).mono ?_
  rintro e w' ⟨rfl, hn, hy⟩
  subst hm hc
  unfold sendS at n
  by_cases hz : k = 0
  · rw [if_pos hz] at n
    obtain ⟨vL', d', o'⟩ := hy hz
    refine ⟨rfl, PX.of (n.onR o' d.blk d.ge (Nat.le_refl _)) d' ⟨?_, by dsimp only; omega, by dsimp only; omega, by omega⟩, o'⟩
    dsimp only
    have hs := hk
    rw [hz] at hs
    unfold sc at hs
    rw [List.length_append]
    unfold laid
    rw [List.length_map, List.length_range]
    split at hs
    · cases hs
    · split at hs
      · cases hs
      · split at hs
        · cases hs
        · omega
  · rw [if_neg hz] at n
    have e := hn hz
    subst e
    exact ⟨rfl, PX.of n d ⟨h1, by dsimp only; omega, by dsimp only; omega, by omega⟩, OnR.refl _ _ _⟩
/-! ### Take -/
def takeN (t : G × Int × List G) (last : Int) (C : Int → Int → Bool) (N : Nat) : Int × List G × (Int → Int → Bool) × Nat := (last, t.2.2, C, N)
theorem p_take (p : PG W w b h c r vL vC last L Cs N) {x : Int} (hu : U64 x) {t : G × Int × List G} (ht : takeG (cutL Cs) L x = t) :
    Calls Try.prog 11 #[.pointer (some ⟨b, 0, none⟩), .int .u64 x] w (PP W w b h c r vL vC last L Cs (takeN t last (cutL Cs) N) (.tuple #[gv t.1, .int .i64 t.2.1])) := by
  refine (nt_take p.nt hu ht).mono ?_
  rintro e w' ⟨rfl, hn, ho⟩
  exact ⟨rfl, hn, p.rw.onN p.nt ho, ho⟩
theorem takeG_len {C : Int → Int → Bool} {L : List G} {x : Int} : (takeG C L x).2.2.length ≤ L.length := by
  unfold takeG
  split
  · exact Nat.le_refl _
  · split
    · exact Nat.le_refl _
    · exact List.length_filter_le _ _
theorem d_take {x : Int} {t : G × Int × List G} (ht : takeG (cutL Cs) L x = t) (n : NT W w b h c (takeN t last (cutL Cs) N).1 (takeN t last (cutL Cs) N).2.1 (takeN t last (cutL Cs) N).2.2.1 (takeN t last (cutL Cs) N).2.2.2)
    (d : RW w W.heap.size r vL vC last L Cs) (hB : Bd i last L Cs N) (hp : L.Pairwise (fun a b => a.id < b.id)) (hi : i ≤ 150) :
    Calls Try.prog 16 #[.pointer (some ⟨r, 0, none⟩), .int .u64 x] w fun e w' => e = .returned (.tuple #[gv t.1, .int .i64 t.2.1]) ∧ PX W b h c r (i + 1) w' ∧ Only (· = r) w w' := by
  obtain ⟨h1, h2, h3, h4⟩ := hB
  refine (rtake_any d (by omega) (by omega) hp x ht).mono ?_
  rintro e w' ⟨rfl, vL', d', o'⟩
  have hl : t.2.2.length ≤ L.length := by rw [← ht]; exact takeG_len
  exact ⟨rfl, PX.of (n.onR (B := W.heap.size) (OnR.of_r o') d.blk d.ge (Nat.le_refl _)) d' ⟨by show t.2.2.length ≤ _; omega, by show last ≤ _; omega, by show N ≤ _; omega, by omega⟩, o'⟩
/-! ### Drop -/
theorem p_drop (p : PG W w b h c r vL vC last L Cs N) {x y : Int} (hx : U64 x) (hy : U64 y) {q : Nat} (hq : q = w.heap.size) :
    Calls Try.prog 17 #[.pointer (some ⟨b, 0, none⟩), .slice (some ⟨q, 0, none⟩) 2 2] (w.alloc (.cells #[.int .u64 x, .int .u64 y] 29))
      (PP W w b h c r vL vC last L Cs (last, rem (rem L x) y, cutL Cs, N) (.int .i64 (((0 + (if hasId L x then 1 else 0)) + (if hasId (rem L x) y then 1 else 0) : Nat) : Int))) := by
  refine (nt_drop_new p.nt [x, y] hq rfl rfl (by simp) (by intro z hz; simp at hz; rcases hz with rfl | rfl; exact hx; exact hy) (r := (0 + (if hasId L x then 1 else 0) + (if hasId (rem L x) y then 1 else 0), rem (rem L x) y)) rfl).mono ?_
  rintro e w' ⟨rfl, hn, ho⟩
  exact ⟨rfl, hn, p.rw.onN p.nt ho, ho⟩
theorem rem_pw {L : List G} (hp : L.Pairwise (fun a b => a.id < b.id)) (x : Int) : (rem L x).Pairwise (fun a b => a.id < b.id) := hp.filter _
theorem rem_len (L : List G) (x : Int) : (rem L x).length ≤ L.length := List.length_filter_le _ _
theorem d_drop1 {last' : Int} {L' : List G} {C' : Int → Int → Bool} (n : NT W w b h c last' L' C' N) (d : RW w W.heap.size r vL vC last L Cs) (hB : Bd i last L Cs N) (hp : L.Pairwise (fun a b => a.id < b.id)) (x : Int) {k : Int} (hk : (if hasId L x then 1 else 0) = k) :
    Calls Try.prog 18 #[.pointer (some ⟨r, 0, none⟩), .int .u64 x] w fun e w' => e = .returned (.int .i64 k) ∧ (∃ vL', RW w' W.heap.size r vL' vC last (rem L x) Cs) ∧ NT W w' b h c last' L' C' N ∧ Only (· = r) w w' := by
  obtain ⟨h1, h2, h3, h4⟩ := hB
  refine (rdrop_any d (by omega) hp x hk).mono ?_
  rintro e w' ⟨rfl, vL', d', o'⟩
  exact ⟨rfl, ⟨vL', d'⟩, n.onR (B := W.heap.size) (OnR.of_r o') d.blk d.ge (Nat.le_refl _), o'⟩
theorem d_drop2 {x y : Int} (n : NT W w b h c last (rem (rem L x) y) (cutL Cs) N) (d : RW w W.heap.size r vL vC last (rem L x) Cs) (hB : Bd i last L Cs N) (hp : L.Pairwise (fun a b => a.id < b.id)) {k : Int} (hk : (if hasId (rem L x) y then 1 else 0) = k) :
    Calls Try.prog 18 #[.pointer (some ⟨r, 0, none⟩), .int .u64 y] w (DD W w b h c r i (.int .i64 k)) := by
  obtain ⟨h1, h2, h3, h4⟩ := hB
  have e1 := rem_len L x
  have e2 := rem_len (rem L x) y
  refine (rdrop_any d (by omega) (rem_pw hp x) y hk).mono ?_
  rintro e w' ⟨rfl, vL', d', o'⟩
  exact ⟨rfl, PX.of (n.onR (B := W.heap.size) (OnR.of_r o') d.blk d.ge (Nat.le_refl _)) d' ⟨by omega, by omega, by omega, by omega⟩, OnR.of_r o'⟩
/-! ### Double -/
theorem p_double (p : PG W w b h c r vL vC last L Cs N) (hB : Bd i last L Cs N) (hi : i ≤ 150) {x : Int} (hx : U64 x) {t : Int × Int × Int × List G × Nat} (ht : dblG last L x = t) :
    Calls Try.prog 10 #[.pointer (some ⟨b, 0, none⟩), .int .u64 x] w (PP W w b h c r vL vC last L Cs (t.2.2.1, t.2.2.2.1, cutL Cs, N + t.2.2.2.2) (.tuple #[.int .u64 t.1, .int .i64 t.2.1])) := by
  obtain ⟨h1, h2, h3, h4⟩ := hB
  refine (nt_double p.nt hx (by omega) (by omega) ht).mono ?_
  rintro e w' ⟨rfl, hn, ho⟩
  exact ⟨rfl, hn, p.rw.onN p.nt ho, ho⟩
theorem dblG_bd {t : Int × Int × Int × List G × Nat} {x : Int} (ht : dblG last L x = t) (hL : L.length ≤ 4096) : t.2.2.2.1.length ≤ 4096 ∧ t.2.2.1 ≤ last + 1 ∧ t.2.2.2.2 ≤ 1 := by
  unfold dblG at ht
  split at ht
  · subst ht; exact ⟨hL, by dsimp only; omega, by simp⟩
  · split at ht
    · subst ht; exact ⟨hL, by dsimp only; omega, by simp⟩
    · subst ht; exact ⟨by dsimp only; rw [List.length_append]; simp; omega, by dsimp only; omega, by simp⟩
theorem d_double {x : Int} {t : Int × Int × Int × List G × Nat} (ht : dblG last L x = t) (n : NT W w b h c t.2.2.1 t.2.2.2.1 (cutL Cs) (N + t.2.2.2.2)) (d : RW w W.heap.size r vL vC last L Cs) (hB : Bd i last L Cs N) (h0 : 0 ≤ last) (hi : i ≤ 150) :
    Calls Try.prog 19 #[.pointer (some ⟨r, 0, none⟩), .int .u64 x] w (DD W w b h c r i (.tuple #[.int .u64 t.1, .int .i64 t.2.1])) := by
  obtain ⟨h1, h2, h3, h4⟩ := hB
  refine (rdouble_any d (by omega) h0 (by omega) x ht).mono ?_
  rintro e w' ⟨rfl, vL', d', o'⟩
  obtain ⟨b1, b2, b3⟩ := dblG_bd ht h1
  exact ⟨rfl, PX.of (n.onR o' d.blk d.ge (Nat.le_refl _)) d' ⟨b1, by omega, by omega, by omega⟩, o'⟩
/-! ### Cut, Heal -/
def cutS (q : Bool) (Cs : List (Int × Int)) (x y : Int) : List (Int × Int) := if q then Cs else if cutL Cs x y then Cs else Cs ++ [(x, y)]
def healS (q : Bool) (Cs : List (Int × Int)) (x y : Int) : List (Int × Int) := if q then Cs else heaL Cs x y
theorem p_cut (p : PG W w b h c r vL vC last L Cs N) (hB : Bd i last L Cs N) (hi : i ≤ 150) {x y : Int} {q : Bool} (hq : bad2 x y = q) :
    Calls Try.prog 20 #[.pointer (some ⟨b, 0, none⟩), .int .i64 x, .int .i64 y] w (PP W w b h c r vL vC last L Cs (last, L, cutL (cutS q Cs x y), N + 1) (.int .i64 (if q then 2 else 0))) := by
  obtain ⟨h1, h2, h3, h4⟩ := hB
  refine (nt_cut p.nt (by omega) hq rfl).mono ?_
  rintro e w' ⟨rfl, hn, ho⟩
  cases q with
  | true => exact ⟨rfl, ⟨hn.nw.mono (by dsimp only; simp), hn.bel, hn.ge⟩, p.rw.onN p.nt ho, ho⟩
  | false => exact ⟨rfl, by have := hn; simp only [Bool.false_eq_true, if_false] at this; rw [cut_same] at this; exact this, p.rw.onN p.nt ho, ho⟩
theorem d_cut {x y : Int} {q : Bool} (hq : bad2 x y = q) (n : NT W w b h c last L (cutL (cutS q Cs x y)) (N + 1)) (d : RW w W.heap.size r vL vC last L Cs) (hB : Bd i last L Cs N) (hi : i ≤ 150) :
    Calls Try.prog 21 #[.pointer (some ⟨r, 0, none⟩), .int .i64 x, .int .i64 y] w (DD W w b h c r i (.int .i64 (if q then 2 else 0))) := by
  obtain ⟨h1, h2, h3, h4⟩ := hB
  cases q with
  | true =>
    refine (rcut_bad d hq).mono ?_
    rintro e w' ⟨rfl, rfl⟩
    exact ⟨rfl, PX.of n d ⟨h1, by omega, by omega, by show Cs.length ≤ _; omega⟩, OnR.refl _ _ _⟩
  | false =>
    refine (rcut_any d (by omega) hq).mono ?_
    rintro e w' ⟨rfl, vC', d', o'⟩
    refine ⟨rfl, PX.of (n.onR o' d.blk d.ge (Nat.le_refl _)) d' ⟨h1, by omega, by omega, ?_⟩, o'⟩
    show (if cutL Cs x y then Cs else Cs ++ [(x, y)]).length ≤ _
    split
    · omega
    · rw [List.length_append]; simp; omega
theorem p_heal (p : PG W w b h c r vL vC last L Cs N) {x y : Int} {q : Bool} (hq : bad2 x y = q) :
    Calls Try.prog 22 #[.pointer (some ⟨b, 0, none⟩), .int .i64 x, .int .i64 y] w (PP W w b h c r vL vC last L Cs (last, L, cutL (healS q Cs x y), N) (.int .i64 (if q then 2 else 0))) := by
  refine (nt_heal p.nt hq rfl).mono ?_
  rintro e w' ⟨rfl, hn, ho⟩
  cases q with
  | true => exact ⟨rfl, hn, p.rw.onN p.nt ho, ho⟩
  | false => exact ⟨rfl, by have := hn; simp only [Bool.false_eq_true, if_false] at this; rw [heal_same] at this; exact this, p.rw.onN p.nt ho, ho⟩
theorem d_heal {x y : Int} {q : Bool} (hq : bad2 x y = q) (n : NT W w b h c last L (cutL (healS q Cs x y)) N) (d : RW w W.heap.size r vL vC last L Cs) (hB : Bd i last L Cs N) (hi : i ≤ 150) :
    Calls Try.prog 23 #[.pointer (some ⟨r, 0, none⟩), .int .i64 x, .int .i64 y] w (DD W w b h c r i (.int .i64 (if q then 2 else 0))) := by
  obtain ⟨h1, h2, h3, h4⟩ := hB
  cases q with
  | true =>
    refine (rheal_bad d hq).mono ?_
    rintro e w' ⟨rfl, rfl⟩
    exact ⟨rfl, PX.of n d ⟨h1, by omega, by omega, by show Cs.length ≤ _; omega⟩, OnR.refl _ _ _⟩
  | false =>
    refine (rheal_any d (by omega) hq).mono ?_
    rintro e w' ⟨rfl, vC', d', o'⟩
    have := heaL_len Cs x y
    exact ⟨rfl, PX.of (n.onR o' d.blk d.ge (Nat.le_refl _)) d' ⟨h1, by omega, by omega, by show (heaL Cs x y).length ≤ _; omega⟩, o'⟩
theorem p_cut_k (p : PG W w b h c r vL vC last L Cs N) (hB : Bd i last L Cs N) (hi : i ≤ 150) {x y : Int} {q : Bool} (hq : bad2 x y = q) {k : Int} (hk : (if q = true then 2 else 0) = k) :
    Calls Try.prog 20 #[.pointer (some ⟨b, 0, none⟩), .int .i64 x, .int .i64 y] w (PP W w b h c r vL vC last L Cs (last, L, cutL (cutS q Cs x y), N + 1) (.int .i64 k)) := by subst hk; exact p_cut p hB hi hq
theorem d_cut_k {x y : Int} {q : Bool} (hq : bad2 x y = q) {k : Int} (hk : (if q = true then 2 else 0) = k) (n : NT W w b h c last L (cutL (cutS q Cs x y)) (N + 1)) (d : RW w W.heap.size r vL vC last L Cs) (hB : Bd i last L Cs N) (hi : i ≤ 150) :
    Calls Try.prog 21 #[.pointer (some ⟨r, 0, none⟩), .int .i64 x, .int .i64 y] w (DD W w b h c r i (.int .i64 k)) := by subst hk; exact d_cut hq n d hB hi
theorem p_heal_k (p : PG W w b h c r vL vC last L Cs N) (hB : Bd i last L Cs N) (hi : i ≤ 150) {x y : Int} {q : Bool} (hq : bad2 x y = q) {k : Int} (hk : (if q = true then 2 else 0) = k) :
    Calls Try.prog 22 #[.pointer (some ⟨b, 0, none⟩), .int .i64 x, .int .i64 y] w (PP W w b h c r vL vC last L Cs (last, L, cutL (healS q Cs x y), N) (.int .i64 k)) := by subst hk; exact p_heal p hq
theorem d_heal_k {x y : Int} {q : Bool} (hq : bad2 x y = q) {k : Int} (hk : (if q = true then 2 else 0) = k) (n : NT W w b h c last L (cutL (healS q Cs x y)) N) (d : RW w W.heap.size r vL vC last L Cs) (hB : Bd i last L Cs N) (hi : i ≤ 150) :
    Calls Try.prog 23 #[.pointer (some ⟨r, 0, none⟩), .int .i64 x, .int .i64 y] w (DD W w b h c r i (.int .i64 k)) := by subst hk; exact d_heal hq n d hB hi
end
end Go.Proofs.Ytfjadphgjjlhiaa
