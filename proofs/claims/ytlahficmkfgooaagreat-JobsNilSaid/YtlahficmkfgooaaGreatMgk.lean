import Derived.Test.YtlahficmkfgooaaGreatMgi
import Derived.Test.YtlahficmkfgooaaGreatMgj
import Derived.Test.YtlahficmkfgooaaGreatMgg
import Derived.Deep.QuietTactic
import Derived.BigQuiet

/- Rows of jobs as cells hold them: that came in, and of the call's own. No condition. -/
namespace Go.Proofs.YtlahficmkfgooaaGreat
open Go.RowKit
set_option linter.unusedVariables false
set_option linter.unusedSimpArgs false
namespace Jb
def jcells (r : JR) (v : Value) : List Value := [.int .u64 r.job, .string r.tok, .string r.prog, v, .int .i64 r.fuel, .int .u8 r.st, .int .i64 r.val, .int .i64 r.err]
theorem jcells_len (r : JR) (v : Value) : (jcells r v).length = 8 := rfl
def rowsJ (L : List (JR × Value)) : List Value := L.flatMap fun p => jcells p.1 p.2
theorem rowsJ_snoc (L : List (JR × Value)) (p : JR × Value) : rowsJ (L ++ [p]) = rowsJ L ++ jcells p.1 p.2 := by simp [rowsJ]
theorem rowsJ_len (L : List (JR × Value)) : (rowsJ L).length = L.length * 8 := flat_len (LAY := fun p : JR × Value => jcells p.1 p.2) (fun _ => rfl) L
theorem rowsJ_get (L : List (JR × Value)) (i j : Nat) (hi : i < L.length) (hj : j < 8) : (rowsJ L)[i * 8 + j]? = (jcells L[i].1 L[i].2)[j]? := flat_get (LAY := fun p : JR × Value => jcells p.1 p.2) (fun _ => rfl) L i j hi hj
end Jb
open Jb
theorem blk_ty {k : Nat} {T T' : TypeId} {A A' : Array Value} {w : World} (h1 : Blk w k T A) (h2 : Blk w k T' A') : T = T' := by
  unfold Blk at h1 h2
  rw [h1] at h2
  injection h2 with h2
  injection h2
/-- A row that reads as r. -/
def RowAt (w : World) (g o : Nat) (r : JR) : Prop := ∃ v, IntsAt w v r.inp ∧ ∀ j u, (jcells r v)[j]? = some u → w.cell? ⟨g, o + j, none⟩ = some u
def RowsAt (w : World) (v : Value) (l : List JR) : Prop := ∃ p cap, v = .slice p l.length cap ∧ (0 < l.length → ∃ g off, p = some ⟨g, off, none⟩ ∧ g < w.heap.size ∧ ∀ i (h : i < l.length), RowAt w g (off + i * 8) l[i])
theorem RowAt.below {w w' : World} {g o : Nat} {r : JR} (h : RowAt w g o r) (hb : Below w.heap.size w w') (hg : g < w.heap.size) : RowAt w' g o r := by
  obtain ⟨v, h1, h2⟩ := h
  exact ⟨v, h1.below hb, fun j u hu => by rw [hb.cell (p := ⟨g, o + j, none⟩) hg]; exact h2 j u hu⟩
theorem RowsAt.below {w w' : World} {v : Value} {l : List JR} (h : RowsAt w v l) (hb : Below w.heap.size w w') : RowsAt w' v l := by
  obtain ⟨p, cap, rfl, hx⟩ := h
  refine ⟨p, cap, rfl, fun hl => ?_⟩
  obtain ⟨g, off, rfl, hg, hc⟩ := hx hl
  exact ⟨g, off, rfl, Nat.lt_of_lt_of_le hg hb.size, fun i hi => (hc i hi).below hb hg⟩
theorem RowsAt.slice {w : World} {v : Value} {l : List JR} (h : RowsAt w v l) : ∃ p cap, v = .slice p l.length cap := by obtain ⟨p, cap, e, _⟩ := h; exact ⟨p, cap, e⟩
theorem RowsAt.nil (w : World) : RowsAt w (.slice none 0 0) [] := ⟨none, 0, rfl, fun h => absurd h (by decide)⟩
/-- Numbers of the call's own. -/
def IRow (w : World) (B : Nat) (v : Value) (l : List Int) : Prop := w.ownsRow B 2 1 v l.length (l.map (Value.int .i64))
theorem IRow.at {w : World} {B : Nat} {v : Value} {l : List Int} (h : IRow w B v l) : IntsAt w v l := IntsAt.of h
theorem IRow.only {S : Nat → Prop} {w w' : World} {B : Nat} {v : Value} {l : List Int} (h : IRow w B v l) (ho : Only S w w') (hS : ∀ g A, B ≤ g → Blk w g 2 A → ¬ S g) : IRow w' B v l :=
  owns_only h ho fun g hg hs => by
    obtain ⟨cur, hc, hb, _⟩ := owns_type h hg
    exact hS g cur hb hc hs
theorem IRow.below {w w' : World} {B : Nat} {v : Value} {l : List Int} (h : IRow w B v l) (hb : Below w.heap.size w w') : IRow w' B v l := owns_below h hb
theorem IRow.ge {w : World} {B B' : Nat} {v : Value} {l : List Int} (h : IRow w B v l) (hB : B' ≤ B) : IRow w B' v l := owns_ge h hB
theorem IRow.nil (w : World) (B : Nat) : IRow w B (.slice none 0 0) [] := ⟨rfl, .inl ⟨rfl, rfl⟩⟩
/-- Rows of the call's own. -/
def JRow (w : World) (B : Nat) (v : Value) (l : List JR) : Prop :=
  ∃ L : List (JR × Value), L.map Prod.fst = l ∧ w.ownsRow B 48 8 v l.length (rowsJ L) ∧ ∀ p ∈ L, IRow w B p.2 p.1.inp
theorem JRow.nil (w : World) (B : Nat) : JRow w B (.slice none 0 0) [] := ⟨[], rfl, ⟨rfl, .inl ⟨rfl, rfl⟩⟩, fun p h => by cases h⟩
theorem JRow.only {S : Nat → Prop} {w w' : World} {B : Nat} {v : Value} {l : List JR} (h : JRow w B v l) (ho : Only S w w') (hS : ∀ g T A, B ≤ g → Blk w g T A → T = 48 ∨ T = 2 → ¬ S g) : JRow w' B v l := by
  obtain ⟨L, h1, h2, h3⟩ := h
  refine ⟨L, h1, owns_only h2 ho fun g hg hs => ?_, fun p hp => (h3 p hp).only ho fun g A hb hA => hS g _ A hb hA (.inr rfl)⟩
  obtain ⟨cur, hc, hb, _⟩ := owns_type h2 hg
  exact hS g _ cur hb hc (.inl rfl) hs
theorem JRow.below {w w' : World} {B : Nat} {v : Value} {l : List JR} (h : JRow w B v l) (hb : Below w.heap.size w w') : JRow w' B v l := h.only (Only.of_below (S := fun _ => False) hb) (fun _ _ _ _ _ _ => id)
theorem JRow.other {w w' : World} {B b : Nat} {v : Value} {l : List JR} {T : TypeId} {A : Array Value} (h : JRow w B v l) (ho : Only (· = b) w w') (hb : Blk w b T A) (h1 : T ≠ 48) (h2 : T ≠ 2) : JRow w' B v l :=
  h.only ho fun g T' A' _ hA ht e => by
    have e' : g = b := e
    subst e'
    have := blk_ty hA hb
    rcases ht with ht | ht
    · exact h1 (by rw [← this, ht])
    · exact h2 (by rw [← this, ht])
theorem JRow.slice {w : World} {B : Nat} {v : Value} {l : List JR} (h : JRow w B v l) : ∃ p cap, v = .slice p l.length cap := by obtain ⟨L, _, h, _⟩ := h; exact owns_slice h
theorem JRow.ge {w : World} {B B' : Nat} {v : Value} {l : List JR} (h : JRow w B v l) (hB : B' ≤ B) : JRow w B' v l := by
  obtain ⟨L, h1, h2, h3⟩ := h
  exact ⟨L, h1, owns_ge h2 hB, fun p hp => (h3 p hp).ge hB⟩
theorem JRow.len {L : List (JR × Value)} {l : List JR} (h : L.map Prod.fst = l) : L.length = l.length := by rw [← h, List.length_map]
/-- Read as any other. -/
theorem JRow.at {w : World} {B : Nat} {v : Value} {l : List JR} (h : JRow w B v l) : RowsAt w v l := by
  obtain ⟨L, hL, ⟨hl, ⟨rfl, h0⟩ | ⟨g, cap, cur, rfl, hb, hg, h1, h2, h3, h4⟩⟩, hi⟩ := h
  · exact ⟨none, 0, by rw [h0], fun h => by omega⟩
  · have hn := JRow.len hL
    refine ⟨_, cap, rfl, fun _ => ⟨g, 0, rfl, (Array.getElem?_eq_some_iff.1 hg).1, fun i hi' => ?_⟩⟩
    have hil : i < L.length := by omega
    have e0 : l[i] = L[i].1 := by subst hL; simp
    rw [e0]
    refine ⟨L[i].2, (hi _ (List.getElem_mem hil)).at, fun j u hu => ?_⟩
    have hj : j < 8 := by have := (List.getElem?_eq_some_iff.1 hu).1; rwa [jcells_len] at this
    have e1 : w.cell? ⟨g, 0 + i * 8 + j, none⟩ = cur[i * 8 + j]? := by rw [Nat.zero_add]; exact (show Blk w g 48 cur from hg).cell _
    rw [e1, ← Array.getElem?_toList]
    have e3 : cur.toList[i * 8 + j]? = (cur.toList.take (l.length * 8))[i * 8 + j]? := by rw [List.getElem?_take, if_pos (by omega)]
    rw [e3, h4, rowsJ_get L i j hil hj, hu]
/-- One row more. -/
theorem JRow.snoc {w w' : World} {B : Nat} {v v' vi : Value} {l : List JR} {r : JR} {L : List (JR × Value)} (h1 : L.map Prod.fst = l) (h2 : w.ownsRow B 48 8 v l.length (rowsJ L)) (h3 : ∀ p ∈ L, IRow w B p.2 p.1.inp) (hi : IRow w B vi r.inp)
    (hn : w'.ownsRow B 48 8 v' (l.length + 1) (rowsJ L ++ jcells r vi)) (hO : Only (fun k => v.ownBlock = some k) w w') : JRow w' B v' (l ++ [r]) := by
  have key : ∀ {u : Value} {xs : List Int}, IRow w B u xs → IRow w' B u xs := fun hu => hu.only hO fun g A _ hA hs => by
    obtain ⟨cur, hc, _⟩ := owns_type h2 hs
    exact absurd (blk_ty hA (show Blk w g 48 cur from hc)) (by decide)
  refine ⟨L ++ [(r, vi)], by simp [h1], by rw [rowsJ_snoc, List.length_append]; exact hn, fun p hp => ?_⟩
  rcases List.mem_append.1 hp with hp | hp
  · exact key (h3 p hp)
  · simp at hp; subst hp; exact key hi
theorem info_jr : Info Tryz.prog 48 (.agg #[.int .u64 0, .string ⟨#[]⟩, .string ⟨#[]⟩, .slice none 0 0, .int .i64 0, .int .u8 0, .int .i64 0, .int .i64 0]) 8 96 := by unfold Info; kernel_rfl
theorem info_i64 : Info Tryz.prog 2 (.int .i64 0) 1 8 := by unfold Info; kernel_rfl
theorem eql_slice_nil {P : Program} (w : World) (t e : TypeId) (a : Option Addr) (n c : Nat) (h : P.underlying t = some (.slice e)) : (binOp .eql t (.slice a n c) (.slice none 0 0)).run P w = .ok (.bool a.isNone) w := by
  simp only [binOp]
  simp [Op.equal, Op.maxDepth, Lib.run_equalIn_slice_nil w 9999 t e a n c 0 0 h]
def ClonePost (w : World) (e : TypeId) (size n : Nat) (xs : List Value) (en : Ending) (w' : World) : Prop := ∃ v, en = .returned v ∧ w'.ownsRow w.heap.size e size v n xs ∧ Below w.heap.size w w'
set_option maxRecDepth 100000 in
set_option maxHeartbeats 1000000 in
theorem cloneI_any {w : World} {p : Option Addr} {n cap : Nat} {xs : List Value} (hx : xs.length = n * 1) (hn : n ≤ 1000) (h1 : ∀ u ∈ xs, u.oneCell' = true) (hp : 0 < n → ∃ g off, p = some ⟨g, off, none⟩ ∧ g < w.heap.size ∧ ∀ j u, xs[j]? = some u → w.cell? ⟨g, off + j, none⟩ = some u) :
    Calls Tryz.prog 88 #[.slice p n cap] w (ClonePost w 2 1 n xs) := by
  cases p with
  | none =>
    have h0 : n = 0 := by
      rcases Nat.eq_zero_or_pos n with h | h
      · exact h
      · obtain ⟨g, off, e, _⟩ := hp h; cases e
    subst h0
    have hxs : xs = [] := List.eq_nil_of_length_eq_zero (by omega)
    subst hxs
    have qT : ∀ (w : World) (a : Option Addr) (n c : Nat), (binOp .eql 36 (.slice a n c) (.slice none 0 0)).run Tryz.prog w = .ok (.bool a.isNone) w := fun w a n c => eql_slice_nil w _ _ a n c Tryz.underlying36
    clear hp h1
    go_enter Tryz.func88, Tryz.ntmps88
    go_wp2
    go_ret
    exact ⟨_, rfl, ⟨rfl, .inl ⟨rfl, rfl⟩⟩, Below.refl _ _⟩
  | some a =>
    obtain ⟨i, hi1, hi2, hi3, hi4⟩ := info_parts info_i64
    have hown : (w.alloc (.cells #[] 2)).ownsRow w.heap.size 2 1 (.slice (some ⟨w.heap.size, 0, none⟩) 0 0) 0 [] :=
      ⟨rfl, .inr ⟨w.heap.size, 0, #[], rfl, Nat.le_refl _, Blk.new _ _ _, Nat.le_refl _, Nat.zero_le _, rfl, rfl⟩⟩
    have HOWN := Lib.hid hown
    have qT : ∀ (w : World) (a : Option Addr) (n c : Nat), (binOp .eql 36 (.slice a n c) (.slice none 0 0)).run Tryz.prog w = .ok (.bool a.isNone) w := fun w a n c => eql_slice_nil w _ _ a n c Tryz.underlying36
    have hnews : ∀ j u, xs[j]? = some u → (w.alloc (.cells #[] 2)).cell? (a.add j) = some u := by
      intro j u hj
      have hlt : j < xs.length := (List.getElem?_eq_some_iff.1 hj).1
      obtain ⟨g, off, e, hg, hc⟩ := hp (by rcases Nat.eq_zero_or_pos n with h | h
                                           · subst h; omega
                                           · exact h)
      injection e with e
      subst e
      have hadd : (⟨g, off, none⟩ : Addr).add j = ⟨g, off + j, none⟩ := by unfold Addr.add; split <;> simp_all
      rw [hadd, ((Below.refl _ w).alloc (Nat.le_refl _) _).cell (p := ⟨g, _, none⟩) hg]
      exact hc j u hj
    have HNEW := Lib.hid hnews
    have HX := Lib.hid hx
    have H1 := Lib.hid h1
    have HII := Lib.hid (And.intro hi1 (And.intro hi2 (And.intro hi3 hi4)))
    clear hown hnews hp hx h1 hi1 hi2 hi3 hi4
    go_enter Tryz.func88, Tryz.ntmps88
    go_wp2_with (at_builtin; refine wpList_append_own _ rfl _ _ _ rfl w.heap.size 2 i _ 1 _ Tryz.underlying36 HII.out.1 HII.out.2.1 HII.out.2.2.1 HII.out.2.2.2 rfl (by decide) _ 0 [] rfl HOWN.out a n cap xs rfl HX.out HNEW.out H1.out (by unfold maxLen; omega) (by omega) (by simp) ?_; intro v5 w5 h5 g5 _; have H5 := Lib.hid h5; have G5 := Lib.hid g5; clear h5 g5)
    go_ret
    refine ⟨_, rfl, by simpa using H5.out, ?_⟩
    have g5 := G5.out
    exact ⟨g5.os, g5.tape, g5.output, by have := g5.size; simp at this; omega, fun k hk => (g5.block k (by simp; omega) (by intro h; have h2 : k = w.heap.size := Option.some.inj h; omega)).trans (Below.heap_alloc _ _ _ hk)⟩
/-- A copy of numbers. -/
theorem clone_ints {w : World} {p : Option Addr} {cap : Nat} {l : List Int} {n : Nat} (h : IntsAt w (.slice p n cap) l) (hn : n = l.length) (hl : l.length ≤ 1000) :
    Calls Tryz.prog 88 #[.slice p n cap] w fun e w' => ∃ v, e = .returned v ∧ IRow w' w.heap.size v l ∧ Below w.heap.size w w' := by
  subst hn
  obtain ⟨p', cap', e, hx⟩ := h
  injection e with e1 _ e3
  subst e1 e3
  refine (cloneI_any (xs := l.map (Value.int .i64)) (by simp) hl (fun u hu => by obtain ⟨x, _, rfl⟩ := List.mem_map.1 hu; rfl) (fun h0 => ?_)).mono fun e w' h => h
  obtain ⟨g, off, rfl, hg, hc⟩ := hx h0
  refine ⟨g, off, rfl, hg, fun j u hj => ?_⟩
  obtain ⟨hj1, hj2⟩ := List.getElem?_eq_some_iff.1 hj
  rw [List.length_map] at hj1
  rw [hc j hj1, ← hj2, List.getElem_map]
end Go.Proofs.YtlahficmkfgooaaGreat


/- Whether two lists of numbers are the same: the walks. No condition but that lists are not too long. -/
namespace Go.Proofs.YtlahficmkfgooaaGreat
open Go.RowKit Jb
set_option linter.unusedVariables false
set_option linter.unusedSimpArgs false
theorem eq_take_succ {α : Type} {a b : List α} {i : Nat} (ha : i < a.length) (hb : i < b.length) (h : a.take i = b.take i) (e : a[i] = b[i]) : a.take (i + 1) = b.take (i + 1) := by
  rw [List.take_succ_eq_append_getElem ha, List.take_succ_eq_append_getElem hb, h, e]
theorem eq_ne_at {α : Type} {a b : List α} {i : Nat} (ha : i < a.length) (hb : i < b.length) (e : ¬ a[i] = b[i]) : ¬ a = b := fun h => by subst h; exact e rfl
theorem eq_of_tk {α : Type} {a b : List α} (hl : a.length = b.length) (h : a.take a.length = b.take a.length) : a = b := by
  rw [List.take_length, hl, List.take_length] at h; exact h
def EqRl {α : Type} (a b : List α) (w : World) (u : Value) (wr : World) : Prop := ∃ i : Nat, i ≤ a.length ∧ u = .int .i64 i ∧ a.take i = b.take i ∧ Below w.heap.size w wr
def EqP (b : Bool) (w : World) (e : Ending) (w' : World) : Prop := e = .returned (.bool b) ∧ Below w.heap.size w w'
theorem drewN_bl (w : World) (n : Nat) : Below w.heap.size w (w.drewN n) := ⟨rfl, rfl, rfl, Nat.le_refl _, fun _ _ => rfl⟩
theorem IntsAt.ptr {w : World} {p : Option Addr} {c n : Nat} {l : List Int} (h : IntsAt w (.slice p n c) l) {i : Nat} (hi : i < l.length) :
    ∃ b off, p = some ⟨b, off, none⟩ ∧ b < w.heap.size ∧ w.cell? ⟨b, off + i, none⟩ = some (.int .i64 l[i]) := by
  obtain ⟨p', c', h1, h2⟩ := h
  injection h1 with h1 _ _
  subst h1
  obtain ⟨b, off, h3, h4, h5⟩ := h2 (by omega)
  exact ⟨b, off, h3, h4, h5 i hi⟩
set_option maxRecDepth 100000 in
  set_option maxHeartbeats 4000000 in
  theorem eq_int {l m : List Int} {w : World} {v u : Value} (hv : IntsAt w v l) (hu : IntsAt w u m) (hn : l.length ≤ 140737488355328) :
      Calls Tryz.prog 85 #[v, u] w (EqP (decide (l = m)) w) := by
    have hvv := hv
    have huu := hu
    obtain ⟨p1, c1, rfl, _⟩ := hvv
    obtain ⟨p2, c2, rfl, _⟩ := huu
    have HS1 := Lib.hid hv
    have HS2 := Lib.hid hu
    clear hv hu
    by_cases hlen : l.length = m.length
    · have hlen' : ((l.length : Int) == (m.length : Int)) = true := by simp [hlen]
      have HLEN := Lib.hid hlen
      clear hlen
      go_enter Tryz.func85, Tryz.ntmps85
      go_wp2
      clear hlen'
      go_loopw [13] (fun u wr => EqRl l m w u wr) (fun u _ => ((l.length : Int) - intOf u).toNat)
      case atStart => exact ⟨0, by omega, rfl, rfl, Below.refl _ _⟩
      case round =>
        obtain ⟨k, hk1, rfl, htk, hb⟩ := hrel
        by_cases hk : k < l.length
        · have hk2 : k < m.length := by have := HLEN.out; omega
          obtain ⟨g1, o1, rfl, hg1, hx⟩ := HS1.out.ptr hk
          obtain ⟨g2, o2, rfl, hg2, hy⟩ := HS2.out.ptr hk2
          have x0 := (hb.cell (p := ⟨g1, _, none⟩) hg1).trans hx
          have y0 := (hb.cell (p := ⟨g2, _, none⟩) hg2).trans hy
          have hne := fun e => eq_ne_at (a := l) (b := m) hk hk2 e
          have heq := fun e => eq_take_succ (a := l) (b := m) hk hk2 htk e
          have hki : (k : Int) < (m.length : Int) := by omega
          have HE : Hid (wrap64 ((k : Int) + 1) = ((k + 1 : Nat) : Int)) := Lib.hid (by unfold wrap64; omega)
          have HB := Lib.hid hb
          clear hx hy hb htk
          generalize l[k] = oa at *
          generalize m[k] = ob at *
          obtain ⟨a0, ha0⟩ : ∃ a0, a0 = oa := ⟨_, rfl⟩
          subst ha0
          obtain ⟨b0, hb0⟩ : ∃ b0, b0 = ob := ⟨_, rfl⟩
          subst hb0
          have HNE := Lib.hid hne
          have HEQ := Lib.hid heq
          clear hne heq
          by_cases e0 : a0 = b0
          · subst e0
            have hn := Lib.hid (HEQ.out rfl)
            clear HEQ HNE
            go_wp2
            go_quiet (fail)
            go_wp2
            go_roundw
            case rel => (try rw [HE.out]); exact ⟨k + 1, by omega, rfl, hn.out, HB.out.trans ((drewN_bl wr _).mono HB.out.size)⟩
            case measure => (try rw [HE.out]); simp [intOf]; omega
          · have hn := Lib.hid (HNE.out (fun h => e0 (congrArg (fun x => x) h)))
            have hb' : (a0 == b0) = false := by simpa using e0
            clear HEQ HNE e0
            go_wp2
            go_quiet (fail)
            go_wp2
            go_ret
            exact ⟨(congrArg (fun z => Ending.returned (Value.bool z)) (decide_eq_false hn.out)).symm, HB.out.trans ((drewN_bl wr _).mono HB.out.size)⟩
        · have : k = l.length := by omega
          subst this
          have HE := Lib.hid (eq_of_tk HLEN.out htk)
          clear htk
          go_wp2
          go_ret
          exact ⟨(congrArg (fun z => Ending.returned (Value.bool z)) (decide_eq_true HE.out)).symm, hb⟩
    · have hlen' : ((l.length : Int) == (m.length : Int)) = false := by simpa using fun e => hlen (by omega)
      have HN := Lib.hid (show ¬ l = m from fun e => hlen (by rw [e]))
      clear hlen
      go_enter Tryz.func85, Tryz.ntmps85
      go_wp2
      go_ret
      exact ⟨(congrArg (fun z => Ending.returned (Value.bool z)) (decide_eq_false HN.out)).symm, Below.refl _ _⟩
set_option maxRecDepth 100000 in
      set_option maxHeartbeats 4000000 in
      theorem req_int {l m : List Int} {w : World} {v u : Value} (hv : IntsAt w v l) (hu : IntsAt w u m) (hn : l.length ≤ 140737488355328) :
          Calls Tryz.prog 46 #[v, u] w (EqP (decide (l = m)) w) := by
        have hvv := hv
        have huu := hu
        obtain ⟨p1, c1, rfl, _⟩ := hvv
        obtain ⟨p2, c2, rfl, _⟩ := huu
        have HS1 := Lib.hid hv
        have HS2 := Lib.hid hu
        clear hv hu
        by_cases hlen : l.length = m.length
        · have hlen' : ((l.length : Int) == (m.length : Int)) = true := by simp [hlen]
          have HLEN := Lib.hid hlen
          clear hlen
          go_enter Tryz.func46, Tryz.ntmps46
          go_wp2
          clear hlen'
          go_loopw [5] (fun u wr => EqRl l m w u wr) (fun u _ => ((l.length : Int) - intOf u).toNat)
          case atStart => exact ⟨0, by omega, rfl, rfl, Below.refl _ _⟩
          case round =>
            obtain ⟨k, hk1, rfl, htk, hb⟩ := hrel
            by_cases hk : k < l.length
            · have hk2 : k < m.length := by have := HLEN.out; omega
              obtain ⟨g1, o1, rfl, hg1, hx⟩ := HS1.out.ptr hk
              obtain ⟨g2, o2, rfl, hg2, hy⟩ := HS2.out.ptr hk2
              have x0 := (hb.cell (p := ⟨g1, _, none⟩) hg1).trans hx
              have y0 := (hb.cell (p := ⟨g2, _, none⟩) hg2).trans hy
              have hne := fun e => eq_ne_at (a := l) (b := m) hk hk2 e
              have heq := fun e => eq_take_succ (a := l) (b := m) hk hk2 htk e
              have hki : (k : Int) < (m.length : Int) := by omega
              have HE : Hid (wrap64 ((k : Int) + 1) = ((k + 1 : Nat) : Int)) := Lib.hid (by unfold wrap64; omega)
              have HB := Lib.hid hb
              clear hx hy hb htk
              generalize l[k] = oa at *
              generalize m[k] = ob at *
              obtain ⟨a0, ha0⟩ : ∃ a0, a0 = oa := ⟨_, rfl⟩
              subst ha0
              obtain ⟨b0, hb0⟩ : ∃ b0, b0 = ob := ⟨_, rfl⟩
              subst hb0
              have HNE := Lib.hid hne
              have HEQ := Lib.hid heq
              clear hne heq
              by_cases e0 : a0 = b0
              · subst e0
                have hn := Lib.hid (HEQ.out rfl)
                clear HEQ HNE
                go_wp2
                go_quiet (fail)
                go_wp2
                go_roundw
                case rel => (try rw [HE.out]); exact ⟨k + 1, by omega, rfl, hn.out, HB.out.trans ((drewN_bl wr _).mono HB.out.size)⟩
                case measure => (try rw [HE.out]); simp [intOf]; omega
              · have hn := Lib.hid (HNE.out (fun h => e0 (congrArg (fun x => x) h)))
                have hb' : (a0 == b0) = false := by simpa using e0
                clear HEQ HNE e0
                go_wp2
                go_quiet (fail)
                go_wp2
                go_ret
                exact ⟨(congrArg (fun z => Ending.returned (Value.bool z)) (decide_eq_false hn.out)).symm, HB.out.trans ((drewN_bl wr _).mono HB.out.size)⟩
            · have : k = l.length := by omega
              subst this
              have HE := Lib.hid (eq_of_tk HLEN.out htk)
              clear htk
              go_wp2
              go_ret
              exact ⟨(congrArg (fun z => Ending.returned (Value.bool z)) (decide_eq_true HE.out)).symm, hb⟩
        · have hlen' : ((l.length : Int) == (m.length : Int)) = false := by simpa using fun e => hlen (by omega)
          have HN := Lib.hid (show ¬ l = m from fun e => hlen (by rw [e]))
          clear hlen
          go_enter Tryz.func46, Tryz.ntmps46
          go_wp2
          go_ret
          exact ⟨(congrArg (fun z => Ending.returned (Value.bool z)) (decide_eq_false HN.out)).symm, Below.refl _ _⟩
end Go.Proofs.YtlahficmkfgooaaGreat
