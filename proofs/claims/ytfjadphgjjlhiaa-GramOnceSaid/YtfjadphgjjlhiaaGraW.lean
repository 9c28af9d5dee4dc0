
/- A net of messages in the world: its numbers, what is on its way, what is cut. No condition. -/
import Derived.Test.YtfjadphgjjlhiaaSoX
import Derived.Maps.OwnOps
import Derived.DeepKeys4
namespace Go.Proofs.Ytfjadphgjjlhiaa
open Go.RowKit Go.Maps
set_option linter.unusedVariables false
namespace Gr
abbrev DV := DataW Unit
structure G where
  id : Int
  fr : Int
  tt : Int
  tx : ByteArray
def KU (x : Int) : Lit := .int .u64 x
def gd (g : G) : DV := .agg [.lit (.int .u64 g.id), .lit (.int .i64 g.fr), .lit (.int .i64 g.tt), .lit (.string g.tx.data.toList)]
def gv (g : G) : Value := .agg #[.int .u64 g.id, .int .i64 g.fr, .int .i64 g.tt, .string g.tx]
def g0 : G := ⟨0, 0, 0, ⟨#[]⟩⟩
/-- What a message's value reads as. -/
def gramE : Value → Option (DV × List MemPlace)
  | .agg cs => match cs.toList with
    | [.int .u64 a, .int .i64 b, .int .i64 c, .string s] => some (gd ⟨a, b, c, s⟩, [])
    | _ => none
  | _ => none
theorem gramE_mk (g : G) : gramE (gv g) = some (gd g, []) := rfl
theorem gramE_inv {v : Value} {g : G} {ps : List MemPlace} (h : gramE v = some (gd g, ps)) : v = gv g := by
  unfold gramE at h
  split at h
  · rename_i cs
    split at h
    · rename_i a b c s e
      simp only [Option.some.injEq, Prod.mk.injEq, gd, DataW.agg.injEq, List.cons.injEq, DataW.lit.injEq, Lit.int.injEq, Lit.string.injEq, and_true, true_and] at h
      obtain ⟨⟨h1, h2, h3, h4⟩, _⟩ := h
      have hc : cs = #[.int .u64 a, .int .i64 b, .int .i64 c, .string s] := by rw [← Array.toArray_toList (xs := cs), e]
      have hs : s = g.tx := ByteArray.ext (Array.toList_inj.1 h4)
      rw [hc, h1, h2, h3, hs]; rfl
    · cases h
  · cases h
def I64 (x : Int) : Prop := -9223372036854775808 ≤ x ∧ x ≤ 9223372036854775807
def U64 (x : Int) : Prop := 0 ≤ x ∧ x ≤ 18446744073709551615
theorem ku_ne {x y : Int} (h : ¬ x = y) : KU x ≠ KU y := fun e => h (by unfold KU at e; injection e)
end Gr
open Gr Sok
theorem kdG : Keyed Try.prog 29 := int_keyed Try.underlying29
theorem keyG {x : Int} (h : U64 x) : keyOf Try.prog 29 (.int .u64 x) = some (KU x) := keyOf_int_mk Try.underlying29 (WalkArith.wf_u64 (by unfold U64 at h; omega))
theorem zG (w : World) : (zeroValue 33).run Try.prog w = .ok (gv g0) w := Try.zeroValue33 w
/-- The map of what is on its way. -/
def GM (w : World) (h : Nat) (L : List G) (N : Nat) : Prop := ∃ D : DV, w.ownsMap Try.prog 29 gramE h N D ∧ (∀ g ∈ L, ∀ zd, D.atKey (KU g.id) zd = gd g) ∧ (∀ x, has D (KU x) = true ↔ ∃ g ∈ L, g.id = x) ∧ Maps.size D = L.length
theorem GM.kept {w w' : World} {h : Nat} {L : List G} {N : Nat} (m : GM w h L N) {row : Option Nat} (hg : w.grownBy w' row) (hne : some h ≠ row) : GM w' h L N := by
  obtain ⟨D, o, r⟩ := m; exact ⟨D, o.kept hg hne, r⟩
theorem GM.lt {w : World} {h : Nat} {L : List G} {N : Nat} (m : GM w h L N) : h < w.heap.size := by obtain ⟨D, o, r⟩ := m; exact o.lt
theorem GM.mono {w : World} {h : Nat} {L : List G} {N M : Nat} (m : GM w h L N) (hm : N ≤ M) : GM w h L M := by obtain ⟨D, o, r⟩ := m; exact ⟨D, o.mono hm, r⟩
theorem GM.look {w : World} {h : Nat} {L : List G} {N : Nat} (m : GM w h L N) {g : G} (hg : g ∈ L) (hx : U64 g.id) :
    (Instr.lookup 55 (.map (some h)) (.int .u64 g.id) true).run Try.prog w = .ok (.tuple #[gv g, .bool true]) w := by
  obtain ⟨D, o, h1, h2, h3⟩ := m
  obtain ⟨v, ps, hr, hv⟩ := World.ownsMap.look_ok o kdG Try.underlying55 (zG w) (gramE_mk g0) (keyG hx)
  rw [h1 g hg] at hv
  rw [hr, gramE_inv hv, (h2 g.id).2 ⟨g, hg, rfl⟩]
theorem GM.miss {w : World} {h : Nat} {L : List G} {N : Nat} (m : GM w h L N) {x : Int} (hg : ¬ ∃ g ∈ L, g.id = x) (hx : U64 x) :
    (Instr.lookup 55 (.map (some h)) (.int .u64 x) true).run Try.prog w = .ok (.tuple #[gv g0, .bool false]) w := by
  obtain ⟨D, o, h1, h2, h3⟩ := m
  obtain ⟨v, ps, hr, hv⟩ := World.ownsMap.look_ok o kdG Try.underlying55 (zG w) (gramE_mk g0) (keyG hx)
  have hf : has D (KU x) = false := by
    cases hh : has D (KU x) with
    | false => rfl
    | true => exact absurd ((h2 x).1 hh) hg
  rw [atKey_of_not_has hf] at hv
  rw [hr, gramE_inv hv, hf]
theorem GM.at {w : World} {h : Nat} {L : List G} {N : Nat} (m : GM w h L N) {g : G} (hg : g ∈ L) (hx : U64 g.id) :
    (Instr.lookup 55 (.map (some h)) (.int .u64 g.id) false).run Try.prog w = .ok (gv g) w := by
  obtain ⟨D, o, h1, h2, h3⟩ := m
  obtain ⟨v, ps, hr, hv⟩ := World.ownsMap.lookup o kdG Try.underlying55 (zG w) (gramE_mk g0) (keyG hx)
  rw [h1 g hg] at hv
  rw [hr, gramE_inv hv]
namespace Gr
/-- The datum behind a store, behind a deletion. -/
theorem put_ok {D : DV} {L : List G} (hD : IsMap D) (hT : Tidy D) (h1 : ∀ g ∈ L, ∀ zd, D.atKey (KU g.id) zd = gd g) (h2 : ∀ x, has D (KU x) = true ↔ ∃ g ∈ L, g.id = x) (h3 : Maps.size D = L.length) (g : G) (hn : ¬ ∃ g' ∈ L, g'.id = g.id) :
    (∀ g' ∈ L ++ [g], ∀ zd, (D.put (KU g.id) (gd g)).atKey (KU g'.id) zd = gd g') ∧ (∀ x, has (D.put (KU g.id) (gd g)) (KU x) = true ↔ ∃ g' ∈ L ++ [g], g'.id = x) ∧ Maps.size (D.put (KU g.id) (gd g)) = (L ++ [g]).length := by
  have hk : WideAt.IsKeyLit (KU g.id) := by unfold KU; trivial
  have hf : has D (KU g.id) = false := by
    cases hh : has D (KU g.id) with
    | false => rfl
    | true => exact absurd ((h2 _).1 hh) hn
  refine ⟨fun g' hg' zd => ?_, fun x => ?_, ?_⟩
  · rcases List.mem_append.1 hg' with hg' | hg'
    · rw [atKey_put_other (ku_ne (fun e => hn ⟨g', hg', e⟩)), h1 g' hg']
    · simp at hg'; subst hg'; exact atKey_put_same hD hk _ _
  · by_cases hx : x = g.id
    · subst hx
      rw [has_put_same hD hk]
      exact ⟨fun _ => ⟨g, by simp, rfl⟩, fun _ => rfl⟩
    · rw [has_put_other (ku_ne hx), h2 x]
      constructor
      · rintro ⟨g', hg', e⟩; exact ⟨g', by simp [hg'], e⟩
      · rintro ⟨g', hg', e⟩
        rcases List.mem_append.1 hg' with hg' | hg'
        · exact ⟨g', hg', e⟩
        · simp at hg'; subst hg'; exact absurd e.symm hx
  · rw [size_put hT, hf]; simp [h3]
theorem del_ok {D : DV} {L : List G} (hD : IsMap D) (hT : Tidy D) (h1 : ∀ g ∈ L, ∀ zd, D.atKey (KU g.id) zd = gd g) (h2 : ∀ x, has D (KU x) = true ↔ ∃ g ∈ L, g.id = x) (h3 : Maps.size D = L.length) (hnd : L.Pairwise (fun a b => a.id < b.id)) (x0 : Int) :
    (∀ g' ∈ L.filter (fun g => !(g.id == x0)), ∀ zd, (D.del (KU x0)).atKey (KU g'.id) zd = gd g') ∧ (∀ x, has (D.del (KU x0)) (KU x) = true ↔ ∃ g' ∈ L.filter (fun g => !(g.id == x0)), g'.id = x) ∧ Maps.size (D.del (KU x0)) = (L.filter (fun g => !(g.id == x0))).length := by
  refine ⟨fun g' hg' zd => ?_, fun x => ?_, ?_⟩
  · obtain ⟨hm, hne⟩ := List.mem_filter.1 hg'
    rw [atKey_del_other (ku_ne (by simpa using hne)), h1 g' hm]
  · by_cases hx : x = x0
    · subst hx
      rw [has_del_same]
      simp
    · rw [has_del_other (ku_ne hx), h2 x]
      constructor
      · rintro ⟨g', hg', e⟩; exact ⟨g', List.mem_filter.2 ⟨hg', by simp [e, hx]⟩, e⟩
      · rintro ⟨g', hg', e⟩; exact ⟨g', (List.mem_filter.1 hg').1, e⟩
  · have h := size_del (k := KU x0) hT
    have hlen : ∀ l : List G, l.Pairwise (fun a b => a.id < b.id) → (l.filter (fun g => !(g.id == x0))).length + (if l.any (fun g => g.id == x0) then 1 else 0) = l.length := by
      intro l hl
      induction l with
      | nil => rfl
      | cons a l ih =>
        obtain ⟨ha, hl⟩ := List.pairwise_cons.1 hl
        have := ih hl
        rw [List.filter_cons, List.any_cons, List.length_cons]
        by_cases he : a.id = x0
        · have hno : l.any (fun g => g.id == x0) = false := by
            rw [List.any_eq_false]; intro g hg; have := ha g hg; simp; omega
          rw [hno] at this ⊢
          rw [if_neg (by simp [he])]
          have h1 : (a.id == x0) = true := by simp [he]
          rw [h1]; simp at this ⊢; omega
        · have h1 : (a.id == x0) = false := by simp [he]
          rw [h1, if_pos (by simp), List.length_cons, Bool.false_or]; omega
    have h4 := hlen L hnd
    have h5 : has D (KU x0) = L.any (fun g => g.id == x0) := by
      rw [Bool.eq_iff_iff, h2 x0, List.any_eq_true]; simp
    rw [h5, h3] at h
    omega
end Gr
end Go.Proofs.Ytfjadphgjjlhiaa
