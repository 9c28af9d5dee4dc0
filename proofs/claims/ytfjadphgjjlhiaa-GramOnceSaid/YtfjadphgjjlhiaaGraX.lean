
/- The map of ways that are cut, keyed by structs; a net whole. No condition. -/
import Derived.Test.YtfjadphgjjlhiaaGraW
namespace Go.Proofs.Ytfjadphgjjlhiaa
open Go.RowKit Go.Maps Gr Sok
set_option linter.unusedVariables false
theorem laidG : laidOutB Try.prog = true := by kernel_rfl
theorem rowW : (68 : TypeId) < Try.prog.types.size := of_decide_eq_true (by kernel_rfl)
theorem wideW : (match Try.prog.underlying 68 with | some (.array _ _) | some (.struct _) => true | _ => false) = true := by rw [Try.underlying68]
theorem lawW : WideMaps.KeyLaw Try.prog 68 := deep_law_laid laidG (m := 2) (by omega) rowW (by kernel_rfl) wideW
theorem kdW : Keyed Try.prog 68 := Keyed.of_law lawW
namespace Gr
def wv (a b : Int) : Value := .agg #[.int .i64 a, .int .i64 b]
def KW (a b : Int) : Lit := .string (keyBytes [.int .i64 a, .int .i64 b])
end Gr
theorem keytW : Try.prog.keyType 68 = true := by kernel_rfl
theorem keyW {a b : Int} (ha : I64 a) (hb : I64 b) : keyOf Try.prog 68 (wv a b) = some (KW a b) := by
  have h1 : (Lit.int .i64 a).wf = true := WalkArith.wf_i64 (by unfold I64 at ha; omega)
  have h2 : (Lit.int .i64 b).wf = true := WalkArith.wf_i64 (by unfold I64 at hb; omega)
  have hc : Try.prog.cellsOf 68 = 2 := by kernel_rfl
  have hi : Try.prog.cellsOf 3 = 1 := by kernel_rfl
  have hsz : Try.prog.types.size = (Try.prog.types.size - 1) + 1 := by kernel_rfl
  have hf : (wv a b).formed Try.prog 68 = true := by
    simp [wv, Value.formed, Try.underlying68, hc]
  unfold keyOf
  rw [Try.underlying68]
  simp only [keytW, hf, Bool.and_self, if_true]
  have hk : ∀ d, Try.prog.keyLits (d + 2) 68 [.int .i64 a, .int .i64 b] = some [.int .i64 a, .int .i64 b] := by
    intro d
    simp [Program.keyLits, Try.underlying68, Try.underlying3, hc, hi, h1, h2]
  have := hk (Try.prog.types.size - 1)
  have e : Try.prog.types.size + 1 = (Try.prog.types.size - 1) + 2 := by omega
  rw [e]
  simp only [wv, Value.cells]
  rw [this]
  rfl
namespace Gr
theorem kw_ne {a b x y : Int} (ha : I64 a) (hb : I64 b) (hx : I64 x) (hy : I64 y) (h : ¬ (a = x ∧ b = y)) : KW a b ≠ KW x y := fun e => by
  have h1 := keyW ha hb
  rw [e] at h1
  have := lawW.inj h1 (keyW hx hy)
  unfold wv at this
  simp at this
  exact h this
theorem kw_key (a b : Int) : WideAt.IsKeyLit (KW a b) := by unfold KW; trivial
def cv (x : Bool) : Int := if x then 1 else 0
def vi (x : Int) : DV := .lit (.int .i64 x)
end Gr
theorem zW (w : World) : (zeroValue 3).run Try.prog w = .ok (.int .i64 0) w := Try.zeroValue3 w
/-- The map of what is cut. -/
def CM (w : World) (c : Nat) (C : Int → Int → Bool) (N : Nat) : Prop := ∃ D : DV, w.ownsMap Try.prog 68 (plainElem Try.prog 3) c N D ∧ ∀ a b, I64 a → I64 b → D.atKey (KW a b) (vi 0) = vi (cv (C a b))
theorem CM.kept {w w' : World} {c : Nat} {C : Int → Int → Bool} {N : Nat} (m : CM w c C N) {row : Option Nat} (hg : w.grownBy w' row) (hne : some c ≠ row) : CM w' c C N := by
  obtain ⟨D, o, r⟩ := m; exact ⟨D, o.kept hg hne, r⟩
theorem CM.lt {w : World} {c : Nat} {C : Int → Int → Bool} {N : Nat} (m : CM w c C N) : c < w.heap.size := by obtain ⟨D, o, r⟩ := m; exact o.lt
theorem CM.mono {w : World} {c : Nat} {C : Int → Int → Bool} {N M : Nat} (m : CM w c C N) (hm : N ≤ M) : CM w c C M := by obtain ⟨D, o, r⟩ := m; exact ⟨D, o.mono hm, r⟩
theorem CM.at {w : World} {c : Nat} {C : Int → Int → Bool} {N : Nat} (m : CM w c C N) {a b : Int} (ha : I64 a) (hb : I64 b) :
    (Instr.lookup 62 (.map (some c)) (.agg #[.int .i64 a, .int .i64 b]) false).run Try.prog w = .ok (.int .i64 (cv (C a b))) w := by
  obtain ⟨D, o, h⟩ := m
  obtain ⟨x, hr, hx, _⟩ := o.lookup_int kdW Try.underlying62 Try.underlying3 (zW w) (keyW ha hb)
  rw [show D.atKey (KW a b) (.lit (.int .i64 0)) = vi (cv (C a b)) from h a b ha hb] at hx
  unfold vi at hx
  simp at hx
  rw [show (Value.agg #[.int .i64 a, .int .i64 b]) = wv a b from rfl, hr, hx]
theorem CM.of_put {w' : World} {c : Nat} {C : Int → Int → Bool} {N : Nat} {D : DV} {x y : Int} (hD : IsMap D) (h : ∀ a b, I64 a → I64 b → D.atKey (KW a b) (vi 0) = vi (cv (C a b))) (hx : I64 x) (hy : I64 y)
    (o : w'.ownsMap Try.prog 68 (plainElem Try.prog 3) c (N + 1) (D.put (KW x y) (vi 1))) : CM w' c (fun a b => C a b || (a == x && b == y)) (N + 1) := by
  refine ⟨_, o, fun a b ha hb => ?_⟩
  by_cases he : a = x ∧ b = y
  · obtain ⟨rfl, rfl⟩ := he
    rw [atKey_put_same hD (kw_key _ _)]; simp [cv]
  · have hf : (a == x && b == y) = false := by
      cases hh : (a == x && b == y) with
      | false => rfl
      | true => exact absurd (by simpa using hh) he
    rw [atKey_put_other (kw_ne ha hb hx hy he), h a b ha hb]
    show _ = vi (cv (C a b || (a == x && b == y)))
    rw [hf, Bool.or_false]
theorem CM.of_del {w' : World} {c : Nat} {C : Int → Int → Bool} {N : Nat} {D : DV} {x y : Int} (h : ∀ a b, I64 a → I64 b → D.atKey (KW a b) (vi 0) = vi (cv (C a b))) (hx : I64 x) (hy : I64 y)
    (o : w'.ownsMap Try.prog 68 (plainElem Try.prog 3) c N (D.del (KW x y))) : CM w' c (fun a b => C a b && !(a == x && b == y)) N := by
  refine ⟨_, o, fun a b ha hb => ?_⟩
  by_cases he : a = x ∧ b = y
  · obtain ⟨rfl, rfl⟩ := he
    rw [atKey_del_same]; simp [cv]
  · have hf : (a == x && b == y) = false := by
      cases hh : (a == x && b == y) with
      | false => rfl
      | true => exact absurd (by simpa using hh) he
    rw [atKey_del_other (kw_ne ha hb hx hy he), h a b ha hb]
    show _ = vi (cv (C a b && !(a == x && b == y)))
    rw [hf]; simp
namespace Gr
/-- What is on its way bears rising numbers, none above the last one. -/
def Inv (last : Int) (L : List G) : Prop := 0 ≤ last ∧ last ≤ 4611686018427387904 ∧ L.Pairwise (fun a b => a.id < b.id) ∧ ∀ g ∈ L, 1 ≤ g.id ∧ g.id ≤ last ∧ I64 g.fr ∧ I64 g.tt
end Gr
/-- A net whole: its struct in block b, its maps in h and c. -/
structure NW (w : World) (b h c : Nat) (last : Int) (L : List G) (C : Int → Int → Bool) (N : Nat) : Prop where
  blk : Blk w b 64 #[.int .u64 last, .map (some h), .map (some c)]
  gm : GM w h L N
  cm : CM w c C N
  ap : b ≠ h ∧ b ≠ c ∧ h ≠ c
  inv : Inv last L
section
variable {w w' : World} {b h c N : Nat} {last : Int} {L : List G} {C : Int → Int → Bool}
theorem NW.only (n : NW w b h c last L C N) {S : Nat → Prop} (ho : Only S w w') (hs : ¬ S b ∧ ¬ S h ∧ ¬ S c) : NW w' b h c last L C N := by
  refine ⟨n.blk.only ho hs.1, ?_, ?_, n.ap, n.inv⟩
  · have hl := n.gm.lt
    obtain ⟨D, ⟨es, clock, hb, F, hs', hD⟩, r⟩ := n.gm
    exact ⟨D, ⟨es, clock, (ho.block h hl hs.2.1).trans hb, F, hs', hD⟩, r⟩
  · have hl := n.cm.lt
    obtain ⟨D, ⟨es, clock, hb, F, hs', hD⟩, r⟩ := n.cm
    exact ⟨D, ⟨es, clock, (ho.block c hl hs.2.2).trans hb, F, hs', hD⟩, r⟩
theorem NW.below (n : NW w b h c last L C N) (hb : Below w.heap.size w w') : NW w' b h c last L C N :=
  n.only (S := fun _ => False) (.of_below hb) ⟨id, id, id⟩
theorem NW.alloc (n : NW w b h c last L C N) (o : Obj) : NW (w.alloc o) b h c last L C N := n.below ((Below.refl _ _).alloc (Nat.le_refl _) o)
theorem NW.mono (n : NW w b h c last L C N) {M : Nat} (hm : N ≤ M) : NW w b h c last L C M := ⟨n.blk, n.gm.mono hm, n.cm.mono hm, n.ap, n.inv⟩
theorem NW.c0 (n : NW w b h c last L C N) : w.cell? ⟨b, 0, none⟩ = some (.int .u64 last) := by rw [n.blk.cell 0]; rfl
theorem NW.c1 (n : NW w b h c last L C N) : w.cell? ⟨b, 1, none⟩ = some (.map (some h)) := by rw [n.blk.cell 1]; rfl
theorem NW.c2 (n : NW w b h c last L C N) : w.cell? ⟨b, 2, none⟩ = some (.map (some c)) := by rw [n.blk.cell 2]; rfl
theorem NW.fz (n : NW w b h c last L C N) : ∀ o, w.frozen? ⟨b, o, none⟩ = false := n.blk.frozen
end
end Go.Proofs.Ytfjadphgjjlhiaa
