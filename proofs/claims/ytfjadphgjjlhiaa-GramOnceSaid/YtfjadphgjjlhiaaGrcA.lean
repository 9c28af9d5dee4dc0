
/- The law's own maps: what was sent, what is cut. No condition. -/
import Derived.Test.YtfjadphgjjlhiaaGrbA
import Derived.Test.YtfjadphgjjlhiaaGrbB
namespace Go.Proofs.Ytfjadphgjjlhiaa
open Go.RowKit Go.Maps Gr Sok
set_option linter.unusedVariables false
set_option linter.unusedSimpArgs false
theorem rowV : (59 : TypeId) < Try.prog.types.size := of_decide_eq_true (by kernel_rfl)
theorem wideV : (match Try.prog.underlying 59 with | some (.array _ _) | some (.struct _) => true | _ => false) = true := by rw [Try.underlying59]
theorem lawV : WideMaps.KeyLaw Try.prog 59 := deep_law_laid laidG (m := 2) (by omega) rowV (by kernel_rfl) wideV
theorem kdV : Keyed Try.prog 59 := Keyed.of_law lawV
theorem keytV : Try.prog.keyType 59 = true := by kernel_rfl
theorem keyV {a b : Int} (ha : I64 a) (hb : I64 b) : keyOf Try.prog 59 (wv a b) = some (KW a b) := by
  have h1 : (Lit.int .i64 a).wf = true := WalkArith.wf_i64 (by unfold I64 at ha; omega)
  have h2 : (Lit.int .i64 b).wf = true := WalkArith.wf_i64 (by unfold I64 at hb; omega)
  have hc : Try.prog.cellsOf 59 = 2 := by kernel_rfl
  have hi : Try.prog.cellsOf 3 = 1 := by kernel_rfl
  have hsz : Try.prog.types.size = (Try.prog.types.size - 1) + 1 := by kernel_rfl
  have hf : (wv a b).formed Try.prog 59 = true := by
    simp [wv, Value.formed, Try.underlying59, hc]
  unfold keyOf
  rw [Try.underlying59]
  simp only [keytV, hf, Bool.and_self, if_true]
  have hk : ∀ d, Try.prog.keyLits (d + 2) 59 [.int .i64 a, .int .i64 b] = some [.int .i64 a, .int .i64 b] := by
    intro d
    simp [Program.keyLits, Try.underlying59, Try.underlying3, hc, hi, h1, h2]
  have := hk (Try.prog.types.size - 1)
  have e : Try.prog.types.size + 1 = (Try.prog.types.size - 1) + 2 := by omega
  rw [e]
  simp only [wv, Value.cells]
  rw [this]
  rfl
/-- The map of what is cut. -/
def VM (w : World) (c : Nat) (C : Int → Int → Bool) (N : Nat) : Prop := ∃ D : DV, w.ownsMap Try.prog 59 (plainElem Try.prog 3) c N D ∧ ∀ a b, I64 a → I64 b → D.atKey (KW a b) (vi 0) = vi (cv (C a b))
theorem VM.kept {w w' : World} {c : Nat} {C : Int → Int → Bool} {N : Nat} (m : VM w c C N) {row : Option Nat} (hg : w.grownBy w' row) (hne : some c ≠ row) : VM w' c C N := by
  obtain ⟨D, o, r⟩ := m; exact ⟨D, o.kept hg hne, r⟩
theorem VM.lt {w : World} {c : Nat} {C : Int → Int → Bool} {N : Nat} (m : VM w c C N) : c < w.heap.size := by obtain ⟨D, o, r⟩ := m; exact o.lt
theorem VM.mono {w : World} {c : Nat} {C : Int → Int → Bool} {N M : Nat} (m : VM w c C N) (hm : N ≤ M) : VM w c C M := by obtain ⟨D, o, r⟩ := m; exact ⟨D, o.mono hm, r⟩
theorem VM.at {w : World} {c : Nat} {C : Int → Int → Bool} {N : Nat} (m : VM w c C N) {a b : Int} (ha : I64 a) (hb : I64 b) :
    (Instr.lookup 56 (.map (some c)) (.agg #[.int .i64 a, .int .i64 b]) false).run Try.prog w = .ok (.int .i64 (cv (C a b))) w := by
  obtain ⟨D, o, h⟩ := m
  obtain ⟨x, hr, hx, _⟩ := o.lookup_int kdV Try.underlying56 Try.underlying3 (zW w) (keyV ha hb)
  rw [show D.atKey (KW a b) (.lit (.int .i64 0)) = vi (cv (C a b)) from h a b ha hb] at hx
  unfold vi at hx
  simp at hx
  rw [show (Value.agg #[.int .i64 a, .int .i64 b]) = wv a b from rfl, hr, hx]
theorem VM.of_put {w' : World} {c : Nat} {C : Int → Int → Bool} {N : Nat} {D : DV} {x y : Int} {z : Bool} (hD : IsMap D) (h : ∀ a b, I64 a → I64 b → D.atKey (KW a b) (vi 0) = vi (cv (C a b))) (hx : I64 x) (hy : I64 y)
    (o : w'.ownsMap Try.prog 59 (plainElem Try.prog 3) c (N + 1) (D.put (KW x y) (vi (cv z)))) : VM w' c (if z then cutC C x y else healC C x y) (N + 1) := by
  refine ⟨_, o, fun a b ha hb => ?_⟩
  by_cases he : a = x ∧ b = y
  · obtain ⟨rfl, rfl⟩ := he
    rw [atKey_put_same hD (kw_key _ _)]
    cases z <;> simp [cv, cutC, healC]
  · have hf : (a == x && b == y) = false := by
      cases hh : (a == x && b == y) with
      | false => rfl
      | true => exact absurd (by simpa using hh) he
    rw [atKey_put_other (kw_ne ha hb hx hy he), h a b ha hb]
    cases z
    · show _ = vi (cv (C a b && !(a == x && b == y)))
      rw [hf]; simp
    · show _ = vi (cv (C a b || (a == x && b == y)))
      rw [hf, Bool.or_false]
/-- The program's net and the law's maps, in step. -/
structure OG (W w : World) (b h c s q : Nat) (last : Int) (L : List G) (C : Int → Int → Bool) (N : Nat) : Prop where
  nt : NT W w b h c last L C N
  gm : GM w s L N
  vm : VM w q C N
  ap : s ≠ q ∧ ¬ (s = b ∨ s = h ∨ s = c) ∧ ¬ (q = b ∨ q = h ∨ q = c)
  ge : W.heap.size ≤ s ∧ W.heap.size ≤ q
def OX (W : World) (b h c s q i : Nat) (last : Int) (w : World) : Prop := ∃ L C N, OG W w b h c s q last L C N ∧ L.length ≤ 4096 ∧ last ≤ 50 * (i : Int) ∧ N ≤ 50 * i
/-- The law's maps alone, while the net turns. -/
structure OM (W w : World) (b h c s q : Nat) (L : List G) (C : Int → Int → Bool) (N : Nat) : Prop where
  gm : GM w s L N
  vm : VM w q C N
  ap : s ≠ q ∧ ¬ (s = b ∨ s = h ∨ s = c) ∧ ¬ (q = b ∨ q = h ∨ q = c)
  ge : W.heap.size ≤ s ∧ W.heap.size ≤ q
section
variable {W w w' : World} {b h c s q N : Nat} {last : Int} {L : List G} {C : Int → Int → Bool}
theorem OG.om (p : OG W w b h c s q last L C N) : OM W w b h c s q L C N := ⟨p.gm, p.vm, p.ap, p.ge⟩
theorem OM.only {S : Nat → Prop} (m : OM W w b h c s q L C N) (o : Only S w w') (h1 : ¬ S s) (h2 : ¬ S q) : OM W w' b h c s q L C N := by
  refine ⟨?_, ?_, m.ap, m.ge⟩
  · have hl := m.gm.lt
    obtain ⟨D, ⟨es, clock, hb, F, hs', hD⟩, r⟩ := m.gm
    exact ⟨D, ⟨es, clock, (o.block s hl h1).trans hb, F, hs', hD⟩, r⟩
  · have hl := m.vm.lt
    obtain ⟨D, ⟨es, clock, hb, F, hs', hD⟩, r⟩ := m.vm
    exact ⟨D, ⟨es, clock, (o.block q hl h2).trans hb, F, hs', hD⟩, r⟩
theorem OM.onN (m : OM W w b h c s q L C N) (o : OnN b h c w w') : OM W w' b h c s q L C N := m.only o m.ap.2.1 m.ap.2.2
theorem OM.below (m : OM W w b h c s q L C N) (o : Below w.heap.size w w') : OM W w' b h c s q L C N := m.only (Only.of_below (S := fun _ => False) o) id id
theorem OM.mono {M : Nat} (m : OM W w b h c s q L C N) (hm : N ≤ M) : OM W w b h c s q L C M := ⟨m.gm.mono hm, m.vm.mono hm, m.ap, m.ge⟩
theorem OG.below (p : OG W w b h c s q last L C N) (o : Below w.heap.size w w') : OG W w' b h c s q last L C N := ⟨p.nt.below o, (p.om.below o).gm, (p.om.below o).vm, p.ap, p.ge⟩
theorem OG.of (n : NT W w b h c last L C N) (m : OM W w b h c s q L C N) : OG W w b h c s q last L C N := ⟨n, m.gm, m.vm, m.ap, m.ge⟩
theorem OX.below {i : Nat} (p : OX W b h c s q i last w) (o : Below w.heap.size w w') : OX W b h c s q i last w' := by
  obtain ⟨L, C, N, p, r⟩ := p
  exact ⟨L, C, N, p.below o, r⟩
/-- A block of the law's maps turns. -/
theorem NT.law (n : NT W w b h c last L C N) {k : Nat} (o : Only (· = k) w w') (h1 : ¬ (k = b ∨ k = h ∨ k = c)) (h2 : W.heap.size ≤ k) : NT W w' b h c last L C N :=
  n.other o fun j e => by subst e; exact ⟨h2, fun e => h1 (.inl e), fun e => h1 (.inr (.inl e)), fun e => h1 (.inr (.inr e))⟩
/-- 'sent[g.id] = g'. -/
theorem OM.put {D : DV} (m : OM W w b h c s q L C N) (o : w.ownsMap Try.prog 29 gramE s N D) (o1 : ∀ g ∈ L, ∀ zd, D.atKey (KU g.id) zd = gd g) (o2 : ∀ x, has D (KU x) = true ↔ ∃ g ∈ L, g.id = x) (o3 : Maps.size D = L.length)
    {g : G} (hn : ¬ ∃ g' ∈ L, g'.id = g.id) (o' : w'.ownsMap Try.prog 29 gramE s (N + 1) (D.put (KU g.id) (gd g))) (gr : w.grownBy w' (some s)) : OM W w' b h c s q (L ++ [g]) C (N + 1) := by
  obtain ⟨p1, p2, p3⟩ := put_ok o.isMap (o.tidy kdG) o1 o2 o3 g hn
  exact ⟨⟨_, o', p1, p2, p3⟩, (m.vm.kept gr (by intro e; injection e with e; exact m.ap.1 e.symm)).mono (Nat.le_succ _), m.ap, m.ge⟩
/-- 'delete(sent, x)'. -/
theorem OM.del {D : DV} (m : OM W w b h c s q L C N) (o : w.ownsMap Try.prog 29 gramE s N D) (o1 : ∀ g ∈ L, ∀ zd, D.atKey (KU g.id) zd = gd g) (o2 : ∀ x, has D (KU x) = true ↔ ∃ g ∈ L, g.id = x) (o3 : Maps.size D = L.length)
    (hp : L.Pairwise (fun a b => a.id < b.id)) {x : Int} (o' : w'.ownsMap Try.prog 29 gramE s N (D.del (KU x))) (gr : w.grownBy w' (some s)) : OM W w' b h c s q (rem L x) C N := by
  obtain ⟨p1, p2, p3⟩ := del_ok o.isMap (o.tidy kdG) o1 o2 o3 hp x
  exact ⟨⟨_, o', p1, p2, p3⟩, m.vm.kept gr (by intro e; injection e with e; exact m.ap.1 e.symm), m.ap, m.ge⟩
/-- 'cuts[way] = z'. -/
theorem OM.way {D : DV} (m : OM W w b h c s q L C N) (o : w.ownsMap Try.prog 59 (plainElem Try.prog 3) q N D) (o1 : ∀ a b, I64 a → I64 b → D.atKey (KW a b) (vi 0) = vi (cv (C a b))) {x y : Int} {z : Bool} (hx : I64 x) (hy : I64 y)
    (o' : w'.ownsMap Try.prog 59 (plainElem Try.prog 3) q (N + 1) (D.put (KW x y) (vi (cv z)))) (gr : w.grownBy w' (some q)) : OM W w' b h c s q L (if z then cutC C x y else healC C x y) (N + 1) :=
  ⟨(m.gm.kept gr (by intro e; injection e with e; exact m.ap.1 e)).mono (Nat.le_succ _), VM.of_put o.isMap o1 hx hy o', m.ap, m.ge⟩
/-- What 'sent[x]' tells. -/
def sentG (L : List G) (x : Int) : G × Bool := match L.find? (fun g => g.id == x) with | some g => (g, true) | none => (g0, false)
theorem OM.sent (m : OM W w b h c s q L C N) {x : Int} (hx : U64 x) {t : G × Bool} (ht : sentG L x = t) :
    (Instr.lookup 55 (.map (some s)) (.int .u64 x) true).run Try.prog w = .ok (.tuple #[gv t.1, .bool t.2]) w := by
  subst ht
  unfold sentG
  cases hf : L.find? (fun g => g.id == x) with
  | some g =>
    have hg := List.mem_of_find?_eq_some hf
    have he : g.id = x := by simpa using List.find?_some hf
    subst he
    exact m.gm.look hg hx
  | none =>
    refine m.gm.miss ?_ hx
    rintro ⟨g, hg, e⟩
    have := List.find?_eq_none.1 hf g hg
    simp [e] at this
end
end Go.Proofs.Ytfjadphgjjlhiaa
