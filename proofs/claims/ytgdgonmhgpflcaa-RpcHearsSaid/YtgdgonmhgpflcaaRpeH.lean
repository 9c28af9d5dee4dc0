import Derived.Test.YtgdgonmhgpflcaaRpeG
import Derived.Test.YtgdgonmhgpflcaaMgj

/- Who is called, the program's and the document's, side by side. No condition. -/
namespace Go.Proofs.Ytgdgonmhgpflcaa
open Go.RowKit Go.Maps Wire Rp
set_option linter.unusedVariables false
set_option linter.unusedSimpArgs false
/-- Both: and how they stand to one another. -/
def HW (w0 w : World) (c h r : Nat) (s d : List Pe) (n : Nat) : Prop := ∃ B M vP N l, CdW w w0.heap.size c h B M s N ∧ RD w w0.heap.size r vP l ∧ Below w0.heap.size w0 w ∧ N ≤ 2 * n ∧ peV l = d
def KpH (w w' : World) : Prop := ∀ k A, Blk w k 38 A → Blk w' k 38 A
section
variable {w0 w w' : World} {B0 c h r N : Nat} {B M : Int → Nat} {s d : List Pe} {vP : Value} {l : List PeV} {n : Nat}
theorem rd_onD (k : RD w B0 r vP l) (e : CdW w B0 c h B M s N) (o : OnD B0 (MO h M s) w w') : RD w' B0 r vP l := by
  have key : ∀ {g : Nat} {T : TypeId} {A : Array Value}, Blk w g T A → T ≠ 125 → ¬ (MO h M s g ∨ (B0 ≤ g ∧ ∃ A, Blk w g 125 A)) := fun hb ht hs => by
    rcases hs with e1 | ⟨_, A', e1⟩
    · exact mo_noblk e e1 hb
    · exact ht (blk_ne hb e1)
  refine k.only o (key k.blk (by decide)) (fun g hg => ?_) (fun x hx g hg => ?_)
  · obtain ⟨A, hA, _⟩ := owns_type k.row hg
    exact key hA (by decide)
  · obtain ⟨A, hA, _⟩ := owns_type (k.he x hx) hg
    exact key hA (by decide)
theorem cd_onR (k : RD w B0 r vP l) (e : CdW w B0 c h B M s N) (o : OnR B0 r w w') : CdW w' B0 c h B M s N := by
  have key : ∀ {g : Nat} {T : TypeId} {A : Array Value}, Blk w g T A → T ≠ 44 → T ≠ 132 → T ≠ 134 → ¬ (g = r ∨ (B0 ≤ g ∧ ∃ A, Blk w g 132 A) ∨ (B0 ≤ g ∧ ∃ A, Blk w g 134 A)) := fun hb h1 h2 h3 hs => by
    rcases hs with e1 | ⟨_, A', e1⟩ | ⟨_, A', e1⟩
    · subst e1; exact h1 (blk_ne hb k.blk)
    · exact h2 (blk_ne hb e1)
    · exact h3 (blk_ne hb e1)
  refine e.only o (key e.blk (by decide) (by decide) (by decide)) (fun g hg hs => ?_) (fun g A hA => key hA (by decide) (by decide) (by decide))
  rcases hs with e1 | ⟨_, A', e1⟩ | ⟨_, A', e1⟩
  · subst e1; exact mo_noblk e hg k.blk
  · exact mo_noblk e hg e1
  · exact mo_noblk e hg e1
theorem HW.below (t : HW w0 w c h r s d n) (hb : Below w.heap.size w w') : HW w0 w' c h r s d n := by
  obtain ⟨B, M, vP, N, l, h1, h2, h3, h4, h5⟩ := t
  exact ⟨B, M, vP, N, l, h1.below hb, h2.below hb, h3.trans (hb.mono h3.size), h4, h5⟩
theorem HW.bel (t : HW w0 w c h r s d n) : Below w0.heap.size w0 w := by
  obtain ⟨B, M, vP, N, l, h1, h2, h3, h4, h5⟩ := t; exact h3
theorem kpH_below (hb : Below w.heap.size w w') : KpH w w' := fun k A hk => hk.below hb
theorem kpH_trans {w1 : World} (h1 : KpH w w1) (h2 : KpH w1 w') : KpH w w' := fun k A hk => h2 k A (h1 k A hk)
theorem hw_take (t : HW w0 w c h r s d n) (hn : n ≤ 400000) {fr : Int} {p : Pk} (hu : U64 p.seq ∧ I64 fr) {q : (Int × ByteArray × Int) × List Pe} (hq : takeD s fr p = q) :
    Calls Try.prog 18 #[.pointer (some ⟨c, 0, none⟩), .int .i64 fr, pv p] w fun e w' => e = .returned (.tuple #[.int .u8 q.1.1, .string q.1.2.1, .int .i64 q.1.2.2]) ∧ HW w0 w' c h r q.2 d (n + 1) ∧ KpH w w' := by
  obtain ⟨B, M, vP, N, l, h1, h2, h3, h4, h5⟩ := t
  refine (dtake_any h1 hu (by omega) hq).mono ?_
  rintro e w' ⟨rfl, B', M', N', hc, hn', ho, hm⟩
  have hB : Below w0.heap.size w w' := OnD.below h1 ho h3.size
  exact ⟨rfl, ⟨B', M', vP, N', l, hc, rd_onD h2 h1 ho, h3.trans hB, by omega, h5⟩, fun k A hk => (kpD_of h1 ho).2 _ _ _ hk (by decide)⟩
theorem hw_ans (t : HW w0 w c h r s d n) (hn : n ≤ 400000) {fr inc sq : Int} {body : ByteArray} (hu : U64 sq ∧ I64 fr) {q : (ByteArray × Int) × List Pe} (hq : ansD s fr inc sq body = q) :
    Calls Try.prog 16 #[.pointer (some ⟨c, 0, none⟩), .int .i64 fr, .int .u64 inc, .int .u64 sq, .string body] w fun e w' => e = .returned (.tuple #[.string q.1.1, .int .i64 q.1.2]) ∧ HW w0 w' c h r q.2 d (n + 1) ∧ KpH w w' := by
  obtain ⟨B, M, vP, N, l, h1, h2, h3, h4, h5⟩ := t
  refine (ans_any h1 hu (by omega) hq).mono ?_
  rintro e w' ⟨rfl, B', M', N', hc, hn', ho, hm⟩
  have hB : Below w0.heap.size w w' := OnD.below h1 ho h3.size
  exact ⟨rfl, ⟨B', M', vP, N', l, hc, rd_onD h2 h1 ho, h3.trans hB, by omega, h5⟩, fun k A hk => (kpD_of h1 ho).2 _ _ _ hk (by decide)⟩
theorem kpH_onR (k : RD w B0 r vP l) (o : OnR B0 r w w') : KpH w w' := fun g A hg => q_onR k hg (by decide) (by decide) (by decide) o
theorem hw_rtake (t : HW w0 w c h r s d n) {m : Nat} (hd : LD m d) (hm : m ≤ 1000) {fr : Int} {p : Pk} {q : (Int × ByteArray × Int) × List Pe} (hq : takeR d fr p = q) :
    Calls Try.prog 19 #[.pointer (some ⟨r, 0, none⟩), .int .i64 fr, pv p] w fun e w' => e = .returned (.tuple #[.int .u8 q.1.1, .string q.1.2.1, .int .i64 q.1.2.2]) ∧ HW w0 w' c h r s q.2 n ∧ KpH w w' := by
  obtain ⟨B, M, vP, N, l, h1, h2, h3, h4, h5⟩ := t
  subst h5
  have hlb := hd.lb hm
  refine (rdtake_any h2 hlb.1 hlb.2).mono ?_
  rintro e w' ⟨rfl, vP', l', hc, he, ho⟩
  rw [hq] at he
  exact ⟨by rw [hq], ⟨B, M, vP', N, l', cd_onR h2 h1 ho, hc, h3.trans (OnR.below h2 ho h3.size), h4, he⟩, kpH_onR h2 ho⟩
theorem hw_rans (t : HW w0 w c h r s d n) {m : Nat} (hd : LD m d) (hm : m ≤ 1000) {fr inc sq : Int} {body : ByteArray} (hu : U64 inc ∧ U64 sq) {q : (ByteArray × Int) × List Pe} (hq : ansR d fr inc sq body = q) :
    Calls Try.prog 17 #[.pointer (some ⟨r, 0, none⟩), .int .i64 fr, .int .u64 inc, .int .u64 sq, .string body] w fun e w' => e = .returned (.tuple #[.string q.1.1, .int .i64 q.1.2]) ∧ HW w0 w' c h r s q.2 n ∧ KpH w w' := by
  obtain ⟨B, M, vP, N, l, h1, h2, h3, h4, h5⟩ := t
  subst h5
  have hlb := hd.lb hm
  refine (rdans_any h2 hlb.1 hlb.2 hu).mono ?_
  rintro e w' ⟨rfl, vP', l', hc, he, ho⟩
  rw [hq] at he
  exact ⟨by rw [hq], ⟨B, M, vP', N, l', cd_onR h2 h1 ho, hc, h3.trans (OnR.below h2 ho h3.size), h4, he⟩, kpH_onR h2 ho⟩
theorem hw_inc (t : HW w0 w c h r s d n) {fr : Int} (hf : I64 fr) : Calls Try.prog 20 #[.pointer (some ⟨c, 0, none⟩), .int .i64 fr] w fun e w' => e = .returned (.int .u64 (incD s fr)) ∧ w' = w := by
  obtain ⟨B, M, vP, N, l, h1, h2, h3, h4, h5⟩ := t
  exact inc_any h1 hf
theorem hw_rinc (t : HW w0 w c h r s d n) {m : Nat} (hd : LD m d) (hm : m ≤ 1000) {fr : Int} : Calls Try.prog 21 #[.pointer (some ⟨r, 0, none⟩), .int .i64 fr] w fun e w' => e = .returned (.int .u64 (incD d fr)) ∧ w' = w := by
  obtain ⟨B, M, vP, N, l, h1, h2, h3, h4, h5⟩ := t
  subst h5
  have hlb := hd.lb hm
  rw [← incV_eq]
  exact rinc_any h2 (by have := hlb.1; omega) fr
/-- Both made. -/
theorem hw_new {w1 : World} (hb : Below w0.heap.size w0 w1) (hc : CdW w1 w0.heap.size c h (fun _ => 0) (fun _ => 0) [] 0) : HW w0 (w1.alloc (.cells #[.slice none 0 0] 44)) c h w1.heap.size [] [] 0 :=
  ⟨_, _, .slice none 0 0, 0, [], hc.alloc _, ⟨Blk.new _ _ _, World.ownsRow_nil _ _ _ _, fun x hx => (by cases hx), List.Pairwise.nil, List.Pairwise.nil, by have := hc.ge; have := hc.blk.lt; omega⟩, hb.alloc hb.size _, Nat.zero_le _, rfl⟩
end
end Go.Proofs.Ytgdgonmhgpflcaa
