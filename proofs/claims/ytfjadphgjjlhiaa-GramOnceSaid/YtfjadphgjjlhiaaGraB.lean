
/- The walks of a net's New, may and one. No condition but that the net is one. -/
import Derived.Test.YtfjadphgjjlhiaaGraA
namespace Go.Proofs.Ytfjadphgjjlhiaa
open Go.RowKit Go.Maps Gr Sok
set_option linter.unusedVariables false
set_option linter.unusedSimpArgs false
def NewPost (w : World) (e : Ending) (w' : World) : Prop := ∃ b h c, e = .returned (.pointer (some ⟨b, 0, none⟩)) ∧ NW w' b h c 0 [] (fun _ _ => false) 0 ∧ Below w.heap.size w w' ∧ w.heap.size ≤ b ∧ w.heap.size ≤ h ∧ w.heap.size ≤ c
set_option maxRecDepth 100000 in
theorem new_any (w : World) : Calls Try.prog 8 #[] w (NewPost w) := by
  have hmm := @run_makeMap Try.prog
  go_enter Try.func8, Try.ntmps8
  go_wp2_with fail
  go_ret
  have h1 := World.ownsMap_made (H := Unit) w Try.prog 29 gramE
  have h2 := World.ownsMap_made (H := Unit) (w.alloc (.map #[] 0)) Try.prog 68 (plainElem Try.prog 3)
  rw [World.size_alloc] at h2
  refine ⟨_, w.heap.size, w.heap.size + 1, rfl, ⟨?_, ⟨_, (h1.alloc _).alloc _, ?_, ?_, rfl⟩, ⟨_, h2.alloc _, ?_⟩, ?_, ?_⟩, ?_, ?_, ?_, ?_⟩
  · have := Blk.new ((w.alloc (.map #[] 0)).alloc (.map #[] 0)) 64 #[.int .u64 0, .map (some w.heap.size), .map (some (w.heap.size + 1))]
    simpa using this
  · intro g hg; cases hg
  · intro x; simp [has]
  · intro a b ha hb; rfl
  · refine ⟨?_, ?_, ?_⟩ <;> (simp; try omega)
  · exact ⟨by decide, by decide, List.Pairwise.nil, fun g hg => by cases hg⟩
  · exact (((Below.refl _ _).alloc (Nat.le_refl _) _).alloc (by simp) _).alloc (by simp; omega) _
  all_goals (first | omega | (simp; done) | (simp; omega))
set_option maxRecDepth 100000 in
theorem may_nil (v : Value) (w : World) : Calls Try.prog 27 #[.pointer none, v] w fun e w' => e = .returned (.int .i64 1) ∧ w' = w := by
  go_enter Try.func27, Try.ntmps27
  go_wp2_with fail
  go_ret
  exact ⟨rfl, rfl⟩
theorem mapnil (h : Nat) (w : World) : (binOp .eql 55 (.map (some h)) (.map none)).run Try.prog w = .ok (.bool false) w := by kernel_rfl
set_option maxRecDepth 100000 in
theorem may_any {w : World} {b h c N : Nat} {last : Int} {L : List G} {C : Int → Int → Bool} (n : NW w b h c last L C N) {p : Option Addr} {m cap : Nat} {xs : List Int} {B : Bool} (hB : xs.any bad = B) (hp : Pl w p xs) (hn : xs.length = m) (hm : m ≤ 1000000) :
    Calls Try.prog 27 #[.pointer (some ⟨b, 0, none⟩), .slice p m cap] w fun e w' => e = .returned (.int .i64 (if B then 2 else 0)) ∧ w' = w := by
  have HC := Lib.hid (contains_any (cap := cap) hp hn hm)
  rw [hB] at HC
  have c1 := n.c1
  have hcmp := mapnil h w
  clear n hB hp hn hm
  go_enter Try.func27, Try.ntmps27
  cases B with
  | true =>
    go_wp2_with (go_at_call 36; ((with_reducible refine HC.out.mono ?_); rintro e w' ⟨rfl, rfl⟩))
    go_ret
    exact ⟨rfl, rfl⟩
  | false =>
    go_wp2_with (go_at_call 36; ((with_reducible refine HC.out.mono ?_); rintro e w' ⟨rfl, rfl⟩))
    go_ret
    exact ⟨rfl, rfl⟩
/-- A call that only makes memory, and hands back a message and a code. -/
def OnePost (w : World) (g : G) (k : Int) (e : Ending) (w' : World) : Prop := e = .returned (.tuple #[gv g, .int .i64 k]) ∧ Below w.heap.size w w'
set_option maxRecDepth 100000 in
theorem one_nil (x : Int) (w : World) : Calls Try.prog 29 #[.pointer none, .int .u64 x] w (OnePost w g0 1) := by
  go_enter Try.func29, Try.ntmps29
  go_wp2_with (go_at_call 27; ((with_reducible refine (may_nil _ _).mono ?_); rintro e w' ⟨rfl, rfl⟩))
  exact ret_pair (cs := #[.int .u64 0, .int .i64 0, .int .i64 0, .string ⟨#[]⟩]) (T := 33) rfl rfl rfl (Blk.new _ _ _) Try.underlying33 rfl (by kernel_rfl) rfl ⟨rfl, (Below.refl _ _).alloc (Nat.le_refl _) _⟩
set_option maxRecDepth 100000 in
theorem one_any {w : World} {b h c N : Nat} {last : Int} {L : List G} {C : Int → Int → Bool} (n : NW w b h c last L C N) {g : G} (hg : g ∈ L) {x : Int} (hx : g.id = x) :
    Calls Try.prog 29 #[.pointer (some ⟨b, 0, none⟩), .int .u64 x] w (OnePost w g 0) := by
  subst hx
  have hu : U64 g.id := by have := n.inv.2.2.2 g hg; have := n.inv.1; have := n.inv.2.1; unfold U64; omega
  have n1 := n.alloc (.cells #[.int .u64 0, .int .i64 0, .int .i64 0, .string ⟨#[]⟩] 33)
  have HM := Lib.hid (may_any (cap := 0) n1 (xs := []) (B := false) rfl (p := none) (m := 0) (.inl rfl) rfl (by decide))
  have hl := n1.gm.look hg hu
  have c1 := n1.c1
  clear n n1 hg hu
  obtain ⟨id, fr, tt, tx⟩ := g
  dsimp only at hl ⊢
  unfold gv at hl
  dsimp only at hl
  go_enter Try.func29, Try.ntmps29
  go_wp2_with (go_at_call 27; ((with_reducible refine HM.out.mono ?_); rintro e w' ⟨rfl, rfl⟩))
  exact ret_pair (cs := #[.int .u64 id, .int .i64 fr, .int .i64 tt, .string tx]) (T := 33) rfl rfl rfl ((Blk.new _ _ _).alloc _) Try.underlying33 rfl (by kernel_rfl) rfl ⟨rfl, ((Below.refl _ _).alloc (Nat.le_refl _) _).alloc (by simp) _⟩
set_option maxRecDepth 100000 in
theorem one_miss {w : World} {b h c N : Nat} {last : Int} {L : List G} {C : Int → Int → Bool} (n : NW w b h c last L C N) {x : Int} (hg : ¬ ∃ g ∈ L, g.id = x) (hu : U64 x) :
    Calls Try.prog 29 #[.pointer (some ⟨b, 0, none⟩), .int .u64 x] w (OnePost w g0 5) := by
  have n1 := n.alloc (.cells #[.int .u64 0, .int .i64 0, .int .i64 0, .string ⟨#[]⟩] 33)
  have HM := Lib.hid (may_any (cap := 0) n1 (xs := []) (B := false) rfl (p := none) (m := 0) (.inl rfl) rfl (by decide))
  have hl := n1.gm.miss hg hu
  have c1 := n1.c1
  clear n n1 hg hu
  unfold gv g0 at hl
  dsimp only at hl
  go_enter Try.func29, Try.ntmps29
  go_wp2_with (go_at_call 27; ((with_reducible refine HM.out.mono ?_); rintro e w' ⟨rfl, rfl⟩))
  exact ret_pair (cs := #[.int .u64 0, .int .i64 0, .int .i64 0, .string ⟨#[]⟩]) (T := 33) rfl rfl rfl ((Blk.new _ _ _).alloc _) Try.underlying33 rfl (by kernel_rfl) rfl ⟨rfl, ((Below.refl _ _).alloc (Nat.le_refl _) _).alloc (by simp) _⟩
end Go.Proofs.Ytfjadphgjjlhiaa
