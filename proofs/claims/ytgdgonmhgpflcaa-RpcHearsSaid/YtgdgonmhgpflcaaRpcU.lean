import Derived.Test.YtgdgonmhgpflcaaRpcS

/- A caller alone: what each call leaves of him, and of what else there is; the walk of RpcTries. No condition but that he is not beyond any bound. -/
namespace Go.Proofs.Ytgdgonmhgpflcaa
open Go.RowKit Go.Maps Wire Rp
set_option linter.unusedVariables false
set_option linter.unusedSimpArgs false
structure Uno (w0 w : World) (b h bd bo : Nat) (B : Int → Nat) (st : St) (vd vo : Value) (N : Nat) : Prop where
  cw : CW w w0.heap.size bd bo b h B st vd vo N
  bel : Below w0.heap.size w0 w
section
variable {w0 w w' : World} {bd bo b h N N' : Nat} {B : Int → Nat} {st : St} {vd vo : Value}
theorem Uno.below (d : Uno w0 w b h bd bo B st vd vo N) (hb : Below w.heap.size w w') : Uno w0 w' b h bd bo B st vd vo N := ⟨d.cw.below hb, d.bel.trans (hb.mono d.bel.size)⟩
theorem Uno.alloc (d : Uno w0 w b h bd bo B st vd vo N) (o : Obj) : Uno w0 (w.alloc o) b h bd bo B st vd vo N := d.below ((Below.refl _ _).alloc (Nat.le_refl _) o)
theorem Uno.onC (d : Uno w0 w b h bd bo B st vd vo N) {bd' bo' : Nat} {B' : Int → Nat} {st' : St} {vd' vo' : Value} (c : CW w' w0.heap.size bd' bo' b h B' st' vd' vo' N') (o : OnC w0.heap.size b h bd bo w w') :
    Uno w0 w' b h bd' bo' B' st' vd' vo' N' ∧ KpC bd bo w w' := ⟨⟨c, d.bel.trans (OnC.below d.cw o d.bel.size)⟩, kpC_of d.cw o⟩
def UnoC (w0 w : World) (b h bd bo : Nat) (st : St) (N bd' bo' : Nat) (P : Value → Value → Prop) (w' : World) : Prop := ∃ B' vd' vo', P vd' vo' ∧ Uno w0 w' b h bd' bo' B' st vd' vo' N ∧ KpC bd bo w w' ∧ OnC w0.heap.size b h bd bo w w'
theorem uno_call (d : Uno w0 w b h bd bo B st vd vo N) {wh now : Int} {body : ByteArray} (hn : st.du.length ≤ 1000000) (hN : N ≤ 900000) {r : Int × Int × St} (hr : callS st wh body now = r) :
    Calls Try.prog 30 #[.pointer (some ⟨b, 0, none⟩), .int .i64 wh, .string body, .int .i64 now] w fun e w' => e = .returned (.tuple #[.int .u64 r.1, .int .i64 r.2.1]) ∧ UnoC w0 w b h bd bo r.2.2 (N + 1) bd bo (fun _ v => v = vo) w' := by
  refine (call_any d.cw (by omega) (by omega) hr).mono ?_
  rintro e w' ⟨rfl, B', vd', N', hc, hn', ho⟩
  have := d.onC (hc.mono hn') ho
  exact ⟨rfl, _, _, _, rfl, this.1, this.2, ho⟩
theorem uno_take (d : Uno w0 w b h bd bo B st vd vo N) {fr : Int} {p : Pk} (hu : U64 p.seq) (hn : st.ov.length ≤ 1000000) {r : Bool × Int × St} (hr : takeS st fr p = r) :
    Calls Try.prog 36 #[.pointer (some ⟨b, 0, none⟩), .int .i64 fr, pv p] w fun e w' => e = .returned (.tuple #[.bool r.1, .int .i64 r.2.1]) ∧ UnoC w0 w b h bd bo r.2.2 N bd bo (fun v _ => v = vd) w' := by
  refine (take_any d.cw hu (by omega) hr).mono ?_
  rintro e w' ⟨rfl, vo', hc, ho⟩
  have := d.onC hc ho
  exact ⟨rfl, _, _, _, rfl, this.1, this.2, ho⟩
theorem uno_tick (d : Uno w0 w b h bd bo B st vd vo N) {now : Int} (hn : st.du.length ≤ 1000000 ∧ st.ov.length ≤ 1000000) {r : Int × St} (hr : tickS st now = r) :
    Calls Try.prog 28 #[.pointer (some ⟨b, 0, none⟩), .int .i64 now] w fun e w' => e = .returned (.int .i64 r.1) ∧ UnoC w0 w b h bd bo r.2 N bd bo (fun _ _ => True) w' := by
  subst hr
  refine (tick_any d.cw hn).mono ?_
  rintro e w' ⟨rfl, vd', vo', hc, ho⟩
  have := d.onC hc ho
  exact ⟨rfl, _, _, _, trivial, this.1, this.2, ho⟩
theorem uno_stop (d : Uno w0 w b h bd bo B st vd vo N) {p : Option Addr} {n cap : Nat} {xs : List Int} (hp : RowU w p xs) (hl : xs.length = n) (hm : n ≤ 1000000) (hu : ∀ x ∈ xs, U64 x) {r : Int × St} (hr : stopS st xs = r) :
    Calls Try.prog 39 #[.pointer (some ⟨b, 0, none⟩), .slice p n cap] w fun e w' => e = .returned (.int .i64 r.1) ∧ UnoC w0 w b h bd bo r.2 N bd bo (fun v u => v = vd ∧ u = vo) w' := by
  subst hr
  refine (stop_any d.cw hp hl hm hu).mono ?_
  rintro e w' ⟨rfl, hc, ho⟩
  have ho' : OnC w0.heap.size b h bd bo w w' := ho.mono fun k _ e => .inr (.inl e)
  have := d.onC hc ho'
  exact ⟨rfl, _, _, _, ⟨rfl, rfl⟩, this.1, this.2, ho'⟩
theorem uno_due (d : Uno w0 w b h bd bo B st vd vo N) :
    Calls Try.prog 31 #[.pointer (some ⟨b, 0, none⟩)] w fun e w' => e = .returned vd ∧ w'.ownsRow bd 101 2 vd st.du.length (rowsD st.du) ∧ (∀ g, vd.ownBlock = some g → g < w.heap.size) ∧ UnoC w0 w b h bd bo { st with du := [] } N w.heap.size bo (fun v u => v = .slice none 0 0 ∧ u = vo) w' := by
  refine (due_any d.cw).mono ?_
  rintro e w' ⟨rfl, hc, hrow, ho⟩
  have := d.onC hc (onC_b ho)
  exact ⟨rfl, hrow, fun g hg => by obtain ⟨A, hA, _⟩ := d.cw.du_ty hg; exact hA.lt, _, _, _, ⟨rfl, rfl⟩, this.1, this.2, onC_b ho⟩
theorem uno_ended (d : Uno w0 w b h bd bo B st vd vo N) :
    Calls Try.prog 32 #[.pointer (some ⟨b, 0, none⟩)] w fun e w' => e = .returned vo ∧ w'.ownsRow bo 83 4 vo st.ov.length (rowsO st.ov) ∧ (∀ g, vo.ownBlock = some g → g < w.heap.size) ∧ UnoC w0 w b h bd bo { st with ov := [] } N bd w.heap.size (fun v u => v = vd ∧ u = .slice none 0 0) w' := by
  refine (ended_any d.cw).mono ?_
  rintro e w' ⟨rfl, hc, hrow, ho⟩
  have := d.onC hc (onC_b ho)
  exact ⟨rfl, hrow, fun g hg => by obtain ⟨A, hA, _⟩ := d.cw.ov_ty hg; exact hA.lt, _, _, _, ⟨rfl, rfl⟩, this.1, this.2, onC_b ho⟩
end
theorem kpC_ty {bd bo : Nat} {w w' : World} (k : KpC bd bo w w') {g : Nat} {T : TypeId} {A : Array Value} (h : Blk w g T A) (h1 : T ≠ 143) (h2 : T ≠ 148) (h3 : T ≠ 101) (h4 : T ≠ 83) : Blk w' g T A := k.2 _ _ _ h h1 h2 (fun e => absurd e h3) (fun e => absurd e h4)
namespace Rp
section
variable {i W M R l now : Int} {x : C0}
theorem tk_keep (ht : timeB now = true) (h : now < x.tm) : tickS ⟨i, W, M, R, l, [x], [], []⟩ now = (0, ⟨i, W, M, R, l, [x], [], []⟩) := by
  unfold tickS tickAt; simp [ht, tkL, tkD, tkO, h]
theorem tk_late (ht : timeB now = true) (h : ¬ now < x.tm) (h2 : R ≤ x.tries) : tickS ⟨i, W, M, R, l, [x], [], []⟩ now = (0, ⟨i, W, M, R, l, [], [], [⟨x.seq, x.wh, ⟨#[]⟩, 270⟩]⟩) := by
  unfold tickS tickAt; simp [ht, tkL, tkD, tkO, h, h2]
theorem tk_fire (ht : timeB now = true) (h : ¬ now < x.tm) (h2 : ¬ R ≤ x.tries) : tickS ⟨i, W, M, R, l, [x], [], []⟩ now = (0, ⟨i, W, M, R, l, [⟨x.seq, x.wh, x.body, x.tries + 1, now + min (2 * x.wt) M, min (2 * x.wt) M⟩], [(x.wh, pkS ⟨false, i, x.seq, x.body⟩)], []⟩) := by
  unfold tickS tickAt; simp [ht, tkL, tkD, tkO, h, h2, nextC, mkDue]
end
end Rp
end Go.Proofs.Ytgdgonmhgpflcaa
