import Derived.Test.YtgdgonmhgpflcaaRpdG

/- RpcCalls: the program's caller and the document's side by side. No condition. -/
namespace Go.Proofs.Ytgdgonmhgpflcaa
open Go.RowKit Go.Maps Wire Rp
set_option linter.unusedVariables false
set_option linter.unusedSimpArgs false
/-- Both; Q is the block of the step at hand. -/
def Mid (w0 w : World) (b h r Q : Nat) (A : Array Value) (s s' : St) (N : Nat) : Prop :=
  ∃ bd bo B vd vo vL vD vO bD bO, CW w w0.heap.size bd bo b h B s vd vo N ∧ RC w w0.heap.size bD bO r vL vD vO s' ∧ Below w0.heap.size w0 w ∧ Blk w Q 90 A ∧ (∀ g, vd.ownBlock = some g → g < bD) ∧ (∀ g, vo.ownBlock = some g → g < bO)
/-- Both, ahead of an operation on the program's. -/
def Pre (w0 w : World) (b h r Q : Nat) (A : Array Value) (s s' : St) (N : Nat) : Prop :=
  ∃ bd bo B vd vo vL bD bO, CW w w0.heap.size bd bo b h B s vd vo N ∧ RC w w0.heap.size bD bO r vL (.slice none 0 0) (.slice none 0 0) s' ∧ Below w0.heap.size w0 w ∧ Blk w Q 90 A
/-- Both, between rounds. -/
def Two (w0 w : World) (b h r : Nat) (s : St) (N : Nat) : Prop :=
  ∃ bd bo B vd vo vL bD bO, CW w w0.heap.size bd bo b h B s vd vo N ∧ RC w w0.heap.size bD bO r vL (.slice none 0 0) (.slice none 0 0) s ∧ Below w0.heap.size w0 w
section
variable {w0 w w' : World} {b h r Q N N' : Nat} {A : Array Value} {s s' s1 : St}
theorem Two.pre (t : Two w0 w b h r s N) : Pre w0 (w.alloc (.cells A 90)) b h r w.heap.size A s s N := by
  obtain ⟨bd, bo, B, vd, vo, vL, bD, bO, c, k, hb⟩ := t
  exact ⟨bd, bo, B, vd, vo, vL, bD, bO, c.alloc _, k.alloc _, hb.alloc hb.size _, Blk.new _ _ _⟩
theorem Mid.below (t : Mid w0 w b h r Q A s s' N) (hb : Below w.heap.size w w') : Mid w0 w' b h r Q A s s' N := by
  obtain ⟨bd, bo, B, vd, vo, vL, vD, vO, bD, bO, c, k, hb2, hq, h1, h2⟩ := t
  exact ⟨bd, bo, B, vd, vo, vL, vD, vO, bD, bO, c.below hb, k.below hb, hb2.trans (hb.mono hb2.size), hq.below hb, h1, h2⟩
theorem Mid.bel (t : Mid w0 w b h r Q A s s' N) : Below w0.heap.size w0 w := by obtain ⟨bd, bo, B, vd, vo, vL, vD, vO, bD, bO, c, k, hb2, hq, h1, h2⟩ := t; exact hb2
theorem Mid.blk (t : Mid w0 w b h r Q A s s' N) : Blk w Q 90 A := by obtain ⟨bd, bo, B, vd, vo, vL, vD, vO, bD, bO, c, k, hb2, hq, h1, h2⟩ := t; exact hq
theorem Pre.bel (t : Pre w0 w b h r Q A s s' N) : Below w0.heap.size w0 w := by obtain ⟨bd, bo, B, vd, vo, vL, bD, bO, c, k, hb2, hq⟩ := t; exact hb2
theorem Pre.blk (t : Pre w0 w b h r Q A s s' N) : Blk w Q 90 A := by obtain ⟨bd, bo, B, vd, vo, vL, bD, bO, c, k, hb2, hq⟩ := t; exact hq
theorem Two.bel (t : Two w0 w b h r s N) : Below w0.heap.size w0 w := by obtain ⟨bd, bo, B, vd, vo, vL, bD, bO, c, k, hb2⟩ := t; exact hb2
theorem Pre.below (t : Pre w0 w b h r Q A s s' N) (hb : Below w.heap.size w w') : Pre w0 w' b h r Q A s s' N := by
  obtain ⟨bd, bo, B, vd, vo, vL, bD, bO, c, k, hb2, hq⟩ := t
  exact ⟨bd, bo, B, vd, vo, vL, bD, bO, c.below hb, k.below hb, hb2.trans (hb.mono hb2.size), hq.below hb⟩
/-- What turns the program's caller leaves the document's. -/
theorem rc_onC {B0 bd bo bD bO : Nat} {B : Int → Nat} {vd vo vL : Value} (c : CW w B0 bd bo b h B s vd vo N) (k : RC w B0 bD bO r vL (.slice none 0 0) (.slice none 0 0) s') (hs : s'.du = [] ∧ s'.ov = []) (o : OnC B0 b h bd bo w w') :
    RC w' B0 w'.heap.size w'.heap.size r vL (.slice none 0 0) (.slice none 0 0) s' := by
  have kt : ∀ {g : Nat} {T : TypeId} {A : Array Value}, Blk w g T A → T ≠ 143 → T ≠ 148 → T ≠ 101 → T ≠ 83 → ¬ (g = b ∨ g = h ∨ (B0 ≤ g ∧ ∃ A, Blk w g 148 A) ∨ (bd ≤ g ∧ ∃ A, Blk w g 101 A) ∨ (bo ≤ g ∧ ∃ A, Blk w g 83 A)) := fun hk h1 h2 h3 h4 e => by
    rcases e with e | e | ⟨_, A', e⟩ | ⟨_, A', e⟩ | ⟨_, A', e⟩
    · subst e; exact h1 (blk_ne hk c.blk)
    · exact at_ne c.mp hk e.symm
    · exact h2 (blk_ne hk e)
    · exact h3 (blk_ne hk e)
    · exact h4 (blk_ne hk e)
  have k2 := k.only o (kt k.blk (by decide) (by decide) (by decide) (by decide)) (fun g hg => by obtain ⟨A, hA, _⟩ := k.ty.1 hg; exact kt hA (by decide) (by decide) (by decide) (by decide)) (fun g hg => by cases hg) (fun g hg => by cases hg)
  have hge := k2.ge
  have hlt := k2.blk.lt
  exact ⟨k2.blk, k2.row, by rw [hs.1]; exact World.ownsRow_nil _ _ _ _, by rw [hs.2]; exact World.ownsRow_nil _ _ _ _, by omega, ⟨Nat.le_refl _, Nat.le_refl _⟩, k2.inv⟩
theorem q_onC {B0 bd bo : Nat} {B : Int → Nat} {vd vo : Value} (c : CW w B0 bd bo b h B s vd vo N) (hq : Blk w Q 90 A) (o : OnC B0 b h bd bo w w') : Blk w' Q 90 A := kpC_ty (kpC_of c o) hq (by decide) (by decide) (by decide) (by decide)
theorem Pre.mid {bd bo : Nat} {B : Int → Nat} {vd vo vL : Value} {bD bO : Nat} (c : CW w w0.heap.size bd bo b h B s vd vo N) (k : RC w w0.heap.size bD bO r vL (.slice none 0 0) (.slice none 0 0) s') (hb : Below w0.heap.size w0 w) (hq : Blk w Q 90 A)
    (hs : s'.du = [] ∧ s'.ov = []) {bd' bo' : Nat} {B' : Int → Nat} {vd' vo' : Value} (c' : CW w' w0.heap.size bd' bo' b h B' s1 vd' vo' N') (o : OnC w0.heap.size b h bd bo w w') : Mid w0 w' b h r Q A s1 s' N' :=
  ⟨_, _, _, _, _, _, _, _, _, _, c', rc_onC c k hs o, hb.trans (OnC.below c o hb.size), q_onC c hq o, fun g hg => by obtain ⟨A, hA, _⟩ := c'.du_ty hg; exact hA.lt, fun g hg => by obtain ⟨A, hA, _⟩ := c'.ov_ty hg; exact hA.lt⟩
/-- What turns the document's caller leaves the program's. -/
theorem cw_onK {B0 bd bo bD bO : Nat} {B : Int → Nat} {vd vo vL vD vO : Value} (c : CW w B0 bd bo b h B s vd vo N) (k : RC w B0 bD bO r vL vD vO s') (h1 : ∀ g, vd.ownBlock = some g → g < bD) (h2 : ∀ g, vo.ownBlock = some g → g < bO) (o : OnK B0 bD bO r w w') :
    CW w' B0 bd bo b h B s vd vo N := by
  have kt : ∀ {g : Nat} {T : TypeId} {A : Array Value}, Blk w g T A → T ≠ 97 → T ≠ 99 → (T = 101 → g < bD) → (T = 83 → g < bO) → ¬ (g = r ∨ (B0 ≤ g ∧ ∃ A, Blk w g 99 A) ∨ (bD ≤ g ∧ ∃ A, Blk w g 101 A) ∨ (bO ≤ g ∧ ∃ A, Blk w g 83 A)) := fun hk e1 e2 e3 e4 e => by
    rcases e with e | ⟨_, A', e⟩ | ⟨hg, A', e⟩ | ⟨hg, A', e⟩
    · subst e; exact e1 (blk_ne hk k.blk)
    · exact e2 (blk_ne hk e)
    · have := e3 (blk_ne hk e); omega
    · have := e4 (blk_ne hk e); omega
  refine c.only o (kt c.blk (by decide) (by decide) (fun e => absurd e (by decide)) (fun e => absurd e (by decide))) (fun e => ?_) (fun x hx => kt (c.cl x hx).1 (by decide) (by decide) (fun e => absurd e (by decide)) (fun e => absurd e (by decide)))
    (fun g hg => by obtain ⟨A, hA, _⟩ := c.du_ty hg; exact kt hA (by decide) (by decide) (fun _ => h1 g hg) (fun e => absurd e (by decide))) (fun g hg => by obtain ⟨A, hA, _⟩ := c.ov_ty hg; exact kt hA (by decide) (by decide) (fun e => absurd e (by decide)) (fun _ => h2 g hg))
  rcases e with e | ⟨_, A', e⟩ | ⟨hg, A', e⟩ | ⟨hg, A', e⟩
  · exact at_ne c.mp k.blk e
  · exact at_ne c.mp e rfl
  · exact at_ne c.mp e rfl
  · exact at_ne c.mp e rfl
theorem q_onK {B0 bD bO : Nat} {vL vD vO : Value} (k : RC w B0 bD bO r vL vD vO s') (hq : Blk w Q 90 A) (o : OnK B0 bD bO r w w') : Blk w' Q 90 A := hq.only o fun e => by
  rcases e with e | ⟨_, A', e⟩ | ⟨hg, A', e⟩ | ⟨hg, A', e⟩
  · subst e; exact absurd (blk_ne hq k.blk) (by decide)
  · exact absurd (blk_ne hq e) (by decide)
  · exact absurd (blk_ne hq e) (by decide)
  · exact absurd (blk_ne hq e) (by decide)
/-! ### the operations -/
theorem m_call (t : Pre w0 w b h r Q A s s' N) (hs : (s.du = [] ∧ s.ov = []) ∧ s'.du = [] ∧ s'.ov = []) (hN : N ≤ 900000) {wh now : Int} {body : ByteArray} {q : Int × Int × St} (hr : callS s wh body now = q) :
    Calls Try.prog 30 #[.pointer (some ⟨b, 0, none⟩), .int .i64 wh, .string body, .int .i64 now] w fun e w' => e = .returned (.tuple #[.int .u64 q.1, .int .i64 q.2.1]) ∧ Mid w0 w' b h r Q A q.2.2 s' (N + 1) := by
  obtain ⟨bd, bo, B, vd, vo, vL, bD, bO, c, k, hb2, hq⟩ := t
  refine (call_any c (by rw [hs.1.1]; simp) (by omega) hr).mono ?_
  rintro e w' ⟨rfl, B', vd', N', hc, hn', ho⟩
  exact ⟨rfl, Pre.mid c k hb2 hq hs.2 (hc.mono hn') ho⟩
theorem m_take (t : Pre w0 w b h r Q A s s' N) (hs : (s.du = [] ∧ s.ov = []) ∧ s'.du = [] ∧ s'.ov = []) {fr : Int} {p : Pk} (hu : U64 p.seq) {q : Bool × Int × St} (hr : takeS s fr p = q) :
    Calls Try.prog 36 #[.pointer (some ⟨b, 0, none⟩), .int .i64 fr, pv p] w fun e w' => e = .returned (.tuple #[.bool q.1, .int .i64 q.2.1]) ∧ Mid w0 w' b h r Q A q.2.2 s' N := by
  obtain ⟨bd, bo, B, vd, vo, vL, bD, bO, c, k, hb2, hq⟩ := t
  refine (take_any c hu (by rw [hs.1.2]; simp) hr).mono ?_
  rintro e w' ⟨rfl, vo', hc, ho⟩
  exact ⟨rfl, Pre.mid c k hb2 hq hs.2 hc ho⟩
theorem m_tick (t : Pre w0 w b h r Q A s s' N) (hs : (s.du = [] ∧ s.ov = []) ∧ s'.du = [] ∧ s'.ov = []) {now : Int} {q : Int × St} (hr : tickS s now = q) :
    Calls Try.prog 28 #[.pointer (some ⟨b, 0, none⟩), .int .i64 now] w fun e w' => e = .returned (.int .i64 q.1) ∧ Mid w0 w' b h r Q A q.2 s' N := by
  subst hr
  obtain ⟨bd, bo, B, vd, vo, vL, bD, bO, c, k, hb2, hq⟩ := t
  refine (tick_any c (by rw [hs.1.1, hs.1.2]; simp)).mono ?_
  rintro e w' ⟨rfl, vd', vo', hc, ho⟩
  exact ⟨rfl, Pre.mid c k hb2 hq hs.2 hc ho⟩
theorem m_stop (t : Pre w0 w b h r Q A s s' N) (hs : (s.du = [] ∧ s.ov = []) ∧ s'.du = [] ∧ s'.ov = []) {p : Option Addr} {n cap : Nat} {xs : List Int} (hp : RowU w p xs) (hl : xs.length = n) (hm : n ≤ 1000000) (hu : ∀ x ∈ xs, U64 x) {q : Int × St} (hr : stopS s xs = q) :
    Calls Try.prog 39 #[.pointer (some ⟨b, 0, none⟩), .slice p n cap] w fun e w' => e = .returned (.int .i64 q.1) ∧ Mid w0 w' b h r Q A q.2 s' N := by
  subst hr
  obtain ⟨bd, bo, B, vd, vo, vL, bD, bO, c, k, hb2, hq⟩ := t
  refine (stop_any c hp hl hm hu).mono ?_
  rintro e w' ⟨rfl, hc, ho⟩
  exact ⟨rfl, Pre.mid c k hb2 hq hs.2 hc (ho.mono fun k _ e => .inr (.inl e))⟩
theorem m_rcall (t : Mid w0 w b h r Q A s s' N) (hs : s'.du = [] ∧ s'.ov = []) {wh now : Int} {body : ByteArray} {q : Int × Int × St} (hr : callS s' wh body now = q) :
    Calls Try.prog 35 #[.pointer (some ⟨r, 0, none⟩), .int .i64 wh, .string body, .int .i64 now] w fun e w' => e = .returned (.tuple #[.int .u64 q.1, .int .i64 q.2.1]) ∧ Mid w0 w' b h r Q A s q.2.2 N := by
  obtain ⟨bd, bo, B, vd, vo, vL, vD, vO, bD, bO, c, k, hb2, hq, h1, h2⟩ := t
  refine (rcall_any k (by rw [hs.1]; simp) hr).mono ?_
  rintro e w' ⟨rfl, vL', vD', k', o⟩
  exact ⟨rfl, _, _, _, _, _, _, _, _, _, _, cw_onK c k h1 h2 o, k', hb2.trans (OnK.below k o hb2.size), q_onK k hq o, h1, h2⟩
theorem m_rtake (t : Mid w0 w b h r Q A s s' N) (hs : s'.du = [] ∧ s'.ov = []) {fr : Int} {p : Pk} {q : Bool × Int × St} (hr : takeS s' fr p = q) :
    Calls Try.prog 37 #[.pointer (some ⟨r, 0, none⟩), .int .i64 fr, pv p] w fun e w' => e = .returned (.tuple #[.bool q.1, .int .i64 q.2.1]) ∧ Mid w0 w' b h r Q A s q.2.2 N := by
  obtain ⟨bd, bo, B, vd, vo, vL, vD, vO, bD, bO, c, k, hb2, hq, h1, h2⟩ := t
  refine (rtake_any k (by rw [hs.2]; simp) hr).mono ?_
  rintro e w' ⟨rfl, vL', vO', k', o⟩
  exact ⟨rfl, _, _, _, _, _, _, _, _, _, _, cw_onK c k h1 h2 o, k', hb2.trans (OnK.below k o hb2.size), q_onK k hq o, h1, h2⟩
theorem m_rtick (t : Mid w0 w b h r Q A s s' N) (hs : s'.du = [] ∧ s'.ov = []) {now : Int} {q : Int × St} (hr : tickS s' now = q) :
    Calls Try.prog 38 #[.pointer (some ⟨r, 0, none⟩), .int .i64 now] w fun e w' => e = .returned (.int .i64 q.1) ∧ Mid w0 w' b h r Q A s q.2 N := by
  subst hr
  obtain ⟨bd, bo, B, vd, vo, vL, vD, vO, bD, bO, c, k, hb2, hq, h1, h2⟩ := t
  refine (rtick_any k (by rw [hs.1, hs.2]; simp)).mono ?_
  rintro e w' ⟨rfl, vL', vD', vO', k', o⟩
  exact ⟨rfl, _, _, _, _, _, _, _, _, _, _, cw_onK c k h1 h2 o, k', hb2.trans (OnK.below k o hb2.size), q_onK k hq o, h1, h2⟩
theorem m_rstop (t : Mid w0 w b h r Q A s s' N) (x : Int) {q : Int × St} (hr : stop1 s' x = q) :
    Calls Try.prog 40 #[.pointer (some ⟨r, 0, none⟩), .int .u64 x] w fun e w' => e = .returned (.int .i64 q.1) ∧ Mid w0 w' b h r Q A s q.2 N := by
  subst hr
  obtain ⟨bd, bo, B, vd, vo, vL, vD, vO, bD, bO, c, k, hb2, hq, h1, h2⟩ := t
  refine (rstop_any k x).mono ?_
  rintro e w' ⟨rfl, vL', k', o⟩
  have o := onK_r (B0 := w0.heap.size) (bD := bD) (bO := bO) o
  exact ⟨rfl, _, _, _, _, _, _, _, _, _, _, cw_onK c k h1 h2 o, k', hb2.trans (OnK.below k o hb2.size), q_onK k hq o, h1, h2⟩
/-! ### what the round compares -/
def Keeps (w w' : World) : Prop := ∀ {base size n : Nat} {e : TypeId} {v : Value} {xs : List Value}, w.ownsRow base e size v n xs → 143 ≠ e → w'.ownsRow base e size v n xs
theorem m_calls (t : Mid w0 w b h r Q A s s' N) : Calls Try.prog 24 #[.pointer (some ⟨b, 0, none⟩)] w fun e w' => CallsPost w s e w' ∧ Mid w0 w' b h r Q A s s' N := by
  obtain ⟨bd, bo, B, vd, vo, vL, vD, vO, bD, bO, c, k, hb2, hq, h1, h2⟩ := id t
  refine (calls_any c).mono ?_
  rintro e w' ⟨v, rfl, hr, hb⟩
  exact ⟨⟨v, rfl, hr, hb⟩, t.below hb⟩
theorem rc_b {B0 bd bo bD bO : Nat} {B : Int → Nat} {vd vo vL vD vO : Value} (c : CW w B0 bd bo b h B s vd vo N) (k : RC w B0 bD bO r vL vD vO s') (o : Only (· = b) w w') : RC w' B0 bD bO r vL vD vO s' :=
  k.only o (fun e => by have e' : r = b := e; have h1 := k.blk; rw [e'] at h1; exact absurd (blk_ne h1 c.blk) (by decide)) (owns_ne k.row c.blk (by decide)) (owns_ne k.du c.blk (by decide)) (owns_ne k.ov c.blk (by decide))
theorem q_b (c : Blk w b 143 #[]) : True := trivial
theorem m_due (t : Mid w0 w b h r Q A s s' N) : Calls Try.prog 31 #[.pointer (some ⟨b, 0, none⟩)] w fun e w' => (∃ v bd, e = .returned v ∧ w'.ownsRow bd 101 2 v s.du.length (rowsD s.du)) ∧ Mid w0 w' b h r Q A { s with du := [] } s' N ∧ Keeps w w' := by
  obtain ⟨bd, bo, B, vd, vo, vL, vD, vO, bD, bO, c, k, hb2, hq, h1, h2⟩ := t
  refine (due_any c).mono ?_
  rintro e w' ⟨rfl, hc, hrow, ho⟩
  refine ⟨⟨_, _, rfl, hrow⟩, ⟨_, _, _, _, _, _, _, _, _, _, hc, rc_b c k ho, hb2.trans (OnC.below c (onC_b ho) hb2.size), hq.only ho (fun e => by have e' : Q = b := e; rw [e'] at hq; exact absurd (blk_ne hq c.blk) (by decide)), (fun g hg => by cases hg), h2⟩, fun hr hne => owns_only hr ho (owns_ne hr c.blk hne)⟩
theorem m_ended (t : Mid w0 w b h r Q A s s' N) : Calls Try.prog 32 #[.pointer (some ⟨b, 0, none⟩)] w fun e w' => (∃ v bo, e = .returned v ∧ w'.ownsRow bo 83 4 v s.ov.length (rowsO s.ov)) ∧ Mid w0 w' b h r Q A { s with ov := [] } s' N ∧ Keeps w w' := by
  obtain ⟨bd, bo, B, vd, vo, vL, vD, vO, bD, bO, c, k, hb2, hq, h1, h2⟩ := t
  refine (ended_any c).mono ?_
  rintro e w' ⟨rfl, hc, hrow, ho⟩
  refine ⟨⟨_, _, rfl, hrow⟩, ⟨_, _, _, _, _, _, _, _, _, _, hc, rc_b c k ho, hb2.trans (OnC.below c (onC_b ho) hb2.size), hq.only ho (fun e => by have e' : Q = b := e; rw [e'] at hq; exact absurd (blk_ne hq c.blk) (by decide)), h1, fun g hg => by cases hg⟩, fun hr hne => owns_only hr ho (owns_ne hr c.blk hne)⟩
/-- At the round's end the document's rows are dropped. -/
theorem Mid.drop (t : Mid w0 w b h r Q A { s with du := [], ov := [] } s N) : Two w0 ((w.setCell ⟨r, 6, none⟩ (.slice none 0 0)).setCell ⟨r, 7, none⟩ (.slice none 0 0)) b h r { s with du := [], ov := [] } N := by
  obtain ⟨bd, bo, B, vd, vo, vL, vD, vO, bD, bO, c, k, hb2, hq, h1, h2⟩ := t
  have o : Only (· = r) w ((w.setCell ⟨r, 6, none⟩ (.slice none 0 0)).setCell ⟨r, 7, none⟩ (.slice none 0 0)) := (Only.refl (· = r) w).set1.set1
  have oK := onK_r (B0 := w0.heap.size) (bD := bD) (bO := bO) o
  refine ⟨_, _, _, _, _, vL, bD, bO, cw_onK c k h1 h2 oK, ⟨?_, owns_only k.row o (owns_ne k.row k.blk (by decide)), World.ownsRow_nil _ _ _ _, World.ownsRow_nil _ _ _ _, k.ge, ⟨Nat.le_trans k.sz.1 o.size, Nat.le_trans k.sz.2 o.size⟩, k.inv.rows [] []⟩, hb2.trans (OnK.below k oK hb2.size)⟩
  have h6 := k.blk.set 6 (.slice none 0 0)
  rw [setIf6] at h6
  have h7 := h6.set 7 (.slice none 0 0)
  rw [setIf7] at h7
  exact h7
end
end Go.Proofs.Ytgdgonmhgpflcaa
