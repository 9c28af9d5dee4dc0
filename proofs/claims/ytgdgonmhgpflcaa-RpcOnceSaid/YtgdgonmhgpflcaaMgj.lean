import Derived.Test.YtgdgonmhgpflcaaRpcQ
import Derived.Test.YtgdgonmhgpflcaaMge
import Derived.Test.YtgdgonmhgpflcaaMgc

/- A caller and who is called, side by side: what each call leaves of both. No condition but that they are not beyond any bound. -/
namespace Go.Proofs.Ytgdgonmhgpflcaa
open Go.RowKit Go.Maps Wire Rp
set_option linter.unusedVariables false
set_option linter.unusedSimpArgs false
/-- What stays behind a call of a caller's, of who is called's. -/
def KpC (bd bo : Nat) (w w' : World) : Prop := w.heap.size ≤ w'.heap.size ∧ ∀ k T A, Blk w k T A → T ≠ 143 → T ≠ 148 → (T = 101 → k < bd) → (T = 83 → k < bo) → Blk w' k T A
def KpD (w w' : World) : Prop := w.heap.size ≤ w'.heap.size ∧ ∀ k T A, Blk w k T A → T ≠ 125 → Blk w' k T A
section
variable {w0 w w' : World} {B0 bd bo b h cx hx N N' : Nat} {B Bp Mp : Int → Nat} {st : St} {s : List Pe} {vd vo : Value}
theorem mo_noblk (d : CdW w B0 cx hx Bp Mp s N) {k : Nat} (hk : MO hx Mp s k) {T : TypeId} {A : Array Value} : ¬ Blk w k T A := fun hb => by
  rcases hk with e | ⟨p, hp, e⟩
  · subst e; exact d.mp.no_cells hb
  · subst e; exact (d.pe p hp).1.mp.no_cells hb
theorem mo_lt (d : CdW w B0 cx hx Bp Mp s N) {k : Nat} (hk : MO hx Mp s k) : k < w.heap.size := by
  rcases hk with e | ⟨p, hp, e⟩
  · subst e; exact d.mp.lt
  · subst e; exact (d.pe p hp).1.mp.lt
theorem cd_onC (c : CW w B0 bd bo b h B st vd vo N) (d : CdW w B0 cx hx Bp Mp s N') (ap : ¬ MO hx Mp s h) (o : OnC B0 b h bd bo w w') : CdW w' B0 cx hx Bp Mp s N' := by
  refine d.only o (fun hs => ?_) (fun k hk hs => ?_) (fun k A hA hs => ?_)
  · rcases hs with e | e | ⟨_, A', e⟩ | ⟨_, A', e⟩ | ⟨_, A', e⟩
    · subst e; exact absurd (blk_ne d.blk c.blk) (by decide)
    · exact at_ne c.mp d.blk e.symm
    · exact absurd (blk_ne d.blk e) (by decide)
    · exact absurd (blk_ne d.blk e) (by decide)
    · exact absurd (blk_ne d.blk e) (by decide)
  · rcases hs with e | e | ⟨_, A', e⟩ | ⟨_, A', e⟩ | ⟨_, A', e⟩
    · subst e; exact mo_noblk d hk c.blk
    · subst e; exact ap hk
    · exact mo_noblk d hk e
    · exact mo_noblk d hk e
    · exact mo_noblk d hk e
  · rcases hs with e | e | ⟨_, A', e⟩ | ⟨_, A', e⟩ | ⟨_, A', e⟩
    · subst e; exact absurd (blk_ne hA c.blk) (by decide)
    · exact at_ne c.mp hA e.symm
    · exact absurd (blk_ne hA e) (by decide)
    · exact absurd (blk_ne hA e) (by decide)
    · exact absurd (blk_ne hA e) (by decide)
theorem cw_onD (c : CW w B0 bd bo b h B st vd vo N) (d : CdW w B0 cx hx Bp Mp s N') (ap : ¬ MO hx Mp s h) (o : OnD B0 (MO hx Mp s) w w') : CW w' B0 bd bo b h B st vd vo N := by
  have key : ∀ {k : Nat} {T : TypeId} {A : Array Value}, Blk w k T A → T ≠ 125 → ¬ (MO hx Mp s k ∨ (B0 ≤ k ∧ ∃ A, Blk w k 125 A)) := fun hk ht hs => by
    rcases hs with e | ⟨_, A', e⟩
    · exact mo_noblk d e hk
    · exact ht (blk_ne hk e)
  refine c.only o (key c.blk (by decide)) (fun hs => ?_) (fun x hx => key (c.cl x hx).1 (by decide)) (fun g hg => ?_) (fun g hg => ?_)
  · rcases hs with e | ⟨_, A', e⟩
    · exact ap e
    · exact at_ne c.mp e rfl
  · obtain ⟨A, hA, _⟩ := c.du_ty hg; exact key hA (by decide)
  · obtain ⟨A, hA, _⟩ := c.ov_ty hg; exact key hA (by decide)
theorem kpC_of (c : CW w B0 bd bo b h B st vd vo N) (o : OnC B0 b h bd bo w w') : KpC bd bo w w' := ⟨o.size, fun k T A hk h1 h2 h3 h4 => hk.only o fun hs => by
  rcases hs with e | e | ⟨_, A', e⟩ | ⟨g, A', e⟩ | ⟨g, A', e⟩
  · subst e; exact h1 (blk_ne hk c.blk)
  · exact at_ne c.mp hk e.symm
  · exact h2 (blk_ne hk e)
  · have := h3 (blk_ne hk e); omega
  · have := h4 (blk_ne hk e); omega⟩
theorem kpD_of (d : CdW w B0 cx hx Bp Mp s N) (o : OnD B0 (MO hx Mp s) w w') : KpD w w' := ⟨o.size, fun k T A hk h1 => hk.only o fun hs => by
  rcases hs with e | ⟨_, A', e⟩
  · exact mo_noblk d e hk
  · exact h1 (blk_ne hk e)⟩
end
/-- Both, made behind w0. -/
structure Duo (w0 w : World) (b h cx hx bd bo : Nat) (B Bp Mp : Int → Nat) (st : St) (s : List Pe) (vd vo : Value) (N : Nat) : Prop where
  cw : CW w w0.heap.size bd bo b h B st vd vo N
  cd : CdW w w0.heap.size cx hx Bp Mp s N
  bel : Below w0.heap.size w0 w
  ap : ¬ MO hx Mp s h
theorem CW.mono {w : World} {B0 bd bo b h N N' : Nat} {B : Int → Nat} {s : St} {vd vo : Value} (c : CW w B0 bd bo b h B s vd vo N) (hN : N ≤ N') : CW w B0 bd bo b h B s vd vo N' := ⟨c.blk, c.mp.mono hN, c.cl, c.inj, c.du, c.ov, c.ge, c.sz, c.inv⟩
section
variable {w0 w w' : World} {bd bo b h cx hx N N' : Nat} {B Bp Mp : Int → Nat} {st : St} {s : List Pe} {vd vo : Value}
theorem Duo.below (d : Duo w0 w b h cx hx bd bo B Bp Mp st s vd vo N) (hb : Below w.heap.size w w') : Duo w0 w' b h cx hx bd bo B Bp Mp st s vd vo N := ⟨d.cw.below hb, d.cd.below hb, d.bel.trans (hb.mono d.bel.size), d.ap⟩
theorem Duo.alloc (d : Duo w0 w b h cx hx bd bo B Bp Mp st s vd vo N) (o : Obj) : Duo w0 (w.alloc o) b h cx hx bd bo B Bp Mp st s vd vo N := d.below ((Below.refl _ _).alloc (Nat.le_refl _) o)
theorem Duo.mono (d : Duo w0 w b h cx hx bd bo B Bp Mp st s vd vo N) (hN : N ≤ N') : Duo w0 w b h cx hx bd bo B Bp Mp st s vd vo N' := ⟨d.cw.mono hN, d.cd.mono hN, d.bel, d.ap⟩
theorem Duo.onC (d : Duo w0 w b h cx hx bd bo B Bp Mp st s vd vo N) {bd' bo' : Nat} {B' : Int → Nat} {st' : St} {vd' vo' : Value} (hN : N ≤ N') (c : CW w' w0.heap.size bd' bo' b h B' st' vd' vo' N') (o : OnC w0.heap.size b h bd bo w w') :
    Duo w0 w' b h cx hx bd' bo' B' Bp Mp st' s vd' vo' N' ∧ KpC bd bo w w' :=
  ⟨⟨c, (cd_onC d.cw d.cd d.ap o).mono hN, d.bel.trans (OnC.below d.cw o d.bel.size), d.ap⟩, kpC_of d.cw o⟩
theorem Duo.onD (d : Duo w0 w b h cx hx bd bo B Bp Mp st s vd vo N) {Bp' Mp' : Int → Nat} {s' : List Pe} (hN : N ≤ N') (c : CdW w' w0.heap.size cx hx Bp' Mp' s' N') (o : OnD w0.heap.size (MO hx Mp s) w w') (hm : ∀ k, MO hx Mp' s' k → MO hx Mp s k ∨ w.heap.size ≤ k) :
    Duo w0 w' b h cx hx bd bo B Bp' Mp' st s' vd vo N' ∧ KpD w w' :=
  ⟨⟨(cw_onD d.cw d.cd d.ap o).mono hN, c, d.bel.trans (OnD.below d.cd o d.bel.size), fun hk => by
    rcases hm h hk with e | e
    · exact d.ap e
    · have := d.cw.mp.lt; omega⟩, kpD_of d.cd o⟩
def DuoC (w0 w : World) (b h cx hx bd bo : Nat) (Bp Mp : Int → Nat) (st : St) (s : List Pe) (N bd' bo' : Nat) (P : Value → Value → Prop) (w' : World) : Prop := ∃ B' vd' vo', P vd' vo' ∧ Duo w0 w' b h cx hx bd' bo' B' Bp Mp st s vd' vo' N ∧ KpC bd bo w w'
theorem duo_call (d : Duo w0 w b h cx hx bd bo B Bp Mp st s vd vo N) {wh now : Int} {body : ByteArray} (hn : st.du.length ≤ 1000000) (hN : N ≤ 900000) {r : Int × Int × St} (hr : callS st wh body now = r) :
    Calls Try.prog 30 #[.pointer (some ⟨b, 0, none⟩), .int .i64 wh, .string body, .int .i64 now] w fun e w' => e = .returned (.tuple #[.int .u64 r.1, .int .i64 r.2.1]) ∧ DuoC w0 w b h cx hx bd bo Bp Mp r.2.2 s (N + 1) bd bo (fun _ _ => True) w' := by
  refine (call_any d.cw (by omega) (by omega) hr).mono ?_
  rintro e w' ⟨rfl, B', vd', N', hc, hn', ho⟩
  have := d.onC (Nat.le_succ N) (hc.mono hn') ho
  exact ⟨rfl, _, _, _, trivial, this.1, this.2⟩
theorem duo_take (d : Duo w0 w b h cx hx bd bo B Bp Mp st s vd vo N) {fr : Int} {p : Pk} (hu : U64 p.seq) (hn : st.ov.length ≤ 1000000) {r : Bool × Int × St} (hr : takeS st fr p = r) :
    Calls Try.prog 36 #[.pointer (some ⟨b, 0, none⟩), .int .i64 fr, pv p] w fun e w' => e = .returned (.tuple #[.bool r.1, .int .i64 r.2.1]) ∧ DuoC w0 w b h cx hx bd bo Bp Mp r.2.2 s N bd bo (fun _ _ => True) w' := by
  refine (take_any d.cw hu (by omega) hr).mono ?_
  rintro e w' ⟨rfl, vo', hc, ho⟩
  have := d.onC (Nat.le_refl N) hc ho
  exact ⟨rfl, _, _, _, trivial, this.1, this.2⟩
theorem duo_tick (d : Duo w0 w b h cx hx bd bo B Bp Mp st s vd vo N) {now : Int} (hn : st.du.length ≤ 1000000 ∧ st.ov.length ≤ 1000000) {r : Int × St} (hr : tickS st now = r) :
    Calls Try.prog 28 #[.pointer (some ⟨b, 0, none⟩), .int .i64 now] w fun e w' => e = .returned (.int .i64 r.1) ∧ DuoC w0 w b h cx hx bd bo Bp Mp r.2 s N bd bo (fun _ _ => True) w' := by
  subst hr
  refine (tick_any d.cw hn).mono ?_
  rintro e w' ⟨rfl, vd', vo', hc, ho⟩
  have := d.onC (Nat.le_refl N) hc ho
  exact ⟨rfl, _, _, _, trivial, this.1, this.2⟩
theorem onC_b {B0 : Nat} (o : Only (· = b) w w') : OnC B0 b h bd bo w w' := o.mono fun k _ e => .inl e
theorem duo_due (d : Duo w0 w b h cx hx bd bo B Bp Mp st s vd vo N) :
    Calls Try.prog 31 #[.pointer (some ⟨b, 0, none⟩)] w fun e w' => e = .returned vd ∧ w'.ownsRow bd 101 2 vd st.du.length (rowsD st.du) ∧ (∀ g, vd.ownBlock = some g → g < w.heap.size) ∧ DuoC w0 w b h cx hx bd bo Bp Mp { st with du := [] } s N w.heap.size bo (fun _ v => v = vo) w' := by
  refine (due_any d.cw).mono ?_
  rintro e w' ⟨rfl, hc, hrow, ho⟩
  have := d.onC (Nat.le_refl N) hc (onC_b ho)
  exact ⟨rfl, hrow, fun g hg => by obtain ⟨A, hA, _⟩ := d.cw.du_ty hg; exact hA.lt, _, _, _, rfl, this.1, this.2⟩
theorem duo_ended (d : Duo w0 w b h cx hx bd bo B Bp Mp st s vd vo N) :
    Calls Try.prog 32 #[.pointer (some ⟨b, 0, none⟩)] w fun e w' => e = .returned vo ∧ w'.ownsRow bo 83 4 vo st.ov.length (rowsO st.ov) ∧ (∀ g, vo.ownBlock = some g → g < w.heap.size) ∧ DuoC w0 w b h cx hx bd bo Bp Mp { st with ov := [] } s N bd w.heap.size (fun v _ => v = vd) w' := by
  refine (ended_any d.cw).mono ?_
  rintro e w' ⟨rfl, hc, hrow, ho⟩
  have := d.onC (Nat.le_refl N) hc (onC_b ho)
  exact ⟨rfl, hrow, fun g hg => by obtain ⟨A, hA, _⟩ := d.cw.ov_ty hg; exact hA.lt, _, _, _, rfl, this.1, this.2⟩
def DuoD (w0 w : World) (b h cx hx bd bo : Nat) (B : Int → Nat) (st : St) (s : List Pe) (vd vo : Value) (N : Nat) (w' : World) : Prop := ∃ Bp' Mp', Duo w0 w' b h cx hx bd bo B Bp' Mp' st s vd vo N ∧ KpD w w'
theorem duo_dtake (d : Duo w0 w b h cx hx bd bo B Bp Mp st s vd vo N) {fr : Int} {p : Pk} (hu : U64 p.seq ∧ I64 fr) (hN : N ≤ 900000) {r : (Int × ByteArray × Int) × List Pe} (hr : takeD s fr p = r) :
    Calls Try.prog 18 #[.pointer (some ⟨cx, 0, none⟩), .int .i64 fr, pv p] w fun e w' => e = .returned (.tuple #[.int .u8 r.1.1, .string r.1.2.1, .int .i64 r.1.2.2]) ∧ DuoD w0 w b h cx hx bd bo B st r.2 vd vo (N + 2) w' := by
  refine (dtake_any d.cd hu hN hr).mono ?_
  rintro e w' ⟨rfl, B', M', N', hc, hn', ho, hm⟩
  have := d.onD (Nat.le_add_right N 2) (hc.mono hn') ho hm
  exact ⟨rfl, _, _, this.1, this.2⟩
theorem duo_ans (d : Duo w0 w b h cx hx bd bo B Bp Mp st s vd vo N) {fr inc sq : Int} {body : ByteArray} (hu : U64 sq ∧ I64 fr) (hN : N ≤ 900000) {r : (ByteArray × Int) × List Pe} (hr : ansD s fr inc sq body = r) :
    Calls Try.prog 16 #[.pointer (some ⟨cx, 0, none⟩), .int .i64 fr, .int .u64 inc, .int .u64 sq, .string body] w fun e w' => e = .returned (.tuple #[.string r.1.1, .int .i64 r.1.2]) ∧ DuoD w0 w b h cx hx bd bo B st r.2 vd vo (N + 2) w' := by
  refine (ans_any d.cd hu hN hr).mono ?_
  rintro e w' ⟨rfl, B', M', N', hc, hn', ho, hm⟩
  have := d.onD (Nat.le_add_right N 2) (hc.mono hn') ho hm
  exact ⟨rfl, _, _, this.1, this.2⟩
/-- Both made. -/
theorem duo_new {w1 w2 : World} {s0 : St} (h1 : NewCPost w w.heap.size s0 (.returned (.tuple #[.pointer (some ⟨b, 0, none⟩), .int .i64 0])) w1) (h2 : NewDPost w1 w.heap.size (.returned (.pointer (some ⟨cx, 0, none⟩))) w2) : ∃ h hx, Duo w w2 b h cx hx w.heap.size w.heap.size (fun _ => 0) (fun _ => 0) (fun _ => 0) s0 [] (.slice none 0 0) (.slice none 0 0) 0 := by
  obtain ⟨b', h, e, hc, hb⟩ := h1
  obtain ⟨c', hx, e2, hd, hb2, _, hxl⟩ := h2
  injection e with e
  injection e with e
  have e3 : #[Value.pointer (some ⟨b, 0, none⟩), .int .i64 0][0]? = #[Value.pointer (some ⟨b', 0, none⟩), .int .i64 0][0]? := by rw [e]
  have e4 : b = b' := by simpa using e3
  have e5 : cx = c' := by simpa using e2
  subst e4 e5
  refine ⟨h, hx, hc.below hb2, hd, hb.trans (hb2.mono hb.size), fun hk => ?_⟩
  rcases hk with e | ⟨p, hp, _⟩
  · have := hc.mp.lt; omega
  · cases hp
end
end Go.Proofs.Ytgdgonmhgpflcaa


/- The walk of the small run that each law asks ('works'). No condition. -/
namespace Go.Proofs.Ytgdgonmhgpflcaa
open Go.RowKit Go.Maps Wire Rp
set_option linter.unusedVariables false
set_option linter.unusedSimpArgs false
namespace Rp
def wP1 : Pk := ⟨false, 7, 1, ⟨#[97]⟩⟩
def wP2 : Pk := ⟨true, 7, 1, ⟨#[98]⟩⟩
def wT1 : ByteArray := pkS wP1
def wT2 : ByteArray := pkS wP2
def wS0 : St := ⟨7, 4, 16, 3, 0, [], [], []⟩
def wS1 : St := ⟨7, 4, 16, 3, 1, [⟨1, 2, ⟨#[97]⟩, 1, 4, 4⟩], [(2, wT1)], []⟩
def wS2 : St := ⟨7, 4, 16, 3, 1, [⟨1, 2, ⟨#[97]⟩, 1, 4, 4⟩], [], []⟩
def wS3 : St := ⟨7, 4, 16, 3, 1, [⟨1, 2, ⟨#[97]⟩, 2, 12, 8⟩], [(2, wT1)], []⟩
def wS4 : St := ⟨7, 4, 16, 3, 1, [⟨1, 2, ⟨#[97]⟩, 2, 12, 8⟩], [], []⟩
def wS5 : St := ⟨7, 4, 16, 3, 1, [], [], [⟨1, 2, ⟨#[98]⟩, 0⟩]⟩
def wS6 : St := ⟨7, 4, 16, 3, 1, [], [], []⟩
def wD1 : List Pe := [⟨1, 7, 0, [⟨1, false, ⟨#[]⟩⟩]⟩]
def wD2 : List Pe := [⟨1, 7, 0, [⟨1, true, ⟨#[98]⟩⟩]⟩]
theorem fw1 : callS wS0 2 ⟨#[97]⟩ 0 = (1, 0, wS1) := by kernel_rfl
theorem fw2 : tickS wS2 3 = (0, wS2) := by kernel_rfl
theorem fw3 : tickS wS2 4 = (0, wS3) := by kernel_rfl
theorem fw4 : takeS wS4 2 wP2 = (true, 0, wS5) := by kernel_rfl
theorem fw5 : takeD [] 1 wP1 = ((1, ⟨#[]⟩, 0), wD1) := by kernel_rfl
theorem fw6 : takeD wD1 1 wP1 = ((3, ⟨#[]⟩, 0), wD1) := by kernel_rfl
theorem fw7 : ansD wD1 1 7 1 ⟨#[98]⟩ = ((wT2, 0), wD2) := by kernel_rfl
theorem fw8 : takeD wD2 1 wP1 = ((2, wT2, 0), wD2) := by kernel_rfl
theorem fw9 : incD wD2 1 = 7 := by kernel_rfl
theorem wo1 : okP wT1 = true := by kernel_rfl
theorem wo2 : okP wT2 = true := by kernel_rfl
theorem wd1 : decP wT1 = wP1 := by kernel_rfl
theorem wd2 : decP wT2 = wP2 := by kernel_rfl
theorem ws1 : wT1.size ≤ maxLen := of_decide_eq_true (by kernel_rfl)
theorem ws2 : wT2.size ≤ maxLen := of_decide_eq_true (by kernel_rfl)
end Rp
theorem kpC_due {bd bo : Nat} {w w' : World} (k : KpC bd bo w w') {g : Nat} {A : Array Value} (h : Blk w g 101 A) (hg : g < bd) : Blk w' g 101 A := k.2 _ _ _ h (by decide) (by decide) (fun _ => hg) (fun e => absurd e (by decide))
theorem kpC_pk {bd bo : Nat} {w w' : World} (k : KpC bd bo w w') {g : Nat} {A : Array Value} (h : Blk w g 24 A) : Blk w' g 24 A := k.2 _ _ _ h (by decide) (by decide) (fun e => absurd e (by decide)) (fun e => absurd e (by decide))
theorem kpD_pk {w w' : World} (k : KpD w w') {g : Nat} {A : Array Value} (h : Blk w g 24 A) : Blk w' g 24 A := k.2 _ _ _ h (by decide)
theorem dec1 (w : World) : Calls Try.prog 11 #[.string wT1] w fun e w' => e = .returned (.tuple #[.agg #[.bool false, .int .u64 7, .int .u64 1, .string ⟨#[97]⟩], .int .i64 0]) ∧ Below w.heap.size w w' :=
  (pdec_any wT1 ws1 (k := 0) (by rw [wo1]; rfl) w).mono fun e w' h => by unfold DcPost at h; rw [wd1] at h; exact h
theorem dec2 (w : World) : Calls Try.prog 11 #[.string wT2] w fun e w' => e = .returned (.tuple #[.agg #[.bool true, .int .u64 7, .int .u64 1, .string ⟨#[98]⟩], .int .i64 0]) ∧ Below w.heap.size w w' :=
  (pdec_any wT2 ws2 (k := 0) (by rw [wo2]; rfl) w).mono fun e w' h => by unfold DcPost at h; rw [wd2] at h; exact h
set_option maxRecDepth 100000 in
set_option maxHeartbeats 8000000 in
theorem works_t (w0 : World) : Calls Try.prog 9 #[] w0 fun e w' => e = .returned (.bool true) ∧ Below w0.heap.size w0 w' := by
  have HN1 := Lib.hid (newc_any (inc := 7) (wait := 4) (most := 16) (tries := 3) (by kernel_rfl) w0 (Nat.le_refl _))
  go_enter Try.func9, Try.ntmps9
  go_upto_region 2 with (go_at_call 29; go_loud ((with_reducible refine HN1.out.mono ?_); rintro e w1 ⟨b, h, rfl, hc, hb⟩; have H1 := Lib.hid (show NewCPost w0 w0.heap.size wS0 (.returned (.tuple #[.pointer (some ⟨b, 0, none⟩), .int .i64 0])) w1 from ⟨b, h, rfl, hc, hb⟩); have HN2 := Lib.hid (newd_any w1 (B0 := w0.heap.size) hb.size); clear hc hb h))
  go_upto_region 5 with (go_at_call 15; go_loud ((with_reducible refine HN2.out.mono ?_); rintro e w2 ⟨cx, hx, rfl, hd⟩; have HD := Lib.hid (duo_new H1.out (show NewDPost w1 w0.heap.size (.returned (.pointer (some ⟨cx, 0, none⟩))) w2 from ⟨cx, hx, rfl, hd⟩)); clear hd hx))
  obtain ⟨h, hx, hd⟩ := HD.out
  have HD0 := Lib.hid hd
  clear hd HD H1 HN1 HN2
  go_upto_region 6 with (go_at_call 30; go_loud ((with_reducible refine Calls.mono (duo_call HD0.out (by decide) (by decide) fw1) ?_); rintro e w3 ⟨rfl, Bq, vdq, voq, _, hd, hk⟩; have HD := Lib.hid hd; have HK := Lib.hid hk; clear hd hk))
  have HD3 := HD
  clear HD HK HD0
  go_upto_region 7 with (go_at_call 31; go_loud ((with_reducible refine Calls.mono (duo_due HD3.out) ?_); rintro e w4 ⟨rfl, hrow, hlt, Bq, vdq, voq, rfl, hd, hk⟩; have HD := Lib.hid hd; have HK := Lib.hid hk; have HR := Lib.hid hrow; have HLT := Lib.hid hlt; clear hd hk hrow hlt))
  obtain ⟨ga, ca, curA, rfl, _, ba, hca⟩ := owns_blk HR.out (by decide)
  rw [show wS1.du.length = 1 from rfl]
  have HA := Lib.hid (And.intro ba (HLT.out ga rfl))
  have ca0 : curA[0]? = some (.int .i64 2) := hca 0 (by decide)
  have ca1 : curA[1]? = some (.string wT1) := hca 1 (by decide)
  have HCA := Lib.hid (And.intro ca0 ca1)
  have HD4 := HD
  clear HD HK HD3 HR HLT ba hca ca0 ca1
  dsimp only [wS1] at HD4
  go_upto_region 8 with (go_at_call 28; go_loud ((with_reducible refine Calls.mono (duo_tick HD4.out (st := wS2) (by decide) fw2) ?_); rintro e w5 ⟨rfl, Bq, vdq, voq, _, hd, hk⟩; have HD := Lib.hid hd; have HK := Lib.hid hk; clear hd hk))
  have HA5 := Lib.hid (And.intro (kpC_due HK.out HA.out.1 HA.out.2) HA.out.2)
  have HD5 := HD
  clear HD HK HD4 HA
  go_upto_region 9 with (go_at_call 31; go_loud ((with_reducible refine Calls.mono (duo_due HD5.out) ?_); rintro e w6 ⟨rfl, hrow, hlt, Bq, vdq, voq, rfl, hd, hk⟩; have HD := Lib.hid hd; have HK := Lib.hid hk; have HR := Lib.hid hrow; have HLT := Lib.hid hlt; clear hd hk hrow hlt))
  obtain ⟨pb, cb, rfl⟩ := owns_slice HR.out
  have HA6 := Lib.hid (And.intro (kpC_due HK.out HA5.out.1 HA5.out.2) (Nat.lt_of_lt_of_le HA5.out.2 HD5.out.cw.sz.1))
  have HD6 := HD
  clear HD HK HD5 HA5 HR HLT
  rw [show wS2.du.length = 0 from rfl]
  go_upto_region 10 with (go_at_call 28; go_loud ((with_reducible refine Calls.mono (duo_tick HD6.out (st := wS2) (by decide) fw3) ?_); rintro e w7 ⟨rfl, Bq, vdq, voq, _, hd, hk⟩; have HD := Lib.hid hd; have HK := Lib.hid hk; clear hd hk))
  have HA7 := Lib.hid (And.intro (kpC_due HK.out HA6.out.1 HA6.out.2) HA6.out.2)
  have HD7 := HD
  clear HD HK HD6 HA6
  go_upto_region 11 with (go_at_call 31; go_loud ((with_reducible refine Calls.mono (duo_due HD7.out) ?_); rintro e w8 ⟨rfl, hrow, hlt, Bq, vdq, voq, rfl, hd, hk⟩; have HD := Lib.hid hd; have HK := Lib.hid hk; have HR := Lib.hid hrow; have HLT := Lib.hid hlt; clear hd hk hrow hlt))
  obtain ⟨gd, cd, curD, rfl, _, bd, hcd⟩ := owns_blk HR.out (by decide)
  rw [show wS3.du.length = 1 from rfl]
  have ba := kpC_due HK.out HA7.out.1 HA7.out.2
  have a0 : w8.cell? ⟨ga, 0, none⟩ = some (.int .i64 2) := by rw [ba.cell 0]; exact HCA.out.1
  have a1 : w8.cell? ⟨ga, 1, none⟩ = some (.string wT1) := by rw [ba.cell 1]; exact HCA.out.2
  have d0 : w8.cell? ⟨gd, 0, none⟩ = some (.int .i64 2) := by rw [bd.cell 0]; exact hcd 0 (by decide)
  have d1 : w8.cell? ⟨gd, 1, none⟩ = some (.string wT1) := by rw [bd.cell 1]; exact hcd 1 (by decide)
  have HD8 := HD
  clear HD HK HD7 HA7 HR HLT hcd bd HCA ba
  dsimp only [wS3] at HD8
  go_quiet (fail)
  have HD9 := Lib.hid (HD8.out.below (drewN_below' _ nq))
  have a1 : (w8.drewN nq).cell? ⟨ga, 1, none⟩ = some (.string wT1) := a1
  clear a0 d0 d1 HD8
  generalize w8.drewN nq = w9 at *
  have HE1 := Lib.hid (dec1 w9)
  go_upto_region 14 with (go_at_call 11; go_loud ((with_reducible refine HE1.out.mono ?_); rintro e w10 ⟨rfl, hb⟩; have HB := Lib.hid hb; clear hb))
  have HD10 := Lib.hid ((HD9.out.below HB.out).alloc (.cells #[.bool false, .int .u64 7, .int .u64 1, .string ⟨#[97]⟩] 24))
  have HP10 := Lib.hid (Blk.new w10 24 #[.bool false, .int .u64 7, .int .u64 1, .string ⟨#[97]⟩])
  clear HE1 HD9 HB a1
  generalize w10.alloc (.cells #[.bool false, .int .u64 7, .int .u64 1, .string ⟨#[97]⟩] 24) = w11 at *
  generalize w10.heap.size = X1 at *
  have x0 : w11.cell? ⟨X1, 0, none⟩ = some (.bool false) := by rw [HP10.out.cell 0]; rfl
  have x1 : w11.cell? ⟨X1, 1, none⟩ = some (.int .u64 7) := by rw [HP10.out.cell 1]; rfl
  have x2 : w11.cell? ⟨X1, 2, none⟩ = some (.int .u64 1) := by rw [HP10.out.cell 2]; rfl
  have x3 : w11.cell? ⟨X1, 3, none⟩ = some (.string ⟨#[97]⟩) := by rw [HP10.out.cell 3]; rfl
  have HT := Lib.hid (duo_dtake HD10.out (p := wP1) (fr := 1) ⟨by unfold U64; decide, by unfold I64; decide⟩ (by decide) fw5)
  unfold pv pcells wP1 at HT
  dsimp only at HT
  go_upto_region 15 with (go_at_call 18; go_loud ((with_reducible refine Calls.mono HT.out ?_); rintro e w12 ⟨rfl, Bpq, Mpq, hd, hk⟩; have HD := Lib.hid hd; have HK := Lib.hid hk; clear hd hk))
  have HP12 := Lib.hid (kpD_pk HK.out HP10.out)
  have HD12 := HD
  clear HD HK HD10 HP10 HT x0 x1 x2 x3
  have x0 : w12.cell? ⟨X1, 0, none⟩ = some (.bool false) := by rw [HP12.out.cell 0]; rfl
  have x1 : w12.cell? ⟨X1, 1, none⟩ = some (.int .u64 7) := by rw [HP12.out.cell 1]; rfl
  have x2 : w12.cell? ⟨X1, 2, none⟩ = some (.int .u64 1) := by rw [HP12.out.cell 2]; rfl
  have x3 : w12.cell? ⟨X1, 3, none⟩ = some (.string ⟨#[97]⟩) := by rw [HP12.out.cell 3]; rfl
  have HT := Lib.hid (duo_dtake HD12.out (p := wP1) (fr := 1) ⟨by unfold U64; decide, by unfold I64; decide⟩ (by decide) fw6)
  unfold pv pcells wP1 at HT
  dsimp only at HT
  go_upto_region 16 with (go_at_call 18; go_loud ((with_reducible refine Calls.mono HT.out ?_); rintro e w13 ⟨rfl, Bpq, Mpq, hd, hk⟩; have HD := Lib.hid hd; have HK := Lib.hid hk; clear hd hk))
  have HP13 := Lib.hid (kpD_pk HK.out HP12.out)
  have HD13 := HD
  clear HD HK HD12 HP12 HT x0 x1 x2 x3
  have HT := Lib.hid (duo_ans HD13.out (fr := 1) (inc := 7) (sq := 1) (body := ⟨#[98]⟩) ⟨by unfold U64; decide, by unfold I64; decide⟩ (by decide) fw7)
  go_upto_region 17 with (go_at_call 16; go_loud ((with_reducible refine Calls.mono HT.out ?_); rintro e w14 ⟨rfl, Bpq, Mpq, hd, hk⟩; have HD := Lib.hid hd; have HK := Lib.hid hk; clear hd hk))
  have HP14 := Lib.hid (kpD_pk HK.out HP13.out)
  have HD14 := HD
  clear HD HK HD13 HP13 HT
  have x0 : w14.cell? ⟨X1, 0, none⟩ = some (.bool false) := by rw [HP14.out.cell 0]; rfl
  have x1 : w14.cell? ⟨X1, 1, none⟩ = some (.int .u64 7) := by rw [HP14.out.cell 1]; rfl
  have x2 : w14.cell? ⟨X1, 2, none⟩ = some (.int .u64 1) := by rw [HP14.out.cell 2]; rfl
  have x3 : w14.cell? ⟨X1, 3, none⟩ = some (.string ⟨#[97]⟩) := by rw [HP14.out.cell 3]; rfl
  have HT := Lib.hid (duo_dtake HD14.out (p := wP1) (fr := 1) ⟨by unfold U64; decide, by unfold I64; decide⟩ (by decide) fw8)
  unfold pv pcells wP1 at HT
  dsimp only at HT
  go_upto_region 18 with (go_at_call 18; go_loud ((with_reducible refine Calls.mono HT.out ?_); rintro e w15 ⟨rfl, Bpq, Mpq, hd, hk⟩; have HD := Lib.hid hd; have HK := Lib.hid hk; clear hd hk))
  have HD15 := HD
  clear HD HK HD14 HP14 HT x0 x1 x2 x3
  have HE1 := Lib.hid (dec2 w15)
  go_upto_region 19 with (go_at_call 11; go_loud ((with_reducible refine HE1.out.mono ?_); rintro e w16 ⟨rfl, hb⟩; have HB := Lib.hid hb; clear hb))
  have HD16 := Lib.hid ((HD15.out.below HB.out).alloc (.cells #[.bool true, .int .u64 7, .int .u64 1, .string ⟨#[98]⟩] 24))
  have HP16 := Lib.hid (Blk.new w16 24 #[.bool true, .int .u64 7, .int .u64 1, .string ⟨#[98]⟩])
  clear HE1 HD15 HB
  generalize w16.alloc (.cells #[.bool true, .int .u64 7, .int .u64 1, .string ⟨#[98]⟩] 24) = w17 at *
  generalize w16.heap.size = X2 at *
  have x0 : w17.cell? ⟨X2, 0, none⟩ = some (.bool true) := by rw [HP16.out.cell 0]; rfl
  have x1 : w17.cell? ⟨X2, 1, none⟩ = some (.int .u64 7) := by rw [HP16.out.cell 1]; rfl
  have x2 : w17.cell? ⟨X2, 2, none⟩ = some (.int .u64 1) := by rw [HP16.out.cell 2]; rfl
  have x3 : w17.cell? ⟨X2, 3, none⟩ = some (.string ⟨#[98]⟩) := by rw [HP16.out.cell 3]; rfl
  have HT := Lib.hid (duo_take HD16.out (st := wS4) (p := wP2) (fr := 2) (by unfold U64; decide) (by decide) fw4)
  unfold pv pcells wP2 at HT
  dsimp only at HT
  go_upto_region 20 with (go_at_call 36; go_loud ((with_reducible refine Calls.mono HT.out ?_); rintro e w18 ⟨rfl, Bq, vdq, voq, _, hd, hk⟩; have HD := Lib.hid hd; have HK := Lib.hid hk; clear hd hk))
  have HD18 := HD
  clear HD HK HD16 HP16 HT x0 x1 x2 x3
  have HT := Lib.hid (duo_ended HD18.out)
  go_upto_region 21 with (go_at_call 32; go_loud ((with_reducible refine HT.out.mono ?_); rintro e w19 ⟨rfl, hrow, hlt, Bq, vdq, voq, rfl, hd, hk⟩; have HD := Lib.hid hd; have HR := Lib.hid hrow; clear hd hk hrow hlt))
  obtain ⟨gr, cr, curR, rfl, _, br, hcr⟩ := owns_blk HR.out (by decide)
  rw [show wS5.ov.length = 1 from rfl]
  have r0 : w19.cell? ⟨gr, 0, none⟩ = some (.int .u64 1) := by rw [br.cell 0]; exact hcr 0 (by decide)
  have r1 : w19.cell? ⟨gr, 1, none⟩ = some (.int .i64 2) := by rw [br.cell 1]; exact hcr 1 (by decide)
  have r2 : w19.cell? ⟨gr, 2, none⟩ = some (.string ⟨#[98]⟩) := by rw [br.cell 2]; exact hcr 2 (by decide)
  have r3 : w19.cell? ⟨gr, 3, none⟩ = some (.int .i64 0) := by rw [br.cell 3]; exact hcr 3 (by decide)
  have HIN := Lib.hid (inc_any HD.out.cd (fr := 1) (by unfold I64; decide))
  rw [fw9] at HIN
  have HCL := Lib.hid (calls_any HD.out.cw)
  have HB := Lib.hid HD.out.bel
  clear HD HD18 HR HT hcr br
  go_wp2_with (first
    | (go_at_call 20; go_loud ((with_reducible refine HIN.out.mono ?_); rintro e w20 ⟨rfl, rfl⟩))
    | (go_at_call 24; go_loud ((with_reducible refine HCL.out.mono ?_); rintro e w21 ⟨v, rfl, hrow, hb⟩; obtain ⟨pv, cv, rfl⟩ := owns_slice hrow; have HB21 := Lib.hid hb; clear hrow hb)))
  go_ret
  exact ⟨rfl, HB.out.trans (HB21.out.mono HB.out.size)⟩
end Go.Proofs.Ytgdgonmhgpflcaa


/- The walk of RpcBytes: packets' bytes. No condition but that numbers and texts fit their types. -/
namespace Go.Proofs.Ytgdgonmhgpflcaa
open Go.RowKit Wire Rp
set_option linter.unusedVariables false
set_option linter.unusedSimpArgs false
theorem pkS_len {p : Pk} (h : mayP p = true) : (pkS p).size ≤ maxLen := by
  have hm := mayP_of h
  unfold pkS
  have s1 := bool_size p.an
  have s2 := lebS_size hm.1.2
  have s3 := lebS_size hm.2.1.2
  have s4 := text_size hm.2.2
  have e1 : (boolS p.an ++ Num.lebS p.inc ++ Num.lebS p.seq ++ textS p.body).size = (boolS p.an).size + (Num.lebS p.inc).size + (Num.lebS p.seq).size + (textS p.body).size := by simp [ByteArray.size_append]
  rw [e1]
  unfold maxLen
  omega
set_option maxRecDepth 100000 in
set_option maxHeartbeats 4000000 in
theorem bytes_t (p : Pk) (b : ByteArray) (hi : U64 p.inc) (hs : U64 p.seq) (hpb : p.body.size ≤ maxLen) (hb : b.size ≤ maxLen) (w : World) : Calls Try.prog 3 #[pv p, .string b] w fun e w' => e = .returned (.bool true) ∧ Below w.heap.size w w' := by
  by_cases hbig : (32768 : Int) < wrap64 ((p.body.size : Int) + (b.size : Int))
  · have hbig' := hbig
    have HB0 : Hid (Below w.heap.size w (w.alloc (.cells (pcells p) 24))) := Lib.hid ((Below.refl _ _).alloc (Nat.le_refl _) _)
    clear hbig hi hs hb hpb
    obtain ⟨an, inc, sq, body⟩ := p
    unfold pv pcells at *
    dsimp only at hbig' HB0
    go_enter Try.func3, Try.ntmps3
    go_wp2_with (go_at_call 9; go_loud ((with_reducible refine Calls.mono (works_t _) ?_); rintro e wz ⟨rfl, hbw⟩; have HBW := Lib.hid (HB0.out.trans (hbw.mono HB0.out.size)); clear hbw))
    go_ret
    exact ⟨rfl, HBW.out⟩
  · have hbig' := hbig
    have HEN := Lib.hid (fun w => penc_any p w)
    have HDC := Lib.hid (fun (k : Int) (hk : (if okP b then 0 else 8) = k) w => pdec_any b hb hk w)
    have HOF := Lib.hid (fun (k : Bool) (hk : okP b = k) w => rof_any b hb hk w)
    have HMY := Lib.hid (fun w => rmay_any p w)
    have HBY := Lib.hid (fun (h : p.body.size ≤ 1048576) w => rbytes_any p hi hs h w)
    have HX := Lib.hid (Blk.new w 24 (pcells p))
    have HB0 : Hid (Below w.heap.size w (w.alloc (.cells (pcells p) 24))) := Lib.hid ((Below.refl _ _).alloc (Nat.le_refl _) _)
    unfold EnPost at HEN
    unfold DcPost at HDC HOF
    have HBS : Hid (mayP p = true → p.body.size ≤ 1048576) := Lib.hid (fun h => (mayP_of h).2.2)
    have HRT : Hid (mayP p = true → okP (pkS p) = true ∧ decP (pkS p) = p ∧ (pkS p).size ≤ maxLen) := Lib.hid fun h => ⟨(dec_enc h).1, (dec_enc h).2, pkS_len h⟩
    have HDT := Lib.hid (fun (h : mayP p = true) w => by
      have := pdec_any (pkS p) (pkS_len h) (k := 0) (by rw [(dec_enc h).1]; rfl) w
      unfold DcPost at this
      rw [(dec_enc h).2] at this
      exact this)
    clear hbig hi hs hb hpb
    generalize hd : decP b = d at *
    cases hok : okP b with
    | true =>
      have HD1 := Lib.hid (HDC.out 0 (by rw [hok]; rfl))
      have HO1 := Lib.hid (HOF.out true hok)
      clear HDC HOF hok hd
      cases hm : mayP p with
      | true =>
        simp only [hm] at HEN HMY
        have HDT1 := Lib.hid (HDT.out hm)
        have HBY1 := Lib.hid (HBY.out (HBS.out hm))
        clear HRT HDT HBY hm HBS
        generalize pkS p = T at *
        obtain ⟨an, inc, sq, body⟩ := p
        obtain ⟨dan, dinc, dsq, dbody⟩ := d
        unfold pv pcells at *
        dsimp only at *
        go_enter Try.func3, Try.ntmps3
        go_upto_region 3 with fail
        obtain ⟨Q, hQ⟩ : ∃ Q, w.heap.size = Q := ⟨_, rfl⟩
        rw [hQ] at HX
        rw [hQ]
        have HQ := Lib.hid hQ
        clear hQ
        generalize w.alloc (.cells #[.bool an, .int .u64 inc, .int .u64 sq, .string body] 24) = w1 at *
        have y0 : w1.cell? ⟨Q, 0, none⟩ = some (.bool an) := by rw [HX.out.cell 0]; rfl
        have y1 : w1.cell? ⟨Q, 1, none⟩ = some (.int .u64 inc) := by rw [HX.out.cell 1]; rfl
        have y2 : w1.cell? ⟨Q, 2, none⟩ = some (.int .u64 sq) := by rw [HX.out.cell 2]; rfl
        have y3 : w1.cell? ⟨Q, 3, none⟩ = some (.string body) := by rw [HX.out.cell 3]; rfl
        go_upto_region 4 with (go_at_call 10; go_loud ((with_reducible refine (HEN.out _).mono ?_); rintro e w2 ⟨rfl, hb⟩; have HB2 := Lib.hid (HB0.out.step hb); have HX2 := Lib.hid (HX.out.below hb); clear hb))
        clear y0 y1 y2 y3 HX HB0
        go_upto_region 5 with (go_at_call 11; go_loud ((with_reducible refine (HD1.out _).mono ?_); rintro e w3 ⟨rfl, hb⟩; have HB3 := Lib.hid (HB2.out.step hb); have HX3 := Lib.hid (HX2.out.below hb); clear hb))
        have HA := Lib.hid (Blk.new w3 24 #[.bool dan, .int .u64 dinc, .int .u64 dsq, .string dbody])
        have HX4 := Lib.hid (HX3.out.alloc (.cells #[.bool dan, .int .u64 dinc, .int .u64 dsq, .string dbody] 24))
        have HB4 := Lib.hid (HB3.out.alloc HB3.out.size (.cells #[.bool dan, .int .u64 dinc, .int .u64 dsq, .string dbody] 24))
        clear HX2 HB2 HX3 HB3 HD1
        generalize w3.alloc (.cells #[.bool dan, .int .u64 dinc, .int .u64 dsq, .string dbody] 24) = w4 at *
        generalize w3.heap.size = D1 at *
        go_upto_region 6 with (go_at_call 12; go_loud ((with_reducible refine (HO1.out _).mono ?_); rintro e w5 ⟨rfl, hb⟩; have HB5 := Lib.hid (HB4.out.step hb); have HX5 := Lib.hid (HX4.out.below hb); have HA5 := Lib.hid (HA.out.below hb); clear hb))
        have HE := Lib.hid (Blk.new w5 24 #[.bool dan, .int .u64 dinc, .int .u64 dsq, .string dbody])
        have HX6 := Lib.hid (HX5.out.alloc (.cells #[.bool dan, .int .u64 dinc, .int .u64 dsq, .string dbody] 24))
        have HA6 := Lib.hid (HA5.out.alloc (.cells #[.bool dan, .int .u64 dinc, .int .u64 dsq, .string dbody] 24))
        have HB6 := Lib.hid (HB5.out.alloc HB5.out.size (.cells #[.bool dan, .int .u64 dinc, .int .u64 dsq, .string dbody] 24))
        clear HX4 HB4 HX5 HB5 HO1 HA HA5
        generalize w5.alloc (.cells #[.bool dan, .int .u64 dinc, .int .u64 dsq, .string dbody] 24) = w6 at *
        generalize w5.heap.size = D2 at *
        have y0 : w6.cell? ⟨Q, 0, none⟩ = some (.bool an) := by rw [HX6.out.cell 0]; rfl
        have y1 : w6.cell? ⟨Q, 1, none⟩ = some (.int .u64 inc) := by rw [HX6.out.cell 1]; rfl
        have y2 : w6.cell? ⟨Q, 2, none⟩ = some (.int .u64 sq) := by rw [HX6.out.cell 2]; rfl
        have y3 : w6.cell? ⟨Q, 3, none⟩ = some (.string body) := by rw [HX6.out.cell 3]; rfl
        have a0 : w6.cell? ⟨D1, 0, none⟩ = some (.bool dan) := by rw [HA6.out.cell 0]; rfl
        have a1 : w6.cell? ⟨D1, 1, none⟩ = some (.int .u64 dinc) := by rw [HA6.out.cell 1]; rfl
        have a2 : w6.cell? ⟨D1, 2, none⟩ = some (.int .u64 dsq) := by rw [HA6.out.cell 2]; rfl
        have a3 : w6.cell? ⟨D1, 3, none⟩ = some (.string dbody) := by rw [HA6.out.cell 3]; rfl
        have e0 : w6.cell? ⟨D2, 0, none⟩ = some (.bool dan) := by rw [HE.out.cell 0]; rfl
        have e1 : w6.cell? ⟨D2, 1, none⟩ = some (.int .u64 dinc) := by rw [HE.out.cell 1]; rfl
        have e2 : w6.cell? ⟨D2, 2, none⟩ = some (.int .u64 dsq) := by rw [HE.out.cell 2]; rfl
        have e3 : w6.cell? ⟨D2, 3, none⟩ = some (.string dbody) := by rw [HE.out.cell 3]; rfl
        go_upto_region 10 with (go_at_call 13; go_loud ((with_reducible refine (HMY.out _).mono ?_); rintro e w8 ⟨rfl, hb⟩; have HB8 := Lib.hid (HB6.out.step hb); have HX8 := Lib.hid (HX6.out.below hb); clear hb))
        clear a0 a1 a2 a3 e0 e1 e2 e3
        go_upto_region 11 with (go_at_call 11; go_loud ((with_reducible refine (HDT1.out _).mono ?_); rintro e w9 ⟨rfl, hb⟩; have HB9 := Lib.hid (HB8.out.step hb); have HX9 := Lib.hid (HX8.out.below hb); clear hb))
        have HF := Lib.hid (Blk.new w9 24 #[.bool an, .int .u64 inc, .int .u64 sq, .string body])
        have HX10 := Lib.hid (HX9.out.alloc (.cells #[.bool an, .int .u64 inc, .int .u64 sq, .string body] 24))
        have HB10 := Lib.hid (HB9.out.alloc HB9.out.size (.cells #[.bool an, .int .u64 inc, .int .u64 sq, .string body] 24))
        generalize w9.alloc (.cells #[.bool an, .int .u64 inc, .int .u64 sq, .string body] 24) = w10 at *
        generalize w9.heap.size = D3 at *
        have y0 : w10.cell? ⟨Q, 0, none⟩ = some (.bool an) := by rw [HX10.out.cell 0]; rfl
        have y1 : w10.cell? ⟨Q, 1, none⟩ = some (.int .u64 inc) := by rw [HX10.out.cell 1]; rfl
        have y2 : w10.cell? ⟨Q, 2, none⟩ = some (.int .u64 sq) := by rw [HX10.out.cell 2]; rfl
        have y3 : w10.cell? ⟨Q, 3, none⟩ = some (.string body) := by rw [HX10.out.cell 3]; rfl
        go_wp2_with (first
          | (go_at_call 14; go_loud ((with_reducible refine (HBY1.out _).mono ?_); rintro e w11 ⟨rfl, hb⟩; have HB11 := Lib.hid (HB10.out.step hb); have HX11 := Lib.hid (HX10.out.below hb); have HF11 := Lib.hid (HF.out.below hb); clear hb y0 y1 y2 y3; have y0 : w11.cell? ⟨Q, 0, none⟩ = some (.bool an) := (by rw [HX11.out.cell 0]; rfl); have y1 : w11.cell? ⟨Q, 1, none⟩ = some (.int .u64 inc) := (by rw [HX11.out.cell 1]; rfl); have y2 : w11.cell? ⟨Q, 2, none⟩ = some (.int .u64 sq) := (by rw [HX11.out.cell 2]; rfl); have y3 : w11.cell? ⟨Q, 3, none⟩ = some (.string body) := (by rw [HX11.out.cell 3]; rfl); have f0 : w11.cell? ⟨D3, 0, none⟩ = some (.bool an) := (by rw [HF11.out.cell 0]; rfl); have f1 : w11.cell? ⟨D3, 1, none⟩ = some (.int .u64 inc) := (by rw [HF11.out.cell 1]; rfl); have f2 : w11.cell? ⟨D3, 2, none⟩ = some (.int .u64 sq) := (by rw [HF11.out.cell 2]; rfl); have f3 : w11.cell? ⟨D3, 3, none⟩ = some (.string body) := (by rw [HF11.out.cell 3]; rfl)))
          | (go_at_call 9; go_loud ((with_reducible refine Calls.mono (works_t _) ?_); rintro e wz ⟨rfl, hbw⟩; have HBW := Lib.hid (HB11.out.trans (hbw.mono HB11.out.size)); clear hbw)))
        go_ret
        exact ⟨rfl, HBW.out⟩
      | false =>
        simp only [hm] at HEN HMY
        clear HRT HDT HBY hm HBS
        generalize pkS p = T at *
        obtain ⟨an, inc, sq, body⟩ := p
        obtain ⟨dan, dinc, dsq, dbody⟩ := d
        unfold pv pcells at *
        dsimp only at *
        go_enter Try.func3, Try.ntmps3
        go_upto_region 3 with fail
        obtain ⟨Q, hQ⟩ : ∃ Q, w.heap.size = Q := ⟨_, rfl⟩
        rw [hQ] at HX
        rw [hQ]
        have HQ := Lib.hid hQ
        clear hQ
        generalize w.alloc (.cells #[.bool an, .int .u64 inc, .int .u64 sq, .string body] 24) = w1 at *
        have y0 : w1.cell? ⟨Q, 0, none⟩ = some (.bool an) := by rw [HX.out.cell 0]; rfl
        have y1 : w1.cell? ⟨Q, 1, none⟩ = some (.int .u64 inc) := by rw [HX.out.cell 1]; rfl
        have y2 : w1.cell? ⟨Q, 2, none⟩ = some (.int .u64 sq) := by rw [HX.out.cell 2]; rfl
        have y3 : w1.cell? ⟨Q, 3, none⟩ = some (.string body) := by rw [HX.out.cell 3]; rfl
        go_upto_region 4 with (go_at_call 10; go_loud ((with_reducible refine (HEN.out _).mono ?_); rintro e w2 ⟨rfl, hb⟩; have HB2 := Lib.hid (HB0.out.step hb); have HX2 := Lib.hid (HX.out.below hb); clear hb))
        clear y0 y1 y2 y3 HX HB0
        go_upto_region 5 with (go_at_call 11; go_loud ((with_reducible refine (HD1.out _).mono ?_); rintro e w3 ⟨rfl, hb⟩; have HB3 := Lib.hid (HB2.out.step hb); have HX3 := Lib.hid (HX2.out.below hb); clear hb))
        have HA := Lib.hid (Blk.new w3 24 #[.bool dan, .int .u64 dinc, .int .u64 dsq, .string dbody])
        have HX4 := Lib.hid (HX3.out.alloc (.cells #[.bool dan, .int .u64 dinc, .int .u64 dsq, .string dbody] 24))
        have HB4 := Lib.hid (HB3.out.alloc HB3.out.size (.cells #[.bool dan, .int .u64 dinc, .int .u64 dsq, .string dbody] 24))
        clear HX2 HB2 HX3 HB3 HD1
        generalize w3.alloc (.cells #[.bool dan, .int .u64 dinc, .int .u64 dsq, .string dbody] 24) = w4 at *
        generalize w3.heap.size = D1 at *
        go_upto_region 6 with (go_at_call 12; go_loud ((with_reducible refine (HO1.out _).mono ?_); rintro e w5 ⟨rfl, hb⟩; have HB5 := Lib.hid (HB4.out.step hb); have HX5 := Lib.hid (HX4.out.below hb); have HA5 := Lib.hid (HA.out.below hb); clear hb))
        have HE := Lib.hid (Blk.new w5 24 #[.bool dan, .int .u64 dinc, .int .u64 dsq, .string dbody])
        have HX6 := Lib.hid (HX5.out.alloc (.cells #[.bool dan, .int .u64 dinc, .int .u64 dsq, .string dbody] 24))
        have HA6 := Lib.hid (HA5.out.alloc (.cells #[.bool dan, .int .u64 dinc, .int .u64 dsq, .string dbody] 24))
        have HB6 := Lib.hid (HB5.out.alloc HB5.out.size (.cells #[.bool dan, .int .u64 dinc, .int .u64 dsq, .string dbody] 24))
        clear HX4 HB4 HX5 HB5 HO1 HA HA5
        generalize w5.alloc (.cells #[.bool dan, .int .u64 dinc, .int .u64 dsq, .string dbody] 24) = w6 at *
        generalize w5.heap.size = D2 at *
        have y0 : w6.cell? ⟨Q, 0, none⟩ = some (.bool an) := by rw [HX6.out.cell 0]; rfl
        have y1 : w6.cell? ⟨Q, 1, none⟩ = some (.int .u64 inc) := by rw [HX6.out.cell 1]; rfl
        have y2 : w6.cell? ⟨Q, 2, none⟩ = some (.int .u64 sq) := by rw [HX6.out.cell 2]; rfl
        have y3 : w6.cell? ⟨Q, 3, none⟩ = some (.string body) := by rw [HX6.out.cell 3]; rfl
        have a0 : w6.cell? ⟨D1, 0, none⟩ = some (.bool dan) := by rw [HA6.out.cell 0]; rfl
        have a1 : w6.cell? ⟨D1, 1, none⟩ = some (.int .u64 dinc) := by rw [HA6.out.cell 1]; rfl
        have a2 : w6.cell? ⟨D1, 2, none⟩ = some (.int .u64 dsq) := by rw [HA6.out.cell 2]; rfl
        have a3 : w6.cell? ⟨D1, 3, none⟩ = some (.string dbody) := by rw [HA6.out.cell 3]; rfl
        have e0 : w6.cell? ⟨D2, 0, none⟩ = some (.bool dan) := by rw [HE.out.cell 0]; rfl
        have e1 : w6.cell? ⟨D2, 1, none⟩ = some (.int .u64 dinc) := by rw [HE.out.cell 1]; rfl
        have e2 : w6.cell? ⟨D2, 2, none⟩ = some (.int .u64 dsq) := by rw [HE.out.cell 2]; rfl
        have e3 : w6.cell? ⟨D2, 3, none⟩ = some (.string dbody) := by rw [HE.out.cell 3]; rfl
        go_wp2_with (first | (go_at_call 13; go_loud ((with_reducible refine (HMY.out _).mono ?_); rintro e w8 ⟨rfl, hb⟩; have HB8 := Lib.hid (HB6.out.step hb); have HX8 := Lib.hid (HX6.out.below hb); clear hb)) | (go_at_call 9; go_loud ((with_reducible refine Calls.mono (works_t _) ?_); rintro e wz ⟨rfl, hbw⟩; have HBW := Lib.hid (HB8.out.trans (hbw.mono HB8.out.size)); clear hbw)))
        go_ret
        exact ⟨rfl, HBW.out⟩
    | false =>
      have HD1 := Lib.hid (HDC.out 8 (by rw [hok]; rfl))
      have HO1 := Lib.hid (HOF.out false hok)
      clear HDC HOF hok hd
      cases hm : mayP p with
      | true =>
        simp only [hm] at HEN HMY
        have HDT1 := Lib.hid (HDT.out hm)
        have HBY1 := Lib.hid (HBY.out (HBS.out hm))
        clear HRT HDT HBY hm HBS
        generalize pkS p = T at *
        obtain ⟨an, inc, sq, body⟩ := p
        obtain ⟨dan, dinc, dsq, dbody⟩ := d
        unfold pv pcells at *
        dsimp only at *
        go_enter Try.func3, Try.ntmps3
        go_upto_region 3 with fail
        obtain ⟨Q, hQ⟩ : ∃ Q, w.heap.size = Q := ⟨_, rfl⟩
        rw [hQ] at HX
        rw [hQ]
        have HQ := Lib.hid hQ
        clear hQ
        generalize w.alloc (.cells #[.bool an, .int .u64 inc, .int .u64 sq, .string body] 24) = w1 at *
        have y0 : w1.cell? ⟨Q, 0, none⟩ = some (.bool an) := by rw [HX.out.cell 0]; rfl
        have y1 : w1.cell? ⟨Q, 1, none⟩ = some (.int .u64 inc) := by rw [HX.out.cell 1]; rfl
        have y2 : w1.cell? ⟨Q, 2, none⟩ = some (.int .u64 sq) := by rw [HX.out.cell 2]; rfl
        have y3 : w1.cell? ⟨Q, 3, none⟩ = some (.string body) := by rw [HX.out.cell 3]; rfl
        go_upto_region 4 with (go_at_call 10; go_loud ((with_reducible refine (HEN.out _).mono ?_); rintro e w2 ⟨rfl, hb⟩; have HB2 := Lib.hid (HB0.out.step hb); have HX2 := Lib.hid (HX.out.below hb); clear hb))
        clear y0 y1 y2 y3 HX HB0
        go_upto_region 5 with (go_at_call 11; go_loud ((with_reducible refine (HD1.out _).mono ?_); rintro e w3 ⟨rfl, hb⟩; have HB3 := Lib.hid (HB2.out.step hb); have HX3 := Lib.hid (HX2.out.below hb); clear hb))
        have HA := Lib.hid (Blk.new w3 24 #[.bool dan, .int .u64 dinc, .int .u64 dsq, .string dbody])
        have HX4 := Lib.hid (HX3.out.alloc (.cells #[.bool dan, .int .u64 dinc, .int .u64 dsq, .string dbody] 24))
        have HB4 := Lib.hid (HB3.out.alloc HB3.out.size (.cells #[.bool dan, .int .u64 dinc, .int .u64 dsq, .string dbody] 24))
        clear HX2 HB2 HX3 HB3 HD1
        generalize w3.alloc (.cells #[.bool dan, .int .u64 dinc, .int .u64 dsq, .string dbody] 24) = w4 at *
        generalize w3.heap.size = D1 at *
        go_upto_region 6 with (go_at_call 12; go_loud ((with_reducible refine (HO1.out _).mono ?_); rintro e w5 ⟨rfl, hb⟩; have HB5 := Lib.hid (HB4.out.step hb); have HX5 := Lib.hid (HX4.out.below hb); have HA5 := Lib.hid (HA.out.below hb); clear hb))
        have HE := Lib.hid (Blk.new w5 24 #[.bool dan, .int .u64 dinc, .int .u64 dsq, .string dbody])
        have HX6 := Lib.hid (HX5.out.alloc (.cells #[.bool dan, .int .u64 dinc, .int .u64 dsq, .string dbody] 24))
        have HA6 := Lib.hid (HA5.out.alloc (.cells #[.bool dan, .int .u64 dinc, .int .u64 dsq, .string dbody] 24))
        have HB6 := Lib.hid (HB5.out.alloc HB5.out.size (.cells #[.bool dan, .int .u64 dinc, .int .u64 dsq, .string dbody] 24))
        clear HX4 HB4 HX5 HB5 HO1 HA HA5
        generalize w5.alloc (.cells #[.bool dan, .int .u64 dinc, .int .u64 dsq, .string dbody] 24) = w6 at *
        generalize w5.heap.size = D2 at *
        have y0 : w6.cell? ⟨Q, 0, none⟩ = some (.bool an) := by rw [HX6.out.cell 0]; rfl
        have y1 : w6.cell? ⟨Q, 1, none⟩ = some (.int .u64 inc) := by rw [HX6.out.cell 1]; rfl
        have y2 : w6.cell? ⟨Q, 2, none⟩ = some (.int .u64 sq) := by rw [HX6.out.cell 2]; rfl
        have y3 : w6.cell? ⟨Q, 3, none⟩ = some (.string body) := by rw [HX6.out.cell 3]; rfl
        have a0 : w6.cell? ⟨D1, 0, none⟩ = some (.bool dan) := by rw [HA6.out.cell 0]; rfl
        have a1 : w6.cell? ⟨D1, 1, none⟩ = some (.int .u64 dinc) := by rw [HA6.out.cell 1]; rfl
        have a2 : w6.cell? ⟨D1, 2, none⟩ = some (.int .u64 dsq) := by rw [HA6.out.cell 2]; rfl
        have a3 : w6.cell? ⟨D1, 3, none⟩ = some (.string dbody) := by rw [HA6.out.cell 3]; rfl
        have e0 : w6.cell? ⟨D2, 0, none⟩ = some (.bool dan) := by rw [HE.out.cell 0]; rfl
        have e1 : w6.cell? ⟨D2, 1, none⟩ = some (.int .u64 dinc) := by rw [HE.out.cell 1]; rfl
        have e2 : w6.cell? ⟨D2, 2, none⟩ = some (.int .u64 dsq) := by rw [HE.out.cell 2]; rfl
        have e3 : w6.cell? ⟨D2, 3, none⟩ = some (.string dbody) := by rw [HE.out.cell 3]; rfl
        go_upto_region 10 with (go_at_call 13; go_loud ((with_reducible refine (HMY.out _).mono ?_); rintro e w8 ⟨rfl, hb⟩; have HB8 := Lib.hid (HB6.out.step hb); have HX8 := Lib.hid (HX6.out.below hb); clear hb))
        clear a0 a1 a2 a3 e0 e1 e2 e3
        go_upto_region 11 with (go_at_call 11; go_loud ((with_reducible refine (HDT1.out _).mono ?_); rintro e w9 ⟨rfl, hb⟩; have HB9 := Lib.hid (HB8.out.step hb); have HX9 := Lib.hid (HX8.out.below hb); clear hb))
        have HF := Lib.hid (Blk.new w9 24 #[.bool an, .int .u64 inc, .int .u64 sq, .string body])
        have HX10 := Lib.hid (HX9.out.alloc (.cells #[.bool an, .int .u64 inc, .int .u64 sq, .string body] 24))
        have HB10 := Lib.hid (HB9.out.alloc HB9.out.size (.cells #[.bool an, .int .u64 inc, .int .u64 sq, .string body] 24))
        generalize w9.alloc (.cells #[.bool an, .int .u64 inc, .int .u64 sq, .string body] 24) = w10 at *
        generalize w9.heap.size = D3 at *
        have y0 : w10.cell? ⟨Q, 0, none⟩ = some (.bool an) := by rw [HX10.out.cell 0]; rfl
        have y1 : w10.cell? ⟨Q, 1, none⟩ = some (.int .u64 inc) := by rw [HX10.out.cell 1]; rfl
        have y2 : w10.cell? ⟨Q, 2, none⟩ = some (.int .u64 sq) := by rw [HX10.out.cell 2]; rfl
        have y3 : w10.cell? ⟨Q, 3, none⟩ = some (.string body) := by rw [HX10.out.cell 3]; rfl
        go_wp2_with (first
          | (go_at_call 14; go_loud ((with_reducible refine (HBY1.out _).mono ?_); rintro e w11 ⟨rfl, hb⟩; have HB11 := Lib.hid (HB10.out.step hb); have HX11 := Lib.hid (HX10.out.below hb); have HF11 := Lib.hid (HF.out.below hb); clear hb y0 y1 y2 y3; have y0 : w11.cell? ⟨Q, 0, none⟩ = some (.bool an) := (by rw [HX11.out.cell 0]; rfl); have y1 : w11.cell? ⟨Q, 1, none⟩ = some (.int .u64 inc) := (by rw [HX11.out.cell 1]; rfl); have y2 : w11.cell? ⟨Q, 2, none⟩ = some (.int .u64 sq) := (by rw [HX11.out.cell 2]; rfl); have y3 : w11.cell? ⟨Q, 3, none⟩ = some (.string body) := (by rw [HX11.out.cell 3]; rfl); have f0 : w11.cell? ⟨D3, 0, none⟩ = some (.bool an) := (by rw [HF11.out.cell 0]; rfl); have f1 : w11.cell? ⟨D3, 1, none⟩ = some (.int .u64 inc) := (by rw [HF11.out.cell 1]; rfl); have f2 : w11.cell? ⟨D3, 2, none⟩ = some (.int .u64 sq) := (by rw [HF11.out.cell 2]; rfl); have f3 : w11.cell? ⟨D3, 3, none⟩ = some (.string body) := (by rw [HF11.out.cell 3]; rfl)))
          | (go_at_call 9; go_loud ((with_reducible refine Calls.mono (works_t _) ?_); rintro e wz ⟨rfl, hbw⟩; have HBW := Lib.hid (HB11.out.trans (hbw.mono HB11.out.size)); clear hbw)))
        go_ret
        exact ⟨rfl, HBW.out⟩
      | false =>
        simp only [hm] at HEN HMY
        clear HRT HDT HBY hm HBS
        generalize pkS p = T at *
        obtain ⟨an, inc, sq, body⟩ := p
        obtain ⟨dan, dinc, dsq, dbody⟩ := d
        unfold pv pcells at *
        dsimp only at *
        go_enter Try.func3, Try.ntmps3
        go_upto_region 3 with fail
        obtain ⟨Q, hQ⟩ : ∃ Q, w.heap.size = Q := ⟨_, rfl⟩
        rw [hQ] at HX
        rw [hQ]
        have HQ := Lib.hid hQ
        clear hQ
        generalize w.alloc (.cells #[.bool an, .int .u64 inc, .int .u64 sq, .string body] 24) = w1 at *
        have y0 : w1.cell? ⟨Q, 0, none⟩ = some (.bool an) := by rw [HX.out.cell 0]; rfl
        have y1 : w1.cell? ⟨Q, 1, none⟩ = some (.int .u64 inc) := by rw [HX.out.cell 1]; rfl
        have y2 : w1.cell? ⟨Q, 2, none⟩ = some (.int .u64 sq) := by rw [HX.out.cell 2]; rfl
        have y3 : w1.cell? ⟨Q, 3, none⟩ = some (.string body) := by rw [HX.out.cell 3]; rfl
        go_upto_region 4 with (go_at_call 10; go_loud ((with_reducible refine (HEN.out _).mono ?_); rintro e w2 ⟨rfl, hb⟩; have HB2 := Lib.hid (HB0.out.step hb); have HX2 := Lib.hid (HX.out.below hb); clear hb))
        clear y0 y1 y2 y3 HX HB0
        go_upto_region 5 with (go_at_call 11; go_loud ((with_reducible refine (HD1.out _).mono ?_); rintro e w3 ⟨rfl, hb⟩; have HB3 := Lib.hid (HB2.out.step hb); have HX3 := Lib.hid (HX2.out.below hb); clear hb))
        have HA := Lib.hid (Blk.new w3 24 #[.bool dan, .int .u64 dinc, .int .u64 dsq, .string dbody])
        have HX4 := Lib.hid (HX3.out.alloc (.cells #[.bool dan, .int .u64 dinc, .int .u64 dsq, .string dbody] 24))
        have HB4 := Lib.hid (HB3.out.alloc HB3.out.size (.cells #[.bool dan, .int .u64 dinc, .int .u64 dsq, .string dbody] 24))
        clear HX2 HB2 HX3 HB3 HD1
        generalize w3.alloc (.cells #[.bool dan, .int .u64 dinc, .int .u64 dsq, .string dbody] 24) = w4 at *
        generalize w3.heap.size = D1 at *
        go_upto_region 6 with (go_at_call 12; go_loud ((with_reducible refine (HO1.out _).mono ?_); rintro e w5 ⟨rfl, hb⟩; have HB5 := Lib.hid (HB4.out.step hb); have HX5 := Lib.hid (HX4.out.below hb); have HA5 := Lib.hid (HA.out.below hb); clear hb))
        have HE := Lib.hid (Blk.new w5 24 #[.bool dan, .int .u64 dinc, .int .u64 dsq, .string dbody])
        have HX6 := Lib.hid (HX5.out.alloc (.cells #[.bool dan, .int .u64 dinc, .int .u64 dsq, .string dbody] 24))
        have HA6 := Lib.hid (HA5.out.alloc (.cells #[.bool dan, .int .u64 dinc, .int .u64 dsq, .string dbody] 24))
        have HB6 := Lib.hid (HB5.out.alloc HB5.out.size (.cells #[.bool dan, .int .u64 dinc, .int .u64 dsq, .string dbody] 24))
        clear HX4 HB4 HX5 HB5 HO1 HA HA5
        generalize w5.alloc (.cells #[.bool dan, .int .u64 dinc, .int .u64 dsq, .string dbody] 24) = w6 at *
        generalize w5.heap.size = D2 at *
        have y0 : w6.cell? ⟨Q, 0, none⟩ = some (.bool an) := by rw [HX6.out.cell 0]; rfl
        have y1 : w6.cell? ⟨Q, 1, none⟩ = some (.int .u64 inc) := by rw [HX6.out.cell 1]; rfl
        have y2 : w6.cell? ⟨Q, 2, none⟩ = some (.int .u64 sq) := by rw [HX6.out.cell 2]; rfl
        have y3 : w6.cell? ⟨Q, 3, none⟩ = some (.string body) := by rw [HX6.out.cell 3]; rfl
        have a0 : w6.cell? ⟨D1, 0, none⟩ = some (.bool dan) := by rw [HA6.out.cell 0]; rfl
        have a1 : w6.cell? ⟨D1, 1, none⟩ = some (.int .u64 dinc) := by rw [HA6.out.cell 1]; rfl
        have a2 : w6.cell? ⟨D1, 2, none⟩ = some (.int .u64 dsq) := by rw [HA6.out.cell 2]; rfl
        have a3 : w6.cell? ⟨D1, 3, none⟩ = some (.string dbody) := by rw [HA6.out.cell 3]; rfl
        have e0 : w6.cell? ⟨D2, 0, none⟩ = some (.bool dan) := by rw [HE.out.cell 0]; rfl
        have e1 : w6.cell? ⟨D2, 1, none⟩ = some (.int .u64 dinc) := by rw [HE.out.cell 1]; rfl
        have e2 : w6.cell? ⟨D2, 2, none⟩ = some (.int .u64 dsq) := by rw [HE.out.cell 2]; rfl
        have e3 : w6.cell? ⟨D2, 3, none⟩ = some (.string dbody) := by rw [HE.out.cell 3]; rfl
        go_wp2_with (first | (go_at_call 13; go_loud ((with_reducible refine (HMY.out _).mono ?_); rintro e w8 ⟨rfl, hb⟩; have HB8 := Lib.hid (HB6.out.step hb); have HX8 := Lib.hid (HX6.out.below hb); clear hb)) | (go_at_call 9; go_loud ((with_reducible refine Calls.mono (works_t _) ?_); rintro e wz ⟨rfl, hbw⟩; have HBW := Lib.hid (HB8.out.trans (hbw.mono HB8.out.size)); clear hbw)))
        go_ret
        exact ⟨rfl, HBW.out⟩
end Go.Proofs.Ytgdgonmhgpflcaa


/- Packets and confs that came in, opened out of their readings. No condition. -/
namespace Go.Proofs.Ytgdgonmhgpflcaa
open Go.RowKit Wire Rp
set_option linter.unusedVariables false
set_option linter.unusedSimpArgs false
section
open Go.ChangeShapes Go.WideShapes Go.Deep
variable {H : Type} {enc : TypeId × Value → H} {W : World} {base : Nat} {held : Bool}
theorem u64_of {n : Int} (h : (Lit.int .u64 n).wf = true) : U64 n := by have := bounds_u64 h; unfold U64; omega
theorem i64_of {n : Int} (h : (Lit.int .i64 n).wf = true) : I64 n := by have := bounds_i64 h; unfold I64; omega
set_option maxRecDepth 100000 in
/-- Four cells that read as a packet. -/
theorem open_pk {fuel : Nat} {cs : List Value} {x : DataW H × List MemPlace} (hl : cs.length = 4) (hf : DataW.trod enc Try.prog W base (fun _ => true) held fuel 24 cs = some x) :
    ∃ p : Pk, cs = (pcells p).toList ∧ U64 p.inc ∧ U64 p.seq ∧ p.body.size ≤ maxLen := by
  have f := fun (k : Nat) (fd : Field) (hq : _) (ho : fd.offset = k) (hc : Try.prog.cellsOf fd.type = 1) (hlt : k < cs.length) => open_field (P := Try.prog) (t := 24) Try.underlying24 hf k fd hq k ho hc hlt
  obtain ⟨m0, y0, e0⟩ := f 0 _ rfl rfl (by kernel_rfl) (by omega)
  obtain ⟨m1, y1, e1⟩ := f 1 _ rfl rfl (by kernel_rfl) (by omega)
  obtain ⟨m2, y2, e2⟩ := f 2 _ rfl rfl (by kernel_rfl) (by omega)
  obtain ⟨m3, y3, e3⟩ := f 3 _ rfl rfl (by kernel_rfl) (by omega)
  obtain ⟨n0, z0, _⟩ := DataW.trod_bool (by kernel_rfl) e0
  obtain ⟨n1, z1, _, w1⟩ := DataW.trod_int (k := .u64) (by kernel_rfl) e1
  obtain ⟨n2, z2, _, w2⟩ := DataW.trod_int (k := .u64) (by kernel_rfl) e2
  obtain ⟨n3, z3, _, w3⟩ := DataW.trod_string (by kernel_rfl) e3
  refine ⟨⟨n0, n1, n2, n3⟩, ?_, u64_of w1, u64_of w2, w3⟩
  match cs, hl with
  | [a, b, c, d], _ =>
    simp at z0 z1 z2 z3
    subst z0 z1 z2 z3
    rfl
set_option maxRecDepth 100000 in
theorem open_packet {r : Reach} {b0 : Nat} {v : Value} {d : DataW H} {ps : List MemPlace} (hval : Value.okWide Try.prog W r b0 24 v) (hd : DataW.Trod enc Try.prog W base (fun _ => true) held 24 v d ps) :
    ∃ p : Pk, v = pv p ∧ U64 p.inc ∧ U64 p.seq ∧ p.body.size ≤ maxLen := by
  obtain ⟨cs, rfl, hsz⟩ := okWide_struct Try.underlying24 hval
  obtain ⟨fuel, hf⟩ := hd
  have hs : cs.size = 4 := by rw [hsz]; kernel_rfl
  obtain ⟨p, h1, h2⟩ := open_pk (cs := cs.toList) (by simpa using hs) hf
  refine ⟨p, ?_, h2⟩
  unfold pv
  congr 1
  exact Array.ext' h1
set_option maxRecDepth 100000 in
theorem open_conf {r : Reach} {b0 : Nat} {v : Value} {d : DataW H} {ps : List MemPlace} (hval : Value.okWide Try.prog W r b0 73 v) (hd : DataW.Trod enc Try.prog W base (fun _ => true) held 73 v d ps) :
    ∃ a b c : Int, v = .agg #[.int .i64 a, .int .i64 b, .int .i64 c] ∧ I64 a ∧ I64 b ∧ I64 c := by
  obtain ⟨cs, rfl, hsz⟩ := okWide_struct Try.underlying73 hval
  obtain ⟨fuel, hf⟩ := hd
  have hs : cs.size = 3 := by rw [hsz]; kernel_rfl
  have hl : cs.toList.length = 3 := by simpa using hs
  have f := fun (k : Nat) (fd : Field) (hq : _) (ho : fd.offset = k) (hc : Try.prog.cellsOf fd.type = 1) (hlt : k < cs.toList.length) => open_field (P := Try.prog) (t := 73) Try.underlying73 hf k fd hq k ho hc hlt
  obtain ⟨m0, y0, e0⟩ := f 0 _ rfl rfl (by kernel_rfl) (by omega)
  obtain ⟨m1, y1, e1⟩ := f 1 _ rfl rfl (by kernel_rfl) (by omega)
  obtain ⟨m2, y2, e2⟩ := f 2 _ rfl rfl (by kernel_rfl) (by omega)
  obtain ⟨n0, z0, _, w0⟩ := DataW.trod_int (k := .i64) (by kernel_rfl) e0
  obtain ⟨n1, z1, _, w1⟩ := DataW.trod_int (k := .i64) (by kernel_rfl) e1
  obtain ⟨n2, z2, _, w2⟩ := DataW.trod_int (k := .i64) (by kernel_rfl) e2
  refine ⟨n0, n1, n2, ?_, i64_of w0, i64_of w1, i64_of w2⟩
  congr 1
  apply Array.ext'
  revert z0 z1 z2
  match cs.toList, hl with
  | [a, b, c], _ =>
    intro z0 z1 z2
    simp at z0 z1 z2
    subst z0 z1 z2
    rfl
set_option maxRecDepth 100000 in
theorem bytes_w {r : Reach} {b0 : Nat} {v : Value} {d : DataW H} {ps : List MemPlace} (b : ByteArray) (hval : Value.okWide Try.prog W r b0 24 v) (hd : DataW.Trod enc Try.prog W base (fun _ => true) held 24 v d ps) (lt : ∀ x ∈ ps, x.block < W.heap.size) (hb : b.size ≤ maxLen) :
    Calls Try.prog 3 #[v, .string b] W fun e w' => e = .returned (.bool true) ∧ Below W.heap.size W w' := by
  obtain ⟨p, rfl, h1, h2, h3⟩ := open_packet hval hd
  exact bytes_t p b h1 h2 h3 hb W
end
end Go.Proofs.Ytgdgonmhgpflcaa


/- The document's Called in the world: its peers, of each the row of what was heard; the walks of its peer, Inc. No condition. -/
namespace Go.Proofs.Ytgdgonmhgpflcaa
open Go.RowKit Go.Maps Wire Rp
set_option linter.unusedVariables false
set_option linter.unusedSimpArgs false
namespace Rp
abbrev PeV := Pe × Value
def prow (x : PeV) : List Value := [.int .i64 x.1.fr, .int .u64 x.1.inc, .int .u64 x.1.floor, x.2]
def rowsP (l : List PeV) : List Value := l.flatMap prow
def hcells (h : He) : List Value := [.int .u64 h.seq, .bool h.dn, .string h.body]
def rowsHe (L : List He) : List Value := L.flatMap hcells
def newV (fr : Int) : PeV := (⟨fr, 0, 0, []⟩, .slice none 0 0)
def addV (l : List PeV) (fr : Int) : List PeV := if l.any (fun x => x.1.fr == fr) then l else l ++ [newV fr]
end Rp
theorem info_peer : Info Try.prog 132 (.agg #[.int .i64 0, .int .u64 0, .int .u64 0, .slice none 0 0]) 4 48 := by unfold Info; kernel_rfl
theorem info_heard : Info Try.prog 134 (.agg #[.int .u64 0, .bool false, .string ⟨#[]⟩]) 3 32 := by unfold Info; kernel_rfl
structure RD (w : World) (B0 r : Nat) (vP : Value) (l : List PeV) : Prop where
  blk : Blk w r 44 #[vP]
  row : w.ownsRow B0 132 4 vP l.length (rowsP l)
  he : ∀ x ∈ l, w.ownsRow B0 134 3 x.2 x.1.L.length (rowsHe x.1.L)
  apart : l.Pairwise fun x y => ∀ g, x.2.ownBlock = some g → y.2.ownBlock ≠ some g
  dis : l.Pairwise fun x y => x.1.fr ≠ y.1.fr
  ge : B0 ≤ r
/-- What the document's Called may turn. -/
def OnR (B0 r : Nat) (w w' : World) : Prop := Only (fun k => k = r ∨ (B0 ≤ k ∧ ∃ A, Blk w k 132 A) ∨ (B0 ≤ k ∧ ∃ A, Blk w k 134 A)) w w'
section
variable {w w' w1 : World} {B0 r : Nat} {vP : Value} {l : List PeV}
theorem OnR.refl (B0 r : Nat) (w : World) : OnR B0 r w w := Only.refl _ _
theorem OnR.of_below (hb : Below w.heap.size w w') : OnR B0 r w w' := Only.of_below hb
theorem OnR.trans (h1 : OnR B0 r w w1) (h2 : OnR B0 r w1 w') : OnR B0 r w w' :=
  ⟨h2.os.trans h1.os, h2.tape.trans h1.tape, h2.output.trans h1.output, Nat.le_trans h1.size h2.size, fun k hk hne => by
    have e1 := h1.block k hk hne
    rw [← e1]
    refine h2.block k (Nat.lt_of_lt_of_le hk h1.size) fun hs => hne ?_
    unfold Blk at hs ⊢
    rwa [e1] at hs⟩
theorem OnR.step (h1 : OnR B0 r w w1) (h2 : Below w1.heap.size w1 w') : OnR B0 r w w' := h1.trans (.of_below h2)
theorem OnR.undrew (o : OnR B0 r w.drew w') : OnR B0 r w w' := ⟨o.os, o.tape, o.output, o.size, o.block⟩
theorem OnR.below (c : RD w B0 r vP l) (o : OnR B0 r w w') (hB : B0 ≤ w.heap.size) : Below B0 w w' := Only.below o hB fun k hs => by
  have := c.ge
  rcases hs with e | e | e
  · omega
  · exact e.1
  · exact e.1
theorem RD.only {S : Nat → Prop} (c : RD w B0 r vP l) (o : Only S w w') (h1 : ¬ S r) (h2 : ∀ g, vP.ownBlock = some g → ¬ S g) (h3 : ∀ x ∈ l, ∀ g, x.2.ownBlock = some g → ¬ S g) : RD w' B0 r vP l :=
  ⟨c.blk.only o h1, owns_only c.row o h2, fun x hx => owns_only (c.he x hx) o (h3 x hx), c.apart, c.dis, c.ge⟩
theorem RD.below (c : RD w B0 r vP l) (hb : Below w.heap.size w w') : RD w' B0 r vP l := c.only (S := fun _ => False) (.of_below hb) id (fun _ _ => id) (fun _ _ _ _ => id)
theorem RD.alloc (c : RD w B0 r vP l) (o : Obj) : RD (w.alloc o) B0 r vP l := c.below ((Below.refl _ _).alloc (Nat.le_refl _) o)
theorem RD.drew (c : RD w B0 r vP l) : RD w.drew B0 r vP l := c.below (Below.refl _ w).drew
theorem RD.c0 (c : RD w B0 r vP l) : w.cell? ⟨r, 0, none⟩ = some vP := by rw [c.blk.cell 0]; rfl
theorem RD.fz (c : RD w B0 r vP l) : ∀ o, w.frozen? ⟨r, o, none⟩ = false := c.blk.frozen
theorem RD.slice (c : RD w B0 r vP l) : ∃ p cap, vP = .slice p l.length cap := owns_slice c.row
/-- One of its peers. -/
theorem RD.peer (c : RD w B0 r vP l) {i : Nat} (hi : i < l.length) : ∃ g cap, vP = .slice (some ⟨g, 0, none⟩) l.length cap ∧ B0 ≤ g ∧ g < w.heap.size ∧ g ≠ r ∧ (∀ o, w.frozen? ⟨g, o, none⟩ = false) ∧ (∃ A, Blk w g 132 A) ∧ ∀ j, j < 4 → w.cell? ⟨g, i * 4 + j, none⟩ = (prow l[i])[j]? := by
  obtain ⟨g, cap, ev, hb, hg, hf, hc⟩ := owns_cells c.row (by omega)
  have hne : g ≠ r := owns_ne c.row c.blk (by decide) g (by rw [ev]; rfl)
  obtain ⟨A, hA, _⟩ := owns_type c.row (g := g) (by rw [ev]; rfl)
  exact ⟨g, cap, ev, hb, hg, hne, hf, ⟨A, hA⟩, fun j hj => by rw [← flat_at prow 4 (fun _ => rfl) l i j hi hj]; exact hc (i * 4 + j) (by omega)⟩
/-- A peer more. -/
theorem RD.add (c : RD w B0 r vP l) {fr : Int} {v' : Value} (hno : l.any (fun x => x.1.fr == fr) = false) (h6 : w'.ownsRow B0 132 4 v' (l.length + 1) (rowsP l ++ prow (newV fr))) (o6 : Only (fun k => vP.ownBlock = some k) w w') :
    Blk w' r 44 #[vP] ∧ RD (w'.setCell ⟨r, 0, none⟩ v') B0 r v' (l ++ [newV fr]) ∧ OnR B0 r w (w'.setCell ⟨r, 0, none⟩ v') := by
  have hne : ∀ {k : Nat} {T : TypeId} {A : Array Value}, Blk w k T A → T ≠ 132 → ¬ vP.ownBlock = some k := fun hk ht e => by
    obtain ⟨A', hA, _⟩ := owns_type c.row e
    exact ht (blk_ne hk hA)
  have hb := c.blk.only o6 (hne c.blk (by decide))
  have o7 : Only (· = r) w' (w'.setCell ⟨r, 0, none⟩ v') := (Only.refl _ w').set1
  have hsz := o6.size
  have hs2 := setCell_size w' ⟨r, 0, none⟩ v'
  have h7 : (w'.setCell ⟨r, 0, none⟩ v').ownsRow B0 132 4 v' (l.length + 1) (rowsP l ++ prow (newV fr)) := owns_only h6 o7 fun g hg e => owns_ne h6 hb (by decide) g hg e
  have h8 : (w'.setCell ⟨r, 0, none⟩ v').ownsRow B0 132 4 v' (l ++ [newV fr]).length (rowsP (l ++ [newV fr])) := by simpa [rowsP] using h7
  refine ⟨hb, ⟨?_, h8, fun x hx => ?_, ?_, ?_, c.ge⟩, ?_⟩
  · exact hb.set 0 v'
  · rcases List.mem_append.1 hx with hx | hx
    · refine owns_only (owns_only (c.he x hx) o6 fun g hg => ?_) o7 fun g hg e => ?_
      · obtain ⟨A, hA, _⟩ := owns_type (c.he x hx) hg
        exact hne hA (by decide)
      · obtain ⟨A, hA, _⟩ := owns_type (c.he x hx) hg
        have e' : g = r := e
        subst e'
        exact absurd (blk_ne hA c.blk) (by decide)
    · simp at hx
      subst hx
      exact World.ownsRow_nil _ _ _ _
  · refine List.pairwise_append.2 ⟨c.apart, List.pairwise_singleton _ _, fun y hy z hz g hg => ?_⟩
    simp at hz
    subst hz
    intro e
    cases e
  · refine List.pairwise_append.2 ⟨c.dis, List.pairwise_singleton _ _, fun y hy z hz => ?_⟩
    simp at hz
    subst hz
    rw [List.any_eq_false] at hno
    simpa [newV] using hno y hy
  · refine ⟨o7.os.trans o6.os, o7.tape.trans o6.tape, o7.output.trans o6.output, by rw [hs2]; exact hsz, fun k hk hn => ?_⟩
    rw [o7.block k (Nat.lt_of_lt_of_le hk hsz) (fun e => hn (.inl e))]
    refine o6.block k hk fun e => hn ?_
    obtain ⟨A, hA, hge, _⟩ := owns_type c.row e
    exact (.inr (.inl ⟨hge, A, hA⟩))
theorem anyF_take {L : List PeV} {x : Int} {i : Nat} (hi : i < L.length) : (L.take (i + 1)).any (fun c => c.1.fr == x) = ((L.take i).any (fun c => c.1.fr == x) || (L[i].1.fr == x)) := by
  rw [List.take_succ_eq_append_getElem hi]; simp only [List.any_append, List.any_cons, List.any_nil, Bool.or_false]
def PeerP (w : World) (B0 r : Nat) (l : List PeV) (fr : Int) (e : Ending) (w' : World) : Prop := ∃ (i : Nat) (vP' : Value), e = .returned (.int .i64 i) ∧ RD w' B0 r vP' (addV l fr) ∧ OnR B0 r w w' ∧ ∃ hi : i < (addV l fr).length, (addV l fr)[i].1.fr = fr
set_option maxRecDepth 100000 in
set_option maxHeartbeats 1000000 in
theorem peer_any (c : RD w B0 r vP l) (hn : l.length ≤ 1000000) (fr : Int) :
    Calls Try.prog 60 #[.pointer (some ⟨r, 0, none⟩), .int .i64 fr] w (PeerP w B0 r l fr) := by
  have HC := Lib.hid c
  have HN := Lib.hid hn
  have c0 := c.c0
  obtain ⟨pP, cP, eP⟩ := c.slice
  subst eP
  clear c hn
  go_enter Try.func60, Try.ntmps60
  go_wp2_with fail
  go_loopw [5] (fun u wr => ∃ i : Nat, u = .int .i64 i ∧ i ≤ l.length ∧ (l.take i).any (fun c => c.1.fr == fr) = false ∧ wr = w) (fun u _ => ((l.length : Int) - intOf u).toNat)
  case atStart => exact ⟨0, rfl, Nat.zero_le _, rfl, rfl⟩
  case round =>
    obtain ⟨i, rfl, hi, hnone, rfl⟩ := hrel
    have HI := Lib.hid (And.intro hi hnone)
    clear hi hnone
    by_cases hil : i < l.length
    · have hil' : (i : Int) < (l.length : Int) := by omega
      have hi0 : (0 : Int) ≤ (i : Int) := by omega
      obtain ⟨g, cap, ev, _, hg, hgr, _, _, hz⟩ := HC.out.peer hil
      injection ev with e1 e2 e3
      subst e1 e3
      have z0 : wr.cell? ⟨g, i * 4, none⟩ = some (.int .i64 l[i].1.fr) := hz 0 (by decide)
      have HT := Lib.hid (anyF_take (x := fr) hil)
      have HLT := Lib.hid hil
      have HE : Hid (wrap64 ((i : Int) + 1) = ((i + 1 : Nat) : Int)) := Lib.hid (Sou.w64n rfl (by have := HN.out; omega))
      have HFN : Hid (l[i].1.fr = fr → PeerP wr B0 r l fr (.returned (.int .i64 i)) wr) := Lib.hid fun hq => by
        have ha : l.any (fun c => c.1.fr == fr) = true := by rw [List.any_eq_true]; exact ⟨_, List.getElem_mem hil, beq_iff_eq.2 hq⟩
        have e : addV l fr = l := by unfold addV; rw [ha]; rfl
        refine ⟨i, _, rfl, by rw [e]; exact HC.out, OnR.refl _ _ _, ?_⟩
        rw [e]
        exact ⟨hil, hq⟩
      clear e2 hz
      generalize l[i].1.fr = q at *
      clear hil
      by_cases hq : q = fr
      · have HF := Lib.hid (HFN.out hq)
        have hq' : (q == fr) = true := by simpa using hq
        clear hq HFN HT
        go_wp2_with fail
        go_ret
        exact HF.out
      · have hq' : (q == fr) = false := by simpa using hq
        have HT2 : Hid ((l.take (i + 1)).any (fun c => c.1.fr == fr) = false) := Lib.hid (by rw [HT.out, HI.out.2, hq']; rfl)
        clear hq HT HFN
        go_wp2_with fail
        go_roundw
        case rel => first | exact ⟨i + 1, rfl, HLT.out, HT2.out, by first | rfl | trivial⟩ | (rw [HE.out]; exact ⟨i + 1, rfl, HLT.out, HT2.out, by first | rfl | trivial⟩)
        case measure => have := HLT.out; first | (simp [intOf]; omega) | (rw [HE.out]; simp [intOf]; omega)
    · obtain rfl : i = l.length := by have := HI.out; omega
      have hil' : ¬ ((l.length : Nat) : Int) < (l.length : Int) := by omega
      have HNO : Hid (l.any (fun c => c.1.fr == fr) = false) := Lib.hid (by have := HI.out.2; rwa [List.take_length] at this)
      have hb := HC.out.fz 0
      have e1 : wrap64 (((l.length + 1 : Nat) : Int) - 1) = (l.length : Int) := by have := HN.out; unfold wrap64; omega
      clear hil
      have HL : Hid (addV l fr = l ++ [newV fr]) := Lib.hid (by unfold addV; rw [HNO.out]; rfl)
      go_wp2_with (at_builtin; refine wpl_append_row2 (ys := prow (newV fr)) rfl rfl rfl rfl Try.underlying42 info_peer rfl rfl rfl (by decide) (by decide) HC.out.row (by have := HN.out; omega) (by have := HC.out.ge; have := HC.out.blk.lt; omega) (by first | rfl | simp) ?_; intro v6 w6 h6 o6; obtain ⟨p6, c6, rfl⟩ := owns_slice h6; obtain ⟨b6, hr6, on6⟩ := HC.out.add HNO.out h6 o6; have HR6 := Lib.hid hr6; have HON6 := Lib.hid on6; have d0 : w6.cell? ⟨r, 0, none⟩ = some (.slice pP l.length cP) := (by rw [b6.cell 0]; rfl); have f0 := b6.frozen 0; clear h6 o6 b6 hr6 on6)
      go_ret
      refine ⟨l.length, .slice p6 (l.length + 1) c6, ?_, by rw [HL.out]; exact HR6.out, HON6.out, ?_⟩
      · simp; have := HN.out; unfold wrap64; omega
      · rw [HL.out]
        exact ⟨by simp, by simp [newV]⟩
/-! ### Inc -/
def incV (l : List PeV) (fr : Int) : Int := match l.find? (fun x => x.1.fr == fr) with | none => 0 | some x => x.1.inc
set_option maxRecDepth 100000 in
set_option maxHeartbeats 1000000 in
theorem rinc_any (c : RD w B0 r vP l) (hn : l.length ≤ 1000000) (fr : Int) :
    Calls Try.prog 21 #[.pointer (some ⟨r, 0, none⟩), .int .i64 fr] w fun e w' => e = .returned (.int .u64 (incV l fr)) ∧ w' = w := by
  have HC := Lib.hid c
  have HN := Lib.hid hn
  have c0 := c.c0
  obtain ⟨pP, cP, eP⟩ := c.slice
  subst eP
  clear c hn
  go_enter Try.func21, Try.ntmps21
  go_wp2_with fail
  go_loopw [5] (fun u wr => ∃ i : Nat, u = .int .i64 i ∧ i ≤ l.length ∧ (l.take i).any (fun c => c.1.fr == fr) = false ∧ wr = w) (fun u _ => ((l.length : Int) - intOf u).toNat)
  case atStart => exact ⟨0, rfl, Nat.zero_le _, rfl, rfl⟩
  case round =>
    obtain ⟨i, rfl, hi, hnone, rfl⟩ := hrel
    have HI := Lib.hid (And.intro hi hnone)
    clear hi hnone
    by_cases hil : i < l.length
    · have hil' : (i : Int) < (l.length : Int) := by omega
      have hi0 : (0 : Int) ≤ (i : Int) := by omega
      obtain ⟨g, cap, ev, _, hg, hgr, _, _, hz⟩ := HC.out.peer hil
      injection ev with e1 e2 e3
      subst e1 e3
      have z0 : wr.cell? ⟨g, i * 4, none⟩ = some (.int .i64 l[i].1.fr) := hz 0 (by decide)
      have z1 : wr.cell? ⟨g, i * 4 + 1, none⟩ = some (.int .u64 l[i].1.inc) := hz 1 (by decide)
      have HT := Lib.hid (anyF_take (x := fr) hil)
      have HLT := Lib.hid hil
      have HE : Hid (wrap64 ((i : Int) + 1) = ((i + 1 : Nat) : Int)) := Lib.hid (Sou.w64n rfl (by have := HN.out; omega))
      have HFN : Hid (l[i].1.fr = fr → incV l fr = l[i].1.inc) := Lib.hid fun hq => by
        unfold incV
        have : l.find? (fun x => x.1.fr == fr) = some l[i] := by
          rw [List.find?_eq_some_iff_getElem]
          refine ⟨beq_iff_eq.2 hq, i, hil, rfl, fun j hj => ?_⟩
          have h0 := HI.out.2
          rw [List.any_eq_false] at h0
          simpa using h0 _ (List.mem_iff_getElem.2 ⟨j, by rw [List.length_take]; omega, by rw [List.getElem_take]⟩)
        rw [this]
      clear e2 hz
      generalize l[i].1.fr = q at *
      generalize l[i].1.inc = qi at *
      clear hil
      by_cases hq : q = fr
      · have HF := Lib.hid (HFN.out hq)
        have hq' : (q == fr) = true := by simpa using hq
        clear hq HFN HT
        go_wp2_with fail
        go_ret
        rw [HF.out]
        exact ⟨rfl, rfl⟩
      · have hq' : (q == fr) = false := by simpa using hq
        have HT2 : Hid ((l.take (i + 1)).any (fun c => c.1.fr == fr) = false) := Lib.hid (by rw [HT.out, HI.out.2, hq']; rfl)
        clear hq HT HFN
        go_wp2_with fail
        go_roundw
        case rel => first | exact ⟨i + 1, rfl, HLT.out, HT2.out, by first | rfl | trivial⟩ | (rw [HE.out]; exact ⟨i + 1, rfl, HLT.out, HT2.out, by first | rfl | trivial⟩)
        case measure => have := HLT.out; first | (simp [intOf]; omega) | (rw [HE.out]; simp [intOf]; omega)
    · obtain rfl : i = l.length := by have := HI.out; omega
      have hil' : ¬ ((l.length : Nat) : Int) < (l.length : Int) := by omega
      have HNO : Hid (incV l fr = 0) := Lib.hid (by
        have h0 := HI.out.2
        rw [List.take_length, List.any_eq_false] at h0
        unfold incV
        rw [List.find?_eq_none.2 (fun x hx => by simpa using h0 x hx)])
      clear hil
      go_wp2_with fail
      go_ret
      rw [HNO.out]
      exact ⟨rfl, rfl⟩
end
end Go.Proofs.Ytgdgonmhgpflcaa


/- A peer of the document's Called stored anew. No condition. -/
namespace Go.Proofs.Ytgdgonmhgpflcaa
open Go.RowKit Go.Maps Wire Rp
set_option linter.unusedVariables false
set_option linter.unusedSimpArgs false
theorem owns_set {w : World} {base size n cap g : Nat} {e : TypeId} {xs : List Value} (h : w.ownsRow base e size (.slice (some ⟨g, 0, none⟩) n cap) n xs) (j : Nat) (u : Value) :
    (w.setCell ⟨g, j, none⟩ u).ownsRow base e size (.slice (some ⟨g, 0, none⟩) n cap) n (xs.set j u) := by
  obtain ⟨hl, h0 | ⟨g', cap', cur, e1, hb, hg, h1, h2, h3, h4⟩⟩ := h
  · cases h0.1
  · injection e1 with e1 e2 e3
    injection e1 with e1
    injection e1 with e1
    subst e1 e3
    refine ⟨by simpa using hl, .inr ⟨g, cap, cur.setIfInBounds j u, rfl, hb, Blk.set (A := cur) hg j u, h1, h2, by simpa using h3, ?_⟩⟩
    rw [Array.toList_setIfInBounds, List.take_set, h4]
namespace Rp
theorem rowsP_len (l : List PeV) : (rowsP l).length = l.length * 4 := by
  unfold rowsP
  induction l with
  | nil => rfl
  | cons a l ih => rw [List.flatMap_cons, List.length_append, ih]; show 4 + _ = _; rw [List.length_cons]; omega
theorem rowsP_set {l : List PeV} {i : Nat} (hi : i < l.length) (y : PeV) : ((((rowsP l).set (i * 4) (.int .i64 y.1.fr)).set (i * 4 + 1) (.int .u64 y.1.inc)).set (i * 4 + 2) (.int .u64 y.1.floor)).set (i * 4 + 3) y.2 = rowsP (l.set i y) := by
  have e0 : l = l.take i ++ l[i] :: l.drop (i + 1) := by rw [← List.drop_eq_getElem_cons hi, List.take_append_drop]
  have e1 : l.set i y = l.take i ++ y :: l.drop (i + 1) := by rw [List.set_eq_take_append_cons_drop, if_pos hi]
  have h1 : rowsP l = rowsP (l.take i) ++ (prow l[i] ++ rowsP (l.drop (i + 1))) := by
    conv => lhs; rw [e0]
    unfold rowsP; rw [List.flatMap_append, List.flatMap_cons]
  have h2 : rowsP (l.set i y) = rowsP (l.take i) ++ (prow y ++ rowsP (l.drop (i + 1))) := by
    rw [e1]; unfold rowsP; rw [List.flatMap_append, List.flatMap_cons]
  have hl : (rowsP (l.take i)).length = i * 4 := by rw [rowsP_len, List.length_take]; congr 1; omega
  rw [h1, h2]
  rw [List.set_append_right _ _ (by omega), List.set_append_right _ _ (by omega), List.set_append_right _ _ (by omega), List.set_append_right _ _ (by omega), hl]
  congr 1
  rw [show i * 4 - i * 4 = 0 by omega, show i * 4 + 1 - i * 4 = 1 by omega, show i * 4 + 2 - i * 4 = 2 by omega, show i * 4 + 3 - i * 4 = 3 by omega]
  rfl
end Rp
section
variable {w w' w1 : World} {B0 r : Nat} {l : List PeV}
/-- The four stores of a peer. -/
theorem RD.store {g cap : Nat} (c : RD w B0 r (.slice (some ⟨g, 0, none⟩) l.length cap) l) {i : Nat} (hi : i < l.length) (y : PeV) (hy : w.ownsRow B0 134 3 y.2 y.1.L.length (rowsHe y.1.L)) (hf : y.1.fr = l[i].1.fr)
    (ha : ∀ x ∈ l, x.1.fr ≠ y.1.fr → ∀ g, x.2.ownBlock = some g → y.2.ownBlock ≠ some g) :
    RD ((((w.setCell ⟨g, i * 4, none⟩ (.int .i64 y.1.fr)).setCell ⟨g, i * 4 + 1, none⟩ (.int .u64 y.1.inc)).setCell ⟨g, i * 4 + 2, none⟩ (.int .u64 y.1.floor)).setCell ⟨g, i * 4 + 3, none⟩ y.2) B0 r (.slice (some ⟨g, 0, none⟩) l.length cap) (l.set i y) ∧
    OnR B0 r w ((((w.setCell ⟨g, i * 4, none⟩ (.int .i64 y.1.fr)).setCell ⟨g, i * 4 + 1, none⟩ (.int .u64 y.1.inc)).setCell ⟨g, i * 4 + 2, none⟩ (.int .u64 y.1.floor)).setCell ⟨g, i * 4 + 3, none⟩ y.2) := by
  have o : Only (· = g) w ((((w.setCell ⟨g, i * 4, none⟩ (.int .i64 y.1.fr)).setCell ⟨g, i * 4 + 1, none⟩ (.int .u64 y.1.inc)).setCell ⟨g, i * 4 + 2, none⟩ (.int .u64 y.1.floor)).setCell ⟨g, i * 4 + 3, none⟩ y.2) := (((Only.refl (· = g) w).set1).set1.set1).set1
  have hrow := owns_set (owns_set (owns_set (owns_set c.row (i * 4) (.int .i64 y.1.fr)) (i * 4 + 1) (.int .u64 y.1.inc)) (i * 4 + 2) (.int .u64 y.1.floor)) (i * 4 + 3) y.2
  rw [rowsP_set hi] at hrow
  obtain ⟨A, hA, hge, _⟩ := owns_type c.row (g := g) rfl
  have hbg : Blk w g 132 A := hA
  have hrg : ¬ r = g := fun e => by have h := c.blk; rw [e] at h; exact absurd (blk_ne h hbg) (by decide)
  have hH : ∀ {v : Value} {n : Nat} {xs : List Value}, w.ownsRow B0 134 3 v n xs → ∀ k, v.ownBlock = some k → ¬ k = g := fun h k hk => owns_ne h hbg (by decide) k hk
  have hmem : ∀ x ∈ l.set i y, x = y ∨ (x ∈ l ∧ x.1.fr ≠ y.1.fr) := fun x hx => by
    obtain ⟨j, hj, e⟩ := List.mem_iff_getElem.1 hx
    rw [List.length_set] at hj
    rw [List.getElem_set] at e
    split at e
    · exact .inl e.symm
    · rename_i hij
      refine .inr ⟨e ▸ List.getElem_mem hj, ?_⟩
      rw [← e, hf]
      have hd := c.dis
      rw [List.pairwise_iff_getElem] at hd
      rcases Nat.lt_or_ge j i with h | h
      · exact hd j i hj hi h
      · exact fun e2 => hd i j hi hj (by omega) e2.symm
  refine ⟨⟨c.blk.only o hrg, by rw [List.length_set]; exact hrow, fun x hx => ?_, ?_, ?_, c.ge⟩, o.mono fun k _ e => by have e' : k = g := e; subst e'; exact .inr (.inl ⟨hge, A, hbg⟩)⟩
  · rcases hmem x hx with rfl | ⟨hx, _⟩
    · exact owns_only hy o (hH hy)
    · exact owns_only (c.he x hx) o (hH (c.he x hx))
  · have hp := c.apart
    rw [List.pairwise_iff_getElem] at hp ⊢
    have hd := c.dis
    rw [List.pairwise_iff_getElem] at hd
    intro j k hj hk hjk
    rw [List.length_set] at hj hk
    rw [List.getElem_set, List.getElem_set]
    split
    · rename_i e
      subst e
      rw [if_neg (by omega)]
      intro g' hg' e2
      exact ha _ (List.getElem_mem hk) (by rw [hf]; exact fun e3 => hd i k hj hk hjk e3.symm) g' e2 hg'
    · split
      · rename_i e
        subst e
        exact ha _ (List.getElem_mem hj) (by rw [hf]; exact hd j i hj hk hjk)
      · exact hp j k hj hk hjk
  · have hd := c.dis
    rw [List.pairwise_iff_getElem] at hd ⊢
    intro j k hj hk hjk
    rw [List.length_set] at hj hk
    rw [List.getElem_set, List.getElem_set]
    split
    · rename_i e
      subst e
      rw [if_neg (by omega), hf]
      exact hd i k hj hk hjk
    · split
      · rename_i e
        subst e
        rw [hf]
        exact hd j i hj hk hjk
      · exact hd j k hj hk hjk
end
end Go.Proofs.Ytgdgonmhgpflcaa
