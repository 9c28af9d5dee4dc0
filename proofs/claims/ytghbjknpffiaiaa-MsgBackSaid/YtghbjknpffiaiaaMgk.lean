import Derived.Test.YtghbjknpffiaiaaMgj
import Derived.Test.YtghbjknpffiaiaaMge
import Derived.Maps.OwnOps
import Derived.DeepKeys4
import Derived.Sort.MapsRangeIn
import Derived.Test.YtghbjknpffiaiaaMgb
import Derived.Laws.ResultCell
import Derived.Laws.Rows

/- Each part of a message, read: what it lays into the message, what it finds amiss. No condition. -/
namespace Go.Proofs.Ytghbjknpffiaiaa
open Go.RowKit Wire Ms
set_option linter.unusedVariables false
set_option linter.unusedSimpArgs false
/-- A row that lies behind D. -/
def RwD {α : Type} (sz : Nat) (LAY : α → List Value) (w : World) (D : Nat) (v : Value) (l : List α) : Prop :=
  ∃ p c, v = .slice p l.length c ∧ (0 < l.length → ∃ b off, p = some ⟨b, off, none⟩ ∧ (D ≤ b ∧ b < w.heap.size) ∧ ∀ i (h : i < l.length) j x, (LAY l[i])[j]? = some x → w.cell? ⟨b, off + i * sz + j, none⟩ = some x)
structure MRD (w : World) (D : Nat) (m : M) (v : VS) : Prop where
  ri : RwD 1 lI w D v.i m.input
  ra : RwD 1 lI w D v.a m.task.args
  rn : RwD 5 lE w D v.n m.ents
  rh : RwD 1 lU w D v.h m.epochs
  rm : RwD 2 lN w D v.m m.names
  rc : RwD 1 lI w D v.c m.codes
section
variable {w w' : World} {k rb g D o : Nat} {m t : M} {v : VS} {q : RS} {bad : Bool}
theorem RwD.rw {α : Type} {sz : Nat} {LAY : α → List Value} {v : Value} {l : List α} (h : RwD sz LAY w D v l) : Rw sz LAY w w.heap.size v l := by
  obtain ⟨p, c, h1, h2⟩ := h
  refine ⟨p, c, h1, fun h => ?_⟩
  obtain ⟨b, off, h3, h4, h5⟩ := h2 h
  exact ⟨b, off, h3, h4.2, h5⟩
theorem MRD.mr (h : MRD w D m v) : MR w w.heap.size m v := ⟨h.ri.rw, h.ra.rw, h.rn.rw, h.rh.rw, h.rm.rw, h.rc.rw⟩
theorem RwD.keep {α : Type} {sz : Nat} {LAY : α → List Value} {v : Value} {l : List α} (h : RwD sz LAY w D v l) (hk : ∀ b o x, D ≤ b → w.cell? ⟨b, o, none⟩ = some x → w'.cell? ⟨b, o, none⟩ = some x) (hs : w.heap.size ≤ w'.heap.size) : RwD sz LAY w' D v l := by
  obtain ⟨p, c, h1, h2⟩ := h
  refine ⟨p, c, h1, fun h => ?_⟩
  obtain ⟨b, off, h3, h4, h5⟩ := h2 h
  exact ⟨b, off, h3, ⟨h4.1, by omega⟩, fun i hi j x hx => hk _ _ _ h4.1 (h5 i hi j x hx)⟩
theorem MRD.keep (h : MRD w D m v) (hk : ∀ b o x, D ≤ b → w.cell? ⟨b, o, none⟩ = some x → w'.cell? ⟨b, o, none⟩ = some x) (hs : w.heap.size ≤ w'.heap.size) : MRD w' D m v :=
  ⟨h.ri.keep hk hs, h.ra.keep hk hs, h.rn.keep hk hs, h.rh.keep hk hs, h.rm.keep hk hs, h.rc.keep hk hs⟩
theorem MRD.on (h : MRD w D m v) (ho : OnRd k rb g w w') (h1 : k < D ∧ rb < D ∧ g < D) : MRD w' D m v := h.keep (fun b o x hb hx => Only.cellq ho hx fun e => by rcases e with e | e | e <;> omega) ho.size
theorem RwD.nil {α : Type} {sz : Nat} {LAY : α → List Value} : RwD sz LAY w D (.slice none 0 0) ([] : List α) := ⟨none, 0, rfl, fun h => absurd h (Nat.lt_irrefl _)⟩
theorem RwD.own {α : Type} {sz : Nat} {LAY : α → List Value} {TX : TypeId} {v : Value} {l : List α} {base : Nat} (hsz : ∀ x, (LAY x).length = sz) (h : w.ownsRow base TX sz v l.length (l.flatMap LAY)) (hD : D ≤ base) : RwD sz LAY w D v l := by
  obtain ⟨p, c, h1⟩ := owns_slice h
  refine ⟨p, c, h1, fun hn => ?_⟩
  obtain ⟨b, cap, h2, h3, h4, _, h6⟩ := owns_cells h hn
  rw [h1] at h2
  injection h2 with h2 _ _
  refine ⟨b, 0, h2, ⟨by omega, h4⟩, fun i hi j x hx => ?_⟩
  have hj : j < sz := by
    rw [← hsz l[i]]
    exact (List.getElem?_eq_some_iff.1 hx).1
  have hlt : i * sz + j < l.length * sz := by
    have h7 := Nat.mul_le_mul_right sz (show i + 1 ≤ l.length from hi)
    rw [Nat.succ_mul] at h7
    omega
  rw [Nat.zero_add, h6 _ hlt, flat_at LAY sz hsz l i j hi hj, hx]
theorem KRd.lt (c : KRd w k rb q bad) : k < w.heap.size ∧ rb < w.heap.size := ⟨c.1.lt, c.2.blk.lt⟩
/-! ### Lists -/
theorem lr_i64 {T : TypeId} {A : Array Value} {most : Int}  (c : KRd w k rb q bad) (hb : Blk w g T A) (ho : A[o]? = some (.slice none 0 0)) (hgk : g ≠ k) (hgr : g ≠ rb) (hm : I64 most) (hm2 : most ≤ 1000000) (hD : D ≤ w.heap.size)  :
    Calls Try.prog 53 #[.pointer (some ⟨k, 0, none⟩), .pointer (some ⟨g, o, none⟩), .int .i64 most, .func (.func 54) #[.pointer (some ⟨k, 0, none⟩)] #[]] w
      (fun e w' => e = .returned (.tuple #[]) ∧ ∃ v, KRd w' k rb (rL most rI q).2 (bad || (rL most rI q).1.any (fun (_ : Int) => false)) ∧ Blk w' g T (A.setIfInBounds o v) ∧ RwD 1 lI w' D v (rL most rI q).1 ∧ OnRd k rb g w w') := by
  have hlt := c.lt
  refine Calls.mono (listr_i64 c hb ho hgk hgr hm hm2 fun w1 q' b' gx c1 b1 hx ho1 => ?_) fun e w' h => ?_
  · have h1 : gx ≠ k := by omega
    have h2 : gx ≠ rb := by omega
    exact Calls.mono (wholer_any c1 b1 (by decide) h1 h2) fun e w' h => ⟨h.1, h.2.1, by rw [Bool.or_false]; exact h.2.2.1, h.2.2.2⟩
  · obtain ⟨h1, v, h2⟩ := h
    exact ⟨h1, v, h2.kr, h2.blk, RwD.own (fun _ => rfl) h2.row hD, h2.on⟩
theorem lr_nm {T : TypeId} {A : Array Value} {most : Int}  (c : KRd w k rb q bad) (hb : Blk w g T A) (ho : A[o]? = some (.slice none 0 0)) (hgk : g ≠ k) (hgr : g ≠ rb) (hm : I64 most) (hm2 : most ≤ 1000000) (hD : D ≤ w.heap.size)  :
        Calls Try.prog 55 #[.pointer (some ⟨k, 0, none⟩), .pointer (some ⟨g, o, none⟩), .int .i64 most, .func (.func 56) #[.pointer (some ⟨k, 0, none⟩)] #[]] w
          (fun e w' => e = .returned (.tuple #[]) ∧ ∃ v, KRd w' k rb (rL most rNm q).2 (bad || (rL most rNm q).1.any (fun (x : Nm) => !pathB x.path)) ∧ Blk w' g T (A.setIfInBounds o v) ∧ RwD 2 lN w' D v (rL most rNm q).1 ∧ OnRd k rb g w w') := by
      have hlt := c.lt
      refine Calls.mono (listr_nm c hb ho hgk hgr hm hm2 fun w1 q' b' gx c1 b1 hx ho1 => ?_) fun e w' h => ?_
      · have h1 : gx ≠ k := by omega
        have h2 : gx ≠ rb := by omega
        exact Calls.mono (namer_any c1 b1 (by decide) h1 h2) fun e w' h => ⟨h.1, h.2.1, h.2.2.1, h.2.2.2⟩
      · obtain ⟨h1, v, h2⟩ := h
        exact ⟨h1, v, h2.kr, h2.blk, RwD.own (fun _ => rfl) h2.row hD, h2.on⟩
theorem lr_en {T : TypeId} {A : Array Value} {most : Int}  (c : KRd w k rb q bad) (hb : Blk w g T A) (ho : A[o]? = some (.slice none 0 0)) (hgk : g ≠ k) (hgr : g ≠ rb) (hm : I64 most) (hm2 : most ≤ 1000000) (hD : D ≤ w.heap.size)  :
            Calls Try.prog 47 #[.pointer (some ⟨k, 0, none⟩), .pointer (some ⟨g, o, none⟩), .int .i64 most, .func (.func 48) #[.pointer (some ⟨k, 0, none⟩)] #[]] w
              (fun e w' => e = .returned (.tuple #[]) ∧ ∃ v, KRd w' k rb (rL most rEn q).2 (bad || (rL most rEn q).1.any (fun (x : En) => !pathB x.nm.path || !resB x.res)) ∧ Blk w' g T (A.setIfInBounds o v) ∧ RwD 5 lE w' D v (rL most rEn q).1 ∧ OnRd k rb g w w') := by
          have hlt := c.lt
          refine Calls.mono (listr_en c hb ho hgk hgr hm hm2 fun w1 q' b' gx c1 b1 hx ho1 => ?_) fun e w' h => ?_
          · have h1 : gx ≠ k := by omega
            have h2 : gx ≠ rb := by omega
            exact Calls.mono (entr_any c1 b1 (by decide) h1 h2) fun e w' h => ⟨h.1, h.2.1, h.2.2.1, h.2.2.2⟩
          · obtain ⟨h1, v, h2⟩ := h
            exact ⟨h1, v, h2.kr, h2.blk, RwD.own (fun _ => rfl) h2.row hD, h2.on⟩
theorem lr_u64 {T : TypeId} {A : Array Value} {most : Int} {bx : Nat} (c : KRd w k rb q bad) (hb : Blk w g T A) (ho : A[o]? = some (.slice none 0 0)) (hgk : g ≠ k) (hgr : g ≠ rb) (hm : I64 most) (hm2 : most ≤ 1000000) (hD : D ≤ w.heap.size) (hxb : Blk w bx 47 #[.pointer (some ⟨k, 0, none⟩)]) (hxn : bx ≠ k ∧ bx ≠ rb ∧ bx ≠ g) :
                Calls Try.prog 49 #[.pointer (some ⟨k, 0, none⟩), .pointer (some ⟨g, o, none⟩), .int .i64 most, .func (.func 50) #[] #[.pointer (some ⟨bx, 0, none⟩)]] w
                  (fun e w' => e = .returned (.tuple #[]) ∧ ∃ v, KRd w' k rb (rL most (rU 281474976710656) q).2 (bad || (rL most (rU 281474976710656) q).1.any (fun (_ : Int) => false)) ∧ Blk w' g T (A.setIfInBounds o v) ∧ RwD 1 lU w' D v (rL most (rU 281474976710656) q).1 ∧ OnRd k rb g w w') := by
              have hlt := c.lt
              refine Calls.mono (listr_u64 c hb ho hgk hgr hm hm2 fun w1 q' b' gx c1 b1 hx ho1 => ?_) fun e w' h => ?_
              · have h1 : gx ≠ k := by omega
                have h2 : gx ≠ rb := by omega
                exact Calls.mono (clos_epochs (Q := fun w' => Blk w' gx _ _ ∧ KRd w' k rb _ _ ∧ Only (fun j => j = k ∨ j = rb ∨ j = gx) w1 w') ((hxb.only ho1 (fun e => by rcases e with e | e | e <;> omega)).cell 0) (numr_u64 c1 b1 (by decide) h1 h2)) fun e w' h => ⟨h.1, h.2.1, by rw [Bool.or_false]; exact h.2.2.1, h.2.2.2⟩
              · obtain ⟨h1, v, h2⟩ := h
                exact ⟨h1, v, h2.kr, h2.blk, RwD.own (fun _ => rfl) h2.row hD, h2.on⟩
theorem lr_err {T : TypeId} {A : Array Value} {most : Int} {bx : Nat} (c : KRd w k rb q bad) (hb : Blk w g T A) (ho : A[o]? = some (.slice none 0 0)) (hgk : g ≠ k) (hgr : g ≠ rb) (hm : I64 most) (hm2 : most ≤ 1000000) (hD : D ≤ w.heap.size) (hxb : Blk w bx 47 #[.pointer (some ⟨k, 0, none⟩)]) (hxn : bx ≠ k ∧ bx ≠ rb ∧ bx ≠ g) :
                    Calls Try.prog 57 #[.pointer (some ⟨k, 0, none⟩), .pointer (some ⟨g, o, none⟩), .int .i64 most, .func (.func 58) #[] #[.pointer (some ⟨bx, 0, none⟩)]] w
                      (fun e w' => e = .returned (.tuple #[]) ∧ ∃ v, KRd w' k rb (rL most (rU 9999) q).2 (bad || (rL most (rU 9999) q).1.any (fun (_ : Int) => false)) ∧ Blk w' g T (A.setIfInBounds o v) ∧ RwD 1 lI w' D v (rL most (rU 9999) q).1 ∧ OnRd k rb g w w') := by
                  have hlt := c.lt
                  refine Calls.mono (listr_err c hb ho hgk hgr hm hm2 fun w1 q' b' gx c1 b1 hx ho1 => ?_) fun e w' h => ?_
                  · have h1 : gx ≠ k := by omega
                    have h2 : gx ≠ rb := by omega
                    exact Calls.mono (clos_codes (Q := fun w' => Blk w' gx _ _ ∧ KRd w' k rb _ _ ∧ Only (fun j => j = k ∨ j = rb ∨ j = gx) w1 w') ((hxb.only ho1 (fun e => by rcases e with e | e | e <;> omega)).cell 0) (numr_err c1 b1 (by decide) h1 h2 (by decide))) fun e w' h => ⟨h.1, h.2.1, by rw [Bool.or_false]; exact h.2.2.1, h.2.2.2⟩
                  · obtain ⟨h1, v, h2⟩ := h
                    exact ⟨h1, v, h2.kr, h2.blk, RwD.own (fun _ => rfl) h2.row hD, h2.on⟩
end
/-! ### Parts -/
def nilV : Value := .slice none 0 0
/-- The slice that a part lays. -/
def vp : Pt → VS → Value
  | .I, v => v.i
  | .K, v => v.a
  | .N, v => v.n
  | .H, v => v.h
  | .A, v => v.m
  | .C, v => v.c
  | _, _ => nilV
/-- What lies, while it is read. -/
structure RdSt (w : World) (k rb g D : Nat) (t : M) (v : VS) (q : RS) (bad : Bool) : Prop where
  kr : KRd w k rb q bad
  blk : Blk w g 34 (mcells t v)
  rows : MRD w D t v
  lt : k < D ∧ rb < D ∧ g < D
  size : D ≤ w.heap.size
  gk : g ≠ k
  gr : g ≠ rb
def PartR (f : FuncId) (p : Pt) (x : M → Bool) : Prop :=
  ∀ (w : World) (k rb g D : Nat) (t : M) (v : VS) (q : RS) (bad : Bool), RdSt w k rb g D t v q bad → vp p v = nilV →
    Calls Try.prog f #[.pointer (some ⟨k, 0, none⟩), .pointer (some ⟨g, 0, none⟩)] w (fun e w' => e = .returned (.tuple #[]) ∧ ∃ v', RdSt w' k rb g D (rp p t q).1 v' (rp p t q).2 (bad || x (rp p t q).1) ∧ OnRd k rb g w w' ∧ ∀ p', p' ≠ p → vp p' v' = vp p' v)
section
variable {w w' : World} {k rb g D : Nat} {t t' : M} {v v' : VS} {q q' : RS} {bad bad' : Bool}
theorem RdSt.next (s : RdSt w k rb g D t v q bad) (hb : Blk w' g 34 (mcells t' v')) (hk : KRd w' k rb q' bad') (ho : OnRd k rb g w w') (hr : MRD w' D t' v') : RdSt w' k rb g D t' v' q' bad' :=
  ⟨hk, hb, hr, s.lt, Nat.le_trans s.size ho.size, s.gk, s.gr⟩
theorem RdSt.below (s : RdSt w k rb g D t v q bad) (hb : Below w.heap.size w w') : RdSt w' k rb g D t v q bad :=
  s.next (s.blk.below hb) (s.kr.below hb) (.of_below hb) (s.rows.on (.of_below hb : OnRd k rb g w w') s.lt)
theorem RdSt.flag (s : RdSt w k rb g D t v q bad) (b : Bool) : RdSt (w.setCell ⟨k, 2, none⟩ (.bool b)) k rb g D t v q b ∧ OnRd k rb g w (w.setCell ⟨k, 2, none⟩ (.bool b)) := by
  obtain ⟨h1, h2, h3⟩ := s.kr.flag2 s.blk s.gk b
  exact ⟨s.next h1 h2 h3 (s.rows.on h3 s.lt), h3⟩
end
theorem mlt {t : M} {v : VS} {n : Nat} (h : n < 19) : n < (mcells t v).size := h
theorem pr_job : PartR 26 .J (fun _ => false) := fun w k rb g D t v q bad s hv => by
  refine Calls.mono (part_job (Q := fun w' => Blk w' g _ _ ∧ KRd w' k rb _ _ ∧ OnRd k rb g w w') s.blk.lt (numr_u64 s.kr s.blk (mlt (by decide)) s.gk s.gr)) fun e w' h => ⟨h.1, v, s.next h.2.1 ?_ h.2.2.2 ?_, h.2.2.2, fun p' _ => rfl⟩
  · exact (by rw [Bool.or_false]; exact h.2.2.1)
  · have r := s.rows.on h.2.2.2 s.lt
    exact ⟨r.ri, r.ra, r.rn, r.rh, r.rm, r.rc⟩
theorem pr_fuel : PartR 25 .F (fun _ => false) := fun w k rb g D t v q bad s hv => by
      refine Calls.mono (part_fuel (Q := fun w' => Blk w' g _ _ ∧ KRd w' k rb _ _ ∧ OnRd k rb g w w') s.blk.lt (numr_int s.kr s.blk (mlt (by decide)) s.gk s.gr (by decide))) fun e w' h => ⟨h.1, v, s.next h.2.1 ?_ h.2.2.2 ?_, h.2.2.2, fun p' _ => rfl⟩
      · exact (by rw [Bool.or_false]; exact h.2.2.1)
      · have r := s.rows.on h.2.2.2 s.lt
        exact ⟨r.ri, r.ra, r.rn, r.rh, r.rm, r.rc⟩
theorem pr_err : PartR 27 .X (fun _ => false) := fun w k rb g D t v q bad s hv => by
          refine Calls.mono (part_err (Q := fun w' => Blk w' g _ _ ∧ KRd w' k rb _ _ ∧ OnRd k rb g w w') s.blk.lt (numr_err s.kr s.blk (mlt (by decide)) s.gk s.gr (by decide))) fun e w' h => ⟨h.1, v, s.next h.2.1 ?_ h.2.2.2 ?_, h.2.2.2, fun p' _ => rfl⟩
          · exact (by rw [Bool.or_false]; exact h.2.2.1)
          · have r := s.rows.on h.2.2.2 s.lt
            exact ⟨r.ri, r.ra, r.rn, r.rh, r.rm, r.rc⟩
theorem pr_epoch : PartR 32 .E (fun _ => false) := fun w k rb g D t v q bad s hv => by
              refine Calls.mono (part_epoch (Q := fun w' => Blk w' g _ _ ∧ KRd w' k rb _ _ ∧ OnRd k rb g w w') s.blk.lt (numr_u64 s.kr s.blk (mlt (by decide)) s.gk s.gr)) fun e w' h => ⟨h.1, v, s.next h.2.1 ?_ h.2.2.2 ?_, h.2.2.2, fun p' _ => rfl⟩
              · exact (by rw [Bool.or_false]; exact h.2.2.1)
              · have r := s.rows.on h.2.2.2 s.lt
                exact ⟨r.ri, r.ra, r.rn, r.rh, r.rm, r.rc⟩
theorem pr_state : PartR 38 .S (fun _ => false) := fun w k rb g D t v q bad s hv => by
                  refine Calls.mono (part_state (Q := fun w' => Blk w' g _ _ ∧ KRd w' k rb _ _ ∧ OnRd k rb g w w') s.blk.lt (numr_u8 s.kr s.blk (mlt (by decide)) s.gk s.gr (by decide))) fun e w' h => ⟨h.1, v, s.next h.2.1 ?_ h.2.2.2 ?_, h.2.2.2, fun p' _ => rfl⟩
                  · exact (by rw [Bool.or_false]; exact h.2.2.1)
                  · have r := s.rows.on h.2.2.2 s.lt
                    exact ⟨r.ri, r.ra, r.rn, r.rh, r.rm, r.rc⟩
theorem pr_result : PartR 39 .R (rbad .R) := fun w k rb g D t v q bad s hv => by
                      refine Calls.mono (part_result (Q := fun w' => Blk w' g _ _ ∧ KRd w' k rb _ _ ∧ OnRd k rb g w w') s.blk.lt (resr_any s.kr s.blk (mlt (by decide)) s.gk s.gr)) fun e w' h => ⟨h.1, v, s.next h.2.1 ?_ h.2.2.2 ?_, h.2.2.2, fun p' _ => rfl⟩
                      · exact (h.2.2.1)
                      · have r := s.rows.on h.2.2.2 s.lt
                        exact ⟨r.ri, r.ra, r.rn, r.rh, r.rm, r.rc⟩
theorem pr_token : PartR 36 .T (fun _ => false) := fun w k rb g D t v q bad s hv => by
                          refine Calls.mono (part_token (Q := fun w' => Blk w' g _ _ ∧ KRd w' k rb _ _ ∧ OnRd k rb g w w') s.blk.lt (textr_any s.kr s.blk (mlt (by decide)) s.gk s.gr (by unfold I64; decide))) fun e w' h => ⟨h.1, v, s.next h.2.1 ?_ h.2.2.2 ?_, h.2.2.2, fun p' _ => rfl⟩
                          · exact (by rw [Bool.or_false]; exact h.2.2.1)
                          · have r := s.rows.on h.2.2.2 s.lt
                            exact ⟨r.ri, r.ra, r.rn, r.rh, r.rm, r.rc⟩
theorem pr_program : PartR 30 .P (fun _ => false) := fun w k rb g D t v q bad s hv => by
                              refine Calls.mono (part_program (Q := fun w' => Blk w' g _ _ ∧ KRd w' k rb _ _ ∧ OnRd k rb g w w') s.blk.lt (textr_any s.kr s.blk (mlt (by decide)) s.gk s.gr (by unfold I64; decide))) fun e w' h => ⟨h.1, v, s.next h.2.1 ?_ h.2.2.2 ?_, h.2.2.2, fun p' _ => rfl⟩
                              · exact (by rw [Bool.or_false]; exact h.2.2.1)
                              · have r := s.rows.on h.2.2.2 s.lt
                                exact ⟨r.ri, r.ra, r.rn, r.rh, r.rm, r.rc⟩
theorem RwD.slice {α : Type} {sz : Nat} {LAY : α → List Value} {w : World} {D : Nat} {v : Value} {l : List α} (h : RwD sz LAY w D v l) : ∃ p c, v = .slice p l.length c := by
  obtain ⟨p, c, h1, _⟩ := h
  exact ⟨p, c, h1⟩
theorem RdSt.sl {w : World} {k rb g D : Nat} {t : M} {v : VS} {q : RS} {bad : Bool} (h : RdSt w k rb g D t v q bad) : (∃ p c, w.cell? ⟨g, 11, none⟩ = some (.slice p t.ents.length c)) ∧ (∃ p c, w.cell? ⟨g, 12, none⟩ = some (.slice p t.epochs.length c)) ∧ (∃ p c, w.cell? ⟨g, 13, none⟩ = some (.slice p t.names.length c)) := by
  obtain ⟨p1, c1, e1⟩ := h.rows.rn.slice
  obtain ⟨p2, c2, e2⟩ := h.rows.rh.slice
  obtain ⟨p3, c3, e3⟩ := h.rows.rm.slice
  exact ⟨⟨p1, c1, by rw [h.blk.cell 11, ← e1]; rfl⟩, ⟨p2, c2, by rw [h.blk.cell 12, ← e2]; rfl⟩, ⟨p3, c3, by rw [h.blk.cell 13, ← e3]; rfl⟩⟩
theorem i16 : I64 16 := by unfold I64; decide
theorem i128 : I64 128 := by unfold I64; decide
/-! ### Parts that are a list -/
theorem pr_input : PartR 37 .I (fun _ => false) := fun w k rb g D t v q bad s hv => by
  have ho : (mcells t v)[4]? = some (.slice none 0 0) := (show (mcells t v)[4]? = some v.i from rfl).trans (congrArg some hv)
  refine Calls.mono (part_input (Q := fun w' => ∃ v1, KRd w' k rb _ _ ∧ Blk w' g _ _ ∧ RwD 1 lI w' D v1 _ ∧ OnRd k rb g w w') s.blk.lt (lr_i64 s.kr s.blk ho s.gk s.gr i16 (by decide) s.size)) fun e w' h => ?_
  obtain ⟨h1, v1, h2, h3, h4, h5⟩ := h
  have r := s.rows.on h5 s.lt
  refine ⟨h1, ⟨v1, v.a, v.n, v.h, v.m, v.c⟩, s.next h3 ?_ h5 ⟨h4, r.ra, r.rn, r.rh, r.rm, r.rc⟩, h5, fun p' hp => ?_⟩
  · rw [any_none] at h2; exact h2
  · cases p' <;> first | rfl | exact absurd rfl hp
theorem pr_entries : PartR 28 .N (rbad .N) := fun w k rb g D t v q bad s hv => by
    have ho : (mcells t v)[11]? = some (.slice none 0 0) := (show (mcells t v)[11]? = some v.n from rfl).trans (congrArg some hv)
    refine Calls.mono (part_entries (Q := fun w' => ∃ v1, KRd w' k rb _ _ ∧ Blk w' g _ _ ∧ RwD 5 lE w' D v1 _ ∧ OnRd k rb g w w') s.blk.lt (lr_en s.kr s.blk ho s.gk s.gr i128 (by decide) s.size)) fun e w' h => ?_
    obtain ⟨h1, v1, h2, h3, h4, h5⟩ := h
    have r := s.rows.on h5 s.lt
    refine ⟨h1, ⟨v.i, v.a, v1, v.h, v.m, v.c⟩, s.next h3 ?_ h5 ⟨r.ri, r.ra, h4, r.rh, r.rm, r.rc⟩, h5, fun p' hp => ?_⟩
    · exact h2
    · cases p' <;> first | rfl | exact absurd rfl hp
theorem pr_names : PartR 33 .A (fun m => m.names.any fun n => !pathB n.path) := fun w k rb g D t v q bad s hv => by
      have ho : (mcells t v)[13]? = some (.slice none 0 0) := (show (mcells t v)[13]? = some v.m from rfl).trans (congrArg some hv)
      refine Calls.mono (part_names (Q := fun w' => ∃ v1, KRd w' k rb _ _ ∧ Blk w' g _ _ ∧ RwD 2 lN w' D v1 _ ∧ OnRd k rb g w w') s.blk.lt (lr_nm s.kr s.blk ho s.gk s.gr i128 (by decide) s.size)) fun e w' h => ?_
      obtain ⟨h1, v1, h2, h3, h4, h5⟩ := h
      have r := s.rows.on h5 s.lt
      refine ⟨h1, ⟨v.i, v.a, v.n, v.h, v1, v.c⟩, s.next h3 ?_ h5 ⟨r.ri, r.ra, r.rn, r.rh, h4, r.rc⟩, h5, fun p' hp => ?_⟩
      · exact h2
      · cases p' <;> first | rfl | exact absurd rfl hp
theorem pr_dropped : PartR 35 .A (fun m => (m.names.any fun n => !pathB n.path) || m.epochs.length != m.names.length) := fun w k rb g D t v q bad s hv => by
  have key := pr_names w k rb g D t v q bad s hv
  refine Calls.mono (part_dropped (n := (rp .A t q).1.epochs.length) (m := (rp .A t q).1.names.length) (b1 := bad || ((rp .A t q).1.names.any fun n => !pathB n.path)) (Q1 := fun w' => ∃ v', RdSt w' k rb g D (rp .A t q).1 v' (rp .A t q).2 (bad || ((rp .A t q).1.names.any fun n => !pathB n.path)) ∧ OnRd k rb g w w' ∧ ∀ p' : Pt, p' ≠ Pt.A → vp p' v' = vp p' v)
    (Q := fun w' => ∃ v', RdSt w' k rb g D (rp .A t q).1 v' (rp .A t q).2 ((bad || ((rp .A t q).1.names.any fun n => !pathB n.path)) || (rp .A t q).1.epochs.length != (rp .A t q).1.names.length) ∧ OnRd k rb g w w' ∧ ∀ p' : Pt, p' ≠ Pt.A → vp p' v' = vp p' v) key (fun w1 hq => ?_) (fun w1 w2 hq hb => ?_)) fun e w' h => ?_
  · obtain ⟨v', s1, _, _⟩ := hq
    have h1 := s1.sl
    exact ⟨s1.kr.c2, s1.kr.fz 2, h1.2.1, h1.2.2⟩
  · obtain ⟨v', s1, o1, hp⟩ := hq
    have c2 := (s1.below hb).flag ((bad || ((rp .A t q).1.names.any fun n => !pathB n.path)) || (rp .A t q).1.epochs.length != (rp .A t q).1.names.length)
    exact ⟨v', c2.1, (o1.trans (.of_below hb)).trans c2.2, hp⟩
  · obtain ⟨h1, v', s1, o1, hp⟩ := h
    rw [Bool.or_assoc] at s1
    exact ⟨h1, v', s1, o1, hp⟩
theorem pr_codes : PartR 34 .C (fun _ => false) := fun w k rb g D t v q bad s hv => by
  have ho : (mcells t v)[14]? = some (.slice none 0 0) := (show (mcells t v)[14]? = some v.c from rfl).trans (congrArg some hv)
  refine Calls.mono (part_codes (Q := fun w' => ∃ v1, KRd w' k rb (rL 128 (rU 9999) q).2 (bad || ((rL 128 (rU 9999) q).1.any fun _ => false)) ∧ Blk w' g 34 ((mcells t v).setIfInBounds 14 v1) ∧ RwD 1 lI w' D v1 (rL 128 (rU 9999) q).1 ∧ OnRd k rb g w w') s.blk.lt fun w2 hb hx => ?_) fun e w' h => ?_
  · have s2 := s.below hb
    have l1 := s.kr.lt
    have l2 := s.blk.lt
    exact Calls.mono (lr_err s2.kr s2.blk ho s.gk s.gr i128 (by decide) s2.size hx ⟨by omega, by omega, by omega⟩) fun e w' h => ⟨h.1, by obtain ⟨v1, h2, h3, h4, h5⟩ := h.2; exact ⟨v1, h2, h3, h4, OnRd.trans (.of_below hb) h5⟩⟩
  · obtain ⟨h1, v1, h2, h3, h4, h5⟩ := h
    have r := s.rows.on h5 s.lt
    refine ⟨h1, ⟨v.i, v.a, v.n, v.h, v.m, v1⟩, s.next h3 ?_ h5 ⟨r.ri, r.ra, r.rn, r.rh, r.rm, h4⟩, h5, fun p' hp => ?_⟩
    · rw [any_none] at h2; exact h2
    · cases p' <;> first | rfl | exact absurd rfl hp
theorem pr_epochs : PartR 29 .H (rbad .H) := fun w k rb g D t v q bad s hv => by
  have ho : (mcells t v)[12]? = some (.slice none 0 0) := (show (mcells t v)[12]? = some v.h from rfl).trans (congrArg some hv)
  refine Calls.mono (part_epochs (kd := t.kind) (n := (rp .H t q).1.epochs.length) (m := t.ents.length) (b1 := bad)
    (Q1 := fun w' => ∃ v', RdSt w' k rb g D (rp .H t q).1 v' (rp .H t q).2 bad ∧ OnRd k rb g w w' ∧ (∀ p' : Pt, p' ≠ Pt.H → vp p' v' = vp p' v) ∧ Blk w' w.heap.size 47 #[.pointer (some ⟨k, 0, none⟩)])
    (Q := fun w' => ∃ v', RdSt w' k rb g D (rp .H t q).1 v' (rp .H t q).2 (bad || (t.kind == 4 && (rp .H t q).1.epochs.length != t.ents.length)) ∧ OnRd k rb g w w' ∧ ∀ p' : Pt, p' ≠ Pt.H → vp p' v' = vp p' v) s.blk.lt (fun w2 hb hx => ?_) (fun w1 hq => ?_) (fun w1 w2 hq hb => ?_)) fun e w' h => h
  · have s2 := s.below hb
    have l1 := s.kr.lt
    have l2 := s.blk.lt
    refine Calls.mono (lr_u64 s2.kr s2.blk ho s.gk s.gr i128 (by decide) s2.size hx ⟨by omega, by omega, by omega⟩) fun e w' h => ?_
    obtain ⟨h1, v1, h2, h3, h4, h5⟩ := h
    have r := s2.rows.on h5 s.lt
    refine ⟨h1, ⟨v.i, v.a, v.n, v1, v.m, v.c⟩, s2.next h3 ?_ h5 ⟨r.ri, r.ra, r.rn, h4, r.rm, r.rc⟩, OnRd.trans (.of_below hb) h5, fun p' hp => ?_, hx.only h5 (fun e => by rcases e with e | e | e <;> omega)⟩
    · rw [any_none, Bool.or_false] at h2; exact h2
    · cases p' <;> first | rfl | exact absurd rfl hp
  · obtain ⟨v', s1, _, _, hx⟩ := hq
    have h1 := s1.sl
    exact ⟨hx.cell 0, s1.kr.c2, s1.kr.fz 2, s1.blk.cell 0, h1.2.1, h1.1⟩
  · obtain ⟨v', s1, o1, hp, _⟩ := hq
    have c2 := (s1.below hb).flag (bad || (t.kind == 4 && (rp .H t q).1.epochs.length != t.ents.length))
    exact ⟨v', c2.1, (o1.trans (.of_below hb)).trans c2.2, hp⟩
theorem pr_task : PartR 31 .K (rbad .K) := fun w k rb g D t v q bad s hv => by
  let t1 : M := { t with task := { t.task with path := tV 12 q } }
  let q1 := tS 12 q
  let t2 : M := { t1 with task := { t1.task with fn := uV 15 q1 } }
  let q2 := uS 15 q1
  let t3 : M := { t2 with task := { t2.task with args := (rL 16 rI q2).1 } }
  let q3 := (rL 16 rI q2).2
  refine Calls.mono (part_task
    (Q1 := fun w' => RdSt w' k rb g D t1 v q1 (bad || !pathB (tV 12 q)) ∧ OnRd k rb g w w')
    (Q2 := fun w' => RdSt w' k rb g D t2 v q2 (bad || !pathB (tV 12 q)) ∧ OnRd k rb g w w')
    (Q3 := fun w' => ∃ v1, RdSt w' k rb g D t3 ⟨v.i, v1, v.n, v.h, v.m, v.c⟩ q3 (bad || !pathB (tV 12 q)) ∧ OnRd k rb g w w')
    (Q := fun w' => ∃ v1, RdSt w' k rb g D (rp .K t q).1 ⟨v.i, v1, v.n, v.h, v.m, v.c⟩ (rp .K t q).2 (bad || !pathB (tV 12 q)) ∧ OnRd k rb g w w')
    ?_ (fun w1 h1 => ?_) (fun w1 h1 => ?_) (fun w1 h1 => ?_)) fun e w' h => ?_
  · refine Calls.mono (pathr_any s.kr s.blk (mlt (by decide)) s.gk s.gr) fun e w' h => ⟨h.1, s.next h.2.1 h.2.2.1 h.2.2.2 ?_, h.2.2.2⟩
    have r := s.rows.on h.2.2.2 s.lt
    exact ⟨r.ri, r.ra, r.rn, r.rh, r.rm, r.rc⟩
  · obtain ⟨s1, o1⟩ := h1
    refine Calls.mono (numr_int s1.kr s1.blk (mlt (by decide)) s.gk s.gr (by decide)) fun e w' h => ⟨h.1, s1.next h.2.1 h.2.2.1 h.2.2.2 ?_, o1.trans h.2.2.2⟩
    have r := s1.rows.on h.2.2.2 s.lt
    exact ⟨r.ri, r.ra, r.rn, r.rh, r.rm, r.rc⟩
  · obtain ⟨s1, o1⟩ := h1
    have ho : (mcells t2 v)[8]? = some (.slice none 0 0) := (show (mcells t2 v)[8]? = some v.a from rfl).trans (congrArg some hv)
    refine Calls.mono (lr_i64 s1.kr s1.blk ho s.gk s.gr i16 (by decide) s1.size) fun e w' h => ?_
    obtain ⟨h1, v1, h2, h3, h4, h5⟩ := h
    have r := s1.rows.on h5 s.lt
    refine ⟨h1, v1, s1.next h3 ?_ h5 ⟨r.ri, h4, r.rn, r.rh, r.rm, r.rc⟩, o1.trans h5⟩
    rw [any_none, Bool.or_false] at h2; exact h2
  · obtain ⟨v1, s1, o1⟩ := h1
    refine Calls.mono (numr_int s1.kr s1.blk (mlt (by decide)) s.gk s.gr (by decide)) fun e w' h => ⟨h.1, v1, s1.next h.2.1 h.2.2.1 h.2.2.2 ?_, o1.trans h.2.2.2⟩
    have r := s1.rows.on h.2.2.2 s.lt
    exact ⟨r.ri, r.ra, r.rn, r.rh, r.rm, r.rc⟩
  · obtain ⟨h1, v1, s1, o1⟩ := h
    exact ⟨h1, _, s1, o1, fun p' hp => by cases p' <;> first | rfl | exact absurd rfl hp⟩
end Go.Proofs.Ytghbjknpffiaiaa


/- A map of the call's own that holds a list of things, each under a key of its own: what it yields, what a store and a deletion leave. No condition. -/
namespace Go.Proofs.Ytghbjknpffiaiaa
open Go.RowKit Go.Maps
set_option linter.unusedVariables false
namespace Ml
abbrev DV := DataW Unit
variable {α : Type}
/-- How things lie in a map: their keys, their values, their data. -/
structure Lay (α : Type) where
  key : α → Lit
  val : α → Value
  dat : α → DV
  rd : Value → Option (DV × List MemPlace)
  rdm : ∀ a, rd (val a) = some (dat a, [])
  inv : ∀ v a ps, rd v = some (dat a, ps) → v = val a
  lit : ∀ a, WideAt.IsKeyLit (key a)
variable (l : Lay α)
/-- The map in block h holds the things of L. -/
def At (P : Program) (K : TypeId) (w : World) (h : Nat) (L : List α) (N : Nat) : Prop :=
  ∃ D : DV, w.ownsMap P K l.rd h N D ∧ (∀ a ∈ L, ∀ zd, D.atKey (l.key a) zd = l.dat a) ∧ (∀ k, Maps.has D k = true ↔ ∃ a ∈ L, l.key a = k) ∧ Maps.size D = L.length
variable {l}
section
variable {P : Program} {K : TypeId} {w w' : World} {h N : Nat} {L : List α}
theorem At.kept (m : At l P K w h L N) {row : Option Nat} (hg : w.grownBy w' row) (hne : some h ≠ row) : At l P K w' h L N := by
  obtain ⟨D, o, r⟩ := m; exact ⟨D, o.kept hg hne, r⟩
theorem At.lt (m : At l P K w h L N) : h < w.heap.size := by obtain ⟨D, o, r⟩ := m; exact o.lt
theorem At.mono (m : At l P K w h L N) {M : Nat} (hm : N ≤ M) : At l P K w h L M := by obtain ⟨D, o, r⟩ := m; exact ⟨D, o.mono hm, r⟩
theorem At.only {S : Nat → Prop} (m : At l P K w h L N) (ho : Only S w w') (hs : ¬ S h) : At l P K w' h L N := by
  have hl := m.lt
  obtain ⟨D, ⟨es, clock, hb, F, hs', hD⟩, r⟩ := m
  exact ⟨D, ⟨es, clock, (ho.block h hl hs).trans hb, F, hs', hD⟩, r⟩
theorem At.below (m : At l P K w h L N) (hb : Below w.heap.size w w') : At l P K w' h L N := m.only (Only.of_below (S := fun _ => False) hb) id
theorem At.no_cells (m : At l P K w h L N) {T : TypeId} {A : Array Value} (hk : Blk w h T A) : False := by
  obtain ⟨D, ⟨es, clock, hb, _⟩, _⟩ := m
  unfold Blk at hk
  rw [hk] at hb; cases hb
theorem At.look (m : At l P K w h L N) (kd : Keyed P K) {T V : TypeId} (ht : P.underlying T = some (.map K V)) {z : α} (hz : (zeroValue V).run P w = .ok (l.val z) w) {a : α} (ha : a ∈ L) {k : Value} (hk : keyOf P K k = some (l.key a)) :
    (Instr.lookup T (.map (some h)) k true).run P w = .ok (.tuple #[l.val a, .bool true]) w := by
  obtain ⟨D, o, h1, h2, h3⟩ := m
  obtain ⟨v, ps, hr, hv⟩ := World.ownsMap.look_ok o kd ht hz (l.rdm z) hk
  rw [h1 a ha] at hv
  rw [hr, l.inv _ _ _ hv, (h2 (l.key a)).2 ⟨a, ha, rfl⟩]
theorem At.miss (m : At l P K w h L N) (kd : Keyed P K) {T V : TypeId} (ht : P.underlying T = some (.map K V)) {z : α} (hz : (zeroValue V).run P w = .ok (l.val z) w) {kl : Lit} (ha : ¬ ∃ a ∈ L, l.key a = kl) {k : Value} (hk : keyOf P K k = some kl) :
    (Instr.lookup T (.map (some h)) k true).run P w = .ok (.tuple #[l.val z, .bool false]) w := by
  obtain ⟨D, o, h1, h2, h3⟩ := m
  obtain ⟨v, ps, hr, hv⟩ := World.ownsMap.look_ok o kd ht hz (l.rdm z) hk
  have hf : Maps.has D kl = false := by
    cases hh : Maps.has D kl with
    | false => rfl
    | true => exact absurd ((h2 kl).1 hh) ha
  rw [atKey_of_not_has hf] at hv
  rw [hr, l.inv _ _ _ hv, hf]
theorem At.at (m : At l P K w h L N) (kd : Keyed P K) {T V : TypeId} (ht : P.underlying T = some (.map K V)) {z : Value} {zd : DV} (hz : (zeroValue V).run P w = .ok z w) (hzd : l.rd z = some (zd, [])) {a : α} (ha : a ∈ L) {k : Value} (hk : keyOf P K k = some (l.key a)) :
    (Instr.lookup T (.map (some h)) k false).run P w = .ok (l.val a) w := by
  obtain ⟨D, o, h1, h2, h3⟩ := m
  obtain ⟨v, ps, hr, hv⟩ := World.ownsMap.lookup o kd ht hz hzd hk
  rw [h1 a ha] at hv
  rw [hr, l.inv _ _ _ hv]
/-- The datum behind a store of what was not there. -/
theorem put_ok {D : DV} (hD : IsMap D) (hT : Tidy D) (h1 : ∀ a ∈ L, ∀ zd, D.atKey (l.key a) zd = l.dat a) (h2 : ∀ k, Maps.has D k = true ↔ ∃ a ∈ L, l.key a = k) (h3 : Maps.size D = L.length) (g : α) (hn : ¬ ∃ a ∈ L, l.key a = l.key g) :
    (∀ a ∈ L ++ [g], ∀ zd, (D.put (l.key g) (l.dat g)).atKey (l.key a) zd = l.dat a) ∧ (∀ k, Maps.has (D.put (l.key g) (l.dat g)) k = true ↔ ∃ a ∈ L ++ [g], l.key a = k) ∧ Maps.size (D.put (l.key g) (l.dat g)) = (L ++ [g]).length := by
  have hk := l.lit g
  have hf : Maps.has D (l.key g) = false := by
    cases hh : Maps.has D (l.key g) with
    | false => rfl
    | true => exact absurd ((h2 _).1 hh) hn
  refine ⟨fun a ha zd => ?_, fun x => ?_, ?_⟩
  · rcases List.mem_append.1 ha with ha | ha
    · rw [atKey_put_other (fun e => hn ⟨a, ha, e⟩), h1 a ha]
    · simp at ha; subst ha; exact atKey_put_same hD hk _ _
  · by_cases hx : x = l.key g
    · subst hx
      rw [has_put_same hD hk]
      exact ⟨fun _ => ⟨g, by simp, rfl⟩, fun _ => rfl⟩
    · rw [has_put_other hx, h2 x]
      constructor
      · rintro ⟨a, ha, e⟩; exact ⟨a, by simp [ha], e⟩
      · rintro ⟨a, ha, e⟩
        rcases List.mem_append.1 ha with ha | ha
        · exact ⟨a, ha, e⟩
        · simp at ha; subst ha; exact absurd e.symm hx
  · rw [size_put hT, hf]; simp [h3]
/-- .. of another thing under a key that was there. -/
theorem set_ok [DecidableEq Lit] {D : DV} (hD : IsMap D) (hT : Tidy D) (h1 : ∀ a ∈ L, ∀ zd, D.atKey (l.key a) zd = l.dat a) (h2 : ∀ k, Maps.has D k = true ↔ ∃ a ∈ L, l.key a = k) (h3 : Maps.size D = L.length) (g : α) (hy : ∃ a ∈ L, l.key a = l.key g) :
    (∀ a ∈ L.map (fun a => if l.key a = l.key g then g else a), ∀ zd, (D.put (l.key g) (l.dat g)).atKey (l.key a) zd = l.dat a) ∧ (∀ k, Maps.has (D.put (l.key g) (l.dat g)) k = true ↔ ∃ a ∈ L.map (fun a => if l.key a = l.key g then g else a), l.key a = k) ∧ Maps.size (D.put (l.key g) (l.dat g)) = (L.map (fun a => if l.key a = l.key g then g else a)).length := by
  have hk := l.lit g
  have hf : Maps.has D (l.key g) = true := (h2 _).2 hy
  have hkey : ∀ a, l.key (if l.key a = l.key g then g else a) = l.key a := fun a => by split <;> simp_all
  refine ⟨fun a ha zd => ?_, fun x => ?_, ?_⟩
  · obtain ⟨b, hb, rfl⟩ := List.mem_map.1 ha
    by_cases he : l.key b = l.key g
    · rw [if_pos he]; exact atKey_put_same hD hk _ _
    · rw [if_neg he, atKey_put_other he, h1 b hb]
  · by_cases hx : x = l.key g
    · subst hx
      rw [has_put_same hD hk]
      obtain ⟨a, ha, e⟩ := hy
      exact ⟨fun _ => ⟨_, List.mem_map.2 ⟨a, ha, rfl⟩, by rw [hkey, e]⟩, fun _ => rfl⟩
    · rw [has_put_other hx, h2 x]
      constructor
      · rintro ⟨a, ha, e⟩; exact ⟨_, List.mem_map.2 ⟨a, ha, rfl⟩, by rw [hkey, e]⟩
      · rintro ⟨a, ha, e⟩
        obtain ⟨b, hb, rfl⟩ := List.mem_map.1 ha
        exact ⟨b, hb, by rw [← e, hkey]⟩
  · rw [size_put hT, hf]; simp [h3]
theorem filter_len {key : α → Lit} {x : Lit} [DecidableEq Lit] : ∀ (L : List α), L.Pairwise (fun a b => key a ≠ key b) → (L.filter (fun g => !(decide (key g = x)))).length + (if L.any (fun g => decide (key g = x)) then 1 else 0) = L.length := by
  intro L hl
  induction L with
  | nil => rfl
  | cons a L ih =>
    obtain ⟨ha, hl⟩ := List.pairwise_cons.1 hl
    have := ih hl
    rw [List.filter_cons, List.any_cons, List.length_cons]
    by_cases he : key a = x
    · have hno : L.any (fun g => decide (key g = x)) = false := by
        rw [List.any_eq_false]; intro g hg; have := ha g hg; simp; intro e; exact this (he.trans e.symm)
      rw [hno] at this ⊢
      simp only [he, decide_true, Bool.not_true, Bool.true_or, if_true]
      simp at this ⊢; omega
    · simp only [he, decide_false, Bool.not_false, if_true, Bool.false_or, List.length_cons]; omega
/-- The datum behind a deletion. -/
theorem del_ok [DecidableEq Lit] {D : DV} (hD : IsMap D) (hT : Tidy D) (h1 : ∀ a ∈ L, ∀ zd, D.atKey (l.key a) zd = l.dat a) (h2 : ∀ k, Maps.has D k = true ↔ ∃ a ∈ L, l.key a = k) (h3 : Maps.size D = L.length) (hnd : L.Pairwise (fun a b => l.key a ≠ l.key b)) (x : Lit) :
    (∀ a ∈ L.filter (fun g => !(decide (l.key g = x))), ∀ zd, (D.del x).atKey (l.key a) zd = l.dat a) ∧ (∀ k, Maps.has (D.del x) k = true ↔ ∃ a ∈ L.filter (fun g => !(decide (l.key g = x))), l.key a = k) ∧ Maps.size (D.del x) = (L.filter (fun g => !(decide (l.key g = x)))).length := by
  refine ⟨fun a ha zd => ?_, fun k => ?_, ?_⟩
  · obtain ⟨hm, hne⟩ := List.mem_filter.1 ha
    rw [atKey_del_other (by simpa using hne), h1 a hm]
  · by_cases hx : k = x
    · subst hx
      rw [has_del_same]
      simp
    · rw [has_del_other hx, h2 k]
      constructor
      · rintro ⟨a, ha, e⟩; exact ⟨a, List.mem_filter.2 ⟨ha, by simp [e, hx]⟩, e⟩
      · rintro ⟨a, ha, e⟩; exact ⟨a, (List.mem_filter.1 ha).1, e⟩
  · have hs := size_del (k := x) hT
    have h4 := filter_len (key := l.key) (x := x) L hnd
    have h5 : Maps.has D x = L.any (fun g => decide (l.key g = x)) := by
      rw [Bool.eq_iff_iff, h2 x, List.any_eq_true]; simp
    rw [h5, h3] at hs
    omega
theorem At.of_put {D : DV} (kd : Keyed P K) (o : w.ownsMap P K l.rd h N D) (h1 : ∀ a ∈ L, ∀ zd, D.atKey (l.key a) zd = l.dat a) (h2 : ∀ k, Maps.has D k = true ↔ ∃ a ∈ L, l.key a = k) (h3 : Maps.size D = L.length) {g : α} (hn : ¬ ∃ a ∈ L, l.key a = l.key g)
    {M : Nat} (o' : w'.ownsMap P K l.rd h M (D.put (l.key g) (l.dat g))) : At l P K w' h (L ++ [g]) M := by
  obtain ⟨p1, p2, p3⟩ := put_ok o.isMap (o.tidy kd) h1 h2 h3 g hn
  exact ⟨_, o', p1, p2, p3⟩
theorem At.of_set [DecidableEq Lit] {D : DV} (kd : Keyed P K) (o : w.ownsMap P K l.rd h N D) (h1 : ∀ a ∈ L, ∀ zd, D.atKey (l.key a) zd = l.dat a) (h2 : ∀ k, Maps.has D k = true ↔ ∃ a ∈ L, l.key a = k) (h3 : Maps.size D = L.length) {g : α} (hy : ∃ a ∈ L, l.key a = l.key g)
    {M : Nat} (o' : w'.ownsMap P K l.rd h M (D.put (l.key g) (l.dat g))) : At l P K w' h (L.map (fun a => if l.key a = l.key g then g else a)) M := by
  obtain ⟨p1, p2, p3⟩ := set_ok o.isMap (o.tidy kd) h1 h2 h3 g hy
  exact ⟨_, o', p1, p2, p3⟩
theorem At.of_del [DecidableEq Lit] {D : DV} (kd : Keyed P K) (o : w.ownsMap P K l.rd h N D) (h1 : ∀ a ∈ L, ∀ zd, D.atKey (l.key a) zd = l.dat a) (h2 : ∀ k, Maps.has D k = true ↔ ∃ a ∈ L, l.key a = k) (h3 : Maps.size D = L.length) (hnd : L.Pairwise (fun a b => l.key a ≠ l.key b)) {x : Lit}
    {M : Nat} (o' : w'.ownsMap P K l.rd h M (D.del x)) : At l P K w' h (L.filter (fun g => !(decide (l.key g = x)))) M := by
  obtain ⟨p1, p2, p3⟩ := del_ok o.isMap (o.tidy kd) h1 h2 h3 hnd x
  exact ⟨_, o', p1, p2, p3⟩
/-- A map that was made just now. -/
theorem At.made (w : World) (P : Program) (K : TypeId) (l : Lay α) : At l P K (w.alloc (.map #[] 0)) w.heap.size [] 0 :=
  ⟨_, World.ownsMap_made (H := Unit) w P K l.rd, (fun a ha => by simp at ha), (fun k => by simp [Maps.has]), rfl⟩
end
end Ml
end Go.Proofs.Ytghbjknpffiaiaa


/- The walk of has: a map made anew, of what parts each kind has. No condition. -/
namespace Go.Proofs.Ytghbjknpffiaiaa
open Go.RowKit Go.Maps Wire Ms
set_option linter.unusedVariables false
set_option linter.unusedSimpArgs false
def KU8 (x : Int) : Lit := .int .u8 x
theorem kdU8 : Keyed Try.prog 5 := int_keyed Try.underlying5
theorem keyU8 {x : Int} (h : 0 ≤ x ∧ x ≤ 255) : keyOf Try.prog 5 (.int .u8 x) = some (KU8 x) := keyOf_int_mk Try.underlying5 (WalkArith.wf_u8 (by omega))
/-- A kind, and where its functions lie. -/
structure FE where
  k : Int
  b : Nat
  A : Array Value
def fval (a : FE) : Value := if a.A.size = 0 then .slice none 0 0 else .slice (some ⟨a.b, 0, none⟩) a.A.size a.A.size
def fdat (a : FE) : Ml.DV := if a.A.size = 0 then .agg [] else .agg [.lit (.int .i64 (a.b : Int)), .lit (.int .i64 (a.A.size : Int))]
def frd : Value → Option (Ml.DV × List MemPlace)
  | .slice none 0 0 => some (.agg [], [])
  | .slice (some ⟨b, 0, none⟩) n m => if n = m ∧ n ≠ 0 then some (.agg [.lit (.int .i64 (b : Int)), .lit (.int .i64 (n : Int))], []) else none
  | _ => none
theorem frd_ok (a : FE) : frd (fval a) = some (fdat a, []) := by
  unfold fval fdat
  by_cases h : a.A.size = 0
  · rw [if_pos h, if_pos h]; rfl
  · rw [if_neg h, if_neg h]
    show (if a.A.size = a.A.size ∧ a.A.size ≠ 0 then some _ else none) = _
    rw [if_pos ⟨rfl, h⟩]
theorem frd_inv (v : Value) (a : FE) (ps : List MemPlace) (h : frd v = some (fdat a, ps)) : v = fval a := by
  unfold frd at h
  split at h
  · injection h with h
    injection h with h _
    unfold fdat at h
    unfold fval
    by_cases hz : a.A.size = 0
    · rw [if_pos hz]
    · rw [if_neg hz] at h; simp at h
  · rename_i b n m
    split at h
    · rename_i hc
      injection h with h
      injection h with h _
      unfold fdat at h
      unfold fval
      by_cases hz : a.A.size = 0
      · rw [if_pos hz] at h; simp at h
      · rw [if_neg hz] at h
        rw [if_neg hz]
        simp only [DataW.agg.injEq, List.cons.injEq, DataW.lit.injEq, Lit.int.injEq, and_true, true_and] at h
        obtain ⟨h1, h2⟩ := h
        have e1 : b = a.b := by omega
        have e2 : n = a.A.size := by omega
        rw [← hc.1, e1, e2]
    · cases h
  · cases h
def layF : Ml.Lay FE where
  key a := KU8 a.k
  val := fval
  dat := fdat
  rd := frd
  rdm := frd_ok
  inv := frd_inv
  lit _ := trivial
def fcell (f : FuncId) : Value := .func (.func f) #[] #[]
structure FX (w0 w : World) (h fb jb : Nat) (L : List FE) : Prop where
  map : Ml.At layF Try.prog 5 w h L L.length
  row : ∀ a ∈ L, a.A.size ≠ 0 → Blk w a.b 68 a.A
  bel : Below w0.heap.size w0 w
  fu : Blk w fb 68 #[fcell 25]
  jo : Blk w jb 68 #[fcell 26]
  ge : w0.heap.size ≤ h
section
variable {w0 w w' : World} {h fb jb : Nat} {L : List FE}
theorem FX.to (x : FX w0 w h fb jb L) (hb : Below w.heap.size w w') : FX w0 w' h fb jb L :=
  ⟨x.map.below hb, fun a ha hn => (x.row a ha hn).below hb, x.bel.trans (hb.mono x.bel.size), x.fu.below hb, x.jo.below hb, x.ge⟩
theorem FX.alloc (x : FX w0 w h fb jb L) (o : Obj) : FX w0 (w.alloc o) h fb jb L := x.to ((Below.refl _ w).alloc (Nat.le_refl _) o)
theorem FX.ins (x : FX w0 w h fb jb L) {g : FE} {D : Ml.DV} (hb : w.grownBy w' (some h)) (hm : Ml.At layF Try.prog 5 w' h (L ++ [g]) (L.length + 1)) (hr : g.A.size ≠ 0 → Blk w g.b 68 g.A) : FX w0 w' h fb jb (L ++ [g]) := by
  have o : Only (· = h) w w' := ⟨hb.os, hb.tape, hb.output, hb.size, fun i hi hne => hb.block i hi (fun e => hne (by injection e))⟩
  have nb : ∀ {b : Nat} {A : Array Value}, Blk w b 68 A → Blk w' b 68 A := fun {b A} hk => hk.only o (fun e => by
    have e' : b = h := e
    rw [e'] at hk
    exact x.map.no_cells hk)
  refine ⟨by rw [List.length_append]; exact hm, fun a ha hn => ?_, x.bel.trans (Only.below o x.bel.size fun k hk => by have := x.ge; have e : k = h := hk; omega), nb x.fu, nb x.jo, x.ge⟩
  rcases List.mem_append.1 ha with ha | ha
  · exact nb (x.row a ha hn)
  · simp at ha; subst ha; exact nb (hr hn)
end
section
variable {w0 w : World} {h fb jb : Nat} {L : List FE} {ops : Array Oper} {rest : List Oper} {o : Oper} {a : Act} {Q : Exit → Act → World → Prop}
theorem wplIns (hg : o.guard = none) (m x v : Operand) (hop : o.op = Op.insert 66 m x v) (hp : FX w0 w h fb jb L) (hm : a.eval m = .map (some h)) (g : FE) (hx : a.eval x = .int .u8 g.k) (hv : a.eval v = fval g)
    (hk : 0 ≤ g.k ∧ g.k ≤ 255) (hL : Nat.ble L.length 99 = true) (hn : ¬ ∃ b ∈ L, b.k = g.k) (hr : g.A.size ≠ 0 → Blk w g.b 68 g.A) (hK : ∀ w', FX w0 w' h fb jb (L ++ [g]) → wpList Try.prog ops Q rest (a.put o.dst undef) w') :
    wpList Try.prog ops Q (o :: rest) a w := by
  refine wpList_plain hg fun K' hK' => ?_
  have hm0 := hp.map
  obtain ⟨D, hown, h1, h2, h3⟩ := hm0
  obtain ⟨w', hrun, r1, r2⟩ := hown.update kdU8 Try.underlying66 (by have := Nat.le_of_ble_eq_true hL; unfold maxLen; omega) (keyU8 hk) (frd_ok g)
  unfold Oper.wp
  simp [execOp, hop, hm, hx, hv, hrun, Result.andThen]
  refine hK' _ _ (hK w' (hp.ins (D := D) r2 ?_ hr))
  exact Ml.At.of_put (l := layF) kdU8 hown h1 h2 h3 (g := g) (fun ⟨b, hb, e⟩ => hn ⟨b, hb, by have e' : KU8 b.k = KU8 g.k := e; unfold KU8 at e'; injection e'⟩) r1
theorem insNil (hg : o.guard = none) (m x v : Operand) (hop : o.op = Op.insert 66 m x v) (hv : a.eval v = .slice none 0 0) (hp : FX w0 w h fb jb L) (hm : a.eval m = .map (some h)) {k : Int} (hx : a.eval x = .int .u8 k)
    (hk : 0 ≤ k ∧ k ≤ 255) (hL : Nat.ble L.length 99 = true) (hn : L.all (fun b => !decide (b.k = k)) = true) (hK : ∀ w', FX w0 w' h fb jb (L ++ [⟨k, 0, #[]⟩]) → wpList Try.prog ops Q rest (a.put o.dst undef) w') :
    wpList Try.prog ops Q (o :: rest) a w :=
  wplIns hg m x v hop hp hm ⟨k, 0, #[]⟩ hx hv hk hL (fun ⟨b, hb, e⟩ => by have := List.all_eq_true.1 hn b hb; simp [e] at this) (fun h => absurd rfl h) hK
theorem insRow {b : Nat} {A : Array Value} (hr : Blk w b 68 A) (hg : o.guard = none) (m x v : Operand) (hop : o.op = Op.insert 66 m x v) {n : Nat} (hv : a.eval v = .slice (some ⟨b, 0, none⟩) n n) (hp : FX w0 w h fb jb L) (hm : a.eval m = .map (some h)) {k : Int} (hx : a.eval x = .int .u8 k)
    (hA : A.size = n) (hnz : n ≠ 0) (hk : 0 ≤ k ∧ k ≤ 255) (hL : Nat.ble L.length 99 = true) (hn : L.all (fun b => !decide (b.k = k)) = true) (hK : ∀ w', FX w0 w' h fb jb (L ++ [⟨k, b, A⟩]) → wpList Try.prog ops Q rest (a.put o.dst undef) w') :
    wpList Try.prog ops Q (o :: rest) a w :=
  wplIns hg m x v hop hp hm ⟨k, b, A⟩ hx (by rw [hv]; unfold fval; dsimp only; rw [hA, if_neg hnz]) hk hL (fun ⟨b, hb, e⟩ => by have := List.all_eq_true.1 hn b hb; simp [e] at this) (fun _ => hr) hK
theorem insNew {A : Array Value} (hg : o.guard = none) (m x v : Operand) (hop : o.op = Op.insert 66 m x v) {n : Nat} (hv : a.eval v = .slice (some ⟨w.heap.size, 0, none⟩) n n) (hp : FX w0 w h fb jb L) (hm : a.eval m = .map (some h)) {k : Int} (hx : a.eval x = .int .u8 k)
    (hA : A.size = n) (hnz : n ≠ 0) (hk : 0 ≤ k ∧ k ≤ 255) (hL : Nat.ble L.length 99 = true) (hn : L.all (fun b => !decide (b.k = k)) = true) (hK : ∀ w', FX w0 w' h fb jb (L ++ [⟨k, w.heap.size, A⟩]) → wpList Try.prog ops Q rest (a.put o.dst undef) w') :
    wpList Try.prog ops Q (o :: rest) a (w.alloc (.cells A 68)) :=
  insRow (Blk.new w 68 A) hg m x v hop hv (hp.alloc _) hm hx hA hnz hk hL hn hK
end
/-- What parts each kind has. -/
def ftable : List (Int × Array Value) :=
  [(1, #[]), (2, #[]), (5, #[]), (3, #[fcell 25]), (9, #[fcell 25]), (14, #[fcell 26]), (15, #[fcell 26]), (16, #[fcell 26]), (6, #[fcell 27]), (4, #[fcell 28, fcell 29]),
   (7, #[fcell 26, fcell 30, fcell 31, fcell 32, fcell 28, fcell 33]), (8, #[fcell 34]), (10, #[fcell 26, fcell 31, fcell 32]), (11, #[fcell 28]), (12, #[fcell 29, fcell 35]),
   (13, #[fcell 36, fcell 30, fcell 37, fcell 25]), (17, #[fcell 26, fcell 38, fcell 39])]
def HasPost (w : World) (e : Ending) (w' : World) : Prop := ∃ h fb jb L, e = .returned (.map (some h)) ∧ FX w w' h fb jb L ∧ L.map (fun a => (a.k, a.A)) = ftable
set_option maxRecDepth 100000 in
set_option maxHeartbeats 4000000 in
theorem has_any (w : World) : Calls Try.prog 21 #[] w (HasPost w) := by
  have hmm := @run_makeMap Try.prog
  have B1 := Blk.new w 68 #[fcell 25]
  have B2 := Blk.new (w.alloc (.cells #[fcell 25] 68)) 68 #[fcell 26]
  have e1 : (w.alloc (.cells #[fcell 25] 68)).heap.size = w.heap.size + 1 := by simp
  have e2 : ((w.alloc (.cells #[fcell 25] 68)).alloc (.cells #[fcell 26] 68)).heap.size = w.heap.size + 1 + 1 := by simp
  have MM := Ml.At.made ((w.alloc (.cells #[fcell 25] 68)).alloc (.cells #[fcell 26] 68)) Try.prog 5 layF
  rw [e2] at MM
  rw [e1] at B2
  have HP : Hid (FX w (((w.alloc (.cells #[fcell 25] 68)).alloc (.cells #[fcell 26] 68)).alloc (.map #[] 0)) (w.heap.size + 1 + 1) w.heap.size (w.heap.size + 1) []) := Lib.hid
    ⟨MM, (fun a ha => by simp at ha), (((Below.refl _ w).alloc (Nat.le_refl _) _).alloc (by simp) _).alloc (by simp; omega) _, (B1.alloc _).alloc _, B2.alloc _, by omega⟩
  clear MM e1 e2
  clear B1 B2
  go_enter Try.func21, Try.ntmps21
  go_wp2_with (first
    | (refine insNil rfl _ _ _ rfl rfl HP.out rfl rfl (by decide) rfl rfl ?_; clear HP; intro w9 hp9; have HP := Lib.hid hp9; clear hp9)
    | (refine insNew rfl _ _ _ rfl rfl HP.out rfl rfl rfl (by decide) (by decide) rfl rfl ?_; clear HP; intro w9 hp9; have HP := Lib.hid hp9; clear hp9)
    | (refine insRow HP.out.fu rfl _ _ _ rfl rfl HP.out rfl rfl rfl (by decide) (by decide) rfl rfl ?_; clear HP; intro w9 hp9; have HP := Lib.hid hp9; clear hp9)
    | (refine insRow HP.out.jo rfl _ _ _ rfl rfl HP.out rfl rfl rfl (by decide) (by decide) rfl rfl ?_; clear HP; intro w9 hp9; have HP := Lib.hid hp9; clear hp9))
  go_ret
  exact ⟨_, _, _, _, rfl, HP.out, rfl⟩
end Go.Proofs.Ytghbjknpffiaiaa


/- The walk of a coder's msg: the kind, the parts that it has, each in turn. Both ways at once. No condition. -/
namespace Go.Proofs.Ytghbjknpffiaiaa
open Go.RowKit Go.Maps Wire Ms
set_option linter.unusedVariables false
set_option linter.unusedSimpArgs false
def pf (K : Int) : Pt → FuncId
  | .J => 26
  | .T => 36
  | .P => 30
  | .I => 37
  | .F => 25
  | .K => 31
  | .E => 32
  | .N => 28
  | .H => 29
  | .A => if K = 12 then 35 else 33
  | .C => 34
  | .S => 38
  | .R => 39
  | .X => 27
def allF : List FuncId := [26, 36, 30, 37, 25, 31, 32, 28, 29, 35, 33, 34, 38, 39, 27]
theorem pf_mem (K : Int) (p : Pt) : pf K p ∈ allF := by
  cases p <;> (unfold pf; dsimp only; first | decide | (split <;> decide))
def fA (K : Int) : Array Value := ((kp K).map fun p => fcell (pf K p)).toArray
theorem fA_size (K : Int) : (fA K).size = (kp K).length := by unfold fA; simp
theorem table_in {K : Int} {A : Array Value} (h : (K, A) ∈ ftable) : kB K = true ∧ A = fA K := by
  unfold ftable at h
  simp only [List.mem_cons, Prod.mk.injEq, List.not_mem_nil, or_false] at h
  rcases h with ⟨rfl, rfl⟩ | ⟨rfl, rfl⟩ | ⟨rfl, rfl⟩ | ⟨rfl, rfl⟩ | ⟨rfl, rfl⟩ | ⟨rfl, rfl⟩ | ⟨rfl, rfl⟩ | ⟨rfl, rfl⟩ | ⟨rfl, rfl⟩ | ⟨rfl, rfl⟩ | ⟨rfl, rfl⟩ | ⟨rfl, rfl⟩ | ⟨rfl, rfl⟩ | ⟨rfl, rfl⟩ | ⟨rfl, rfl⟩ | ⟨rfl, rfl⟩ | ⟨rfl, rfl⟩ <;> exact ⟨rfl, rfl⟩
theorem table_has {K : Int} (h : kB K = true) : ∃ A, (K, A) ∈ ftable := by
  unfold kB at h
  rw [Bool.and_eq_true, decide_eq_true_eq, decide_eq_true_eq] at h
  have h' : K ∈ ftable.map Prod.fst := by
    show K ∈ [1, 2, 5, 3, 9, 14, 15, 16, 6, 4, 7, 8, 10, 11, 12, 13, 17]
    simp only [List.mem_cons, List.not_mem_nil, or_false]
    omega
  obtain ⟨⟨K', A⟩, h1, h2⟩ := List.mem_map.1 h'
  have h2' : K' = K := h2
  subst h2'
  exact ⟨A, h1⟩
theorem zF (w : World) : (zeroValue 64).run Try.prog w = .ok (.slice none 0 0) w := Try.zeroValue64 w
theorem fx_look {w w1 : World} {h fb jb : Nat} {L : List FE} {K : Int} (hK : 0 ≤ K ∧ K ≤ 255) (x : FX w w1 h fb jb L) (ht : L.map (fun a => (a.k, a.A)) = ftable) :
    ∃ b, (Instr.lookup 66 (.map (some h)) (.int .u8 K) true).run Try.prog w1 = .ok (.tuple #[fval ⟨K, b, fA K⟩, .bool (kB K)]) w1 ∧ ((fA K).size ≠ 0 → Blk w1 b 68 (fA K)) := by
  cases hk : kB K with
  | true =>
    obtain ⟨A, hA⟩ := table_has hk
    have hA' := hA
    rw [← ht] at hA'
    obtain ⟨a, ha, he⟩ := List.mem_map.1 hA'
    injection he with e1 e2
    have e3 := (table_in hA).2
    obtain ⟨ak, ab, aA⟩ := a
    dsimp only at e1 e2
    subst e1 e2
    refine ⟨ab, ?_, fun hn => by have := x.row _ ha; rw [← e3] at hn ⊢; exact this hn⟩
    have hl := x.map.look kdU8 Try.underlying66 (z := ⟨0, 0, #[]⟩) (zF w1) ha (keyU8 hK)
    rw [hl, e3]; rfl
  | false =>
    have hnone : kp K = [] := kp_far hk
    refine ⟨0, ?_, fun hn => by rw [fA_size, hnone] at hn; exact absurd rfl hn⟩
    have hl := x.map.miss kdU8 Try.underlying66 (z := ⟨0, 0, #[]⟩) (zF w1) (kl := KU8 K) (fun ⟨a, ha, e⟩ => by
      have e' : KU8 a.k = KU8 K := e
      unfold KU8 at e'
      injection e' with _ e'
      have hm : (a.k, a.A) ∈ ftable := by rw [← ht]; exact List.mem_map.2 ⟨a, ha, rfl⟩
      have := (table_in hm).1
      rw [e', hk] at this
      cases this) (keyU8 hK)
    rw [hl]
    have e : fA K = #[] := by unfold fA; rw [hnone]; rfl
    unfold layF
    dsimp only
    rw [e]; rfl
def MsMid (K : Int) (w1 : World) (v4 v5 : Value) (wc : World) : Prop := v5 = .bool (kB K) ∧ (∃ b, v4 = fval ⟨K, b, fA K⟩ ∧ ((fA K).size ≠ 0 → Blk wc b 68 (fA K))) ∧ Below w1.heap.size w1 wc
section
variable {w : World} {k g : Nat} {K : Int} {b1 : Bool} {Q0 : World → Prop} {R : World → Nat → World → Prop}
set_option maxRecDepth 100000 in
set_option maxHeartbeats 4000000 in
theorem msg_any (hK : 0 ≤ K ∧ K ≤ 255) (hg : g < w.heap.size)
    (h0 : Calls Try.prog 20 #[.pointer (some ⟨k, 0, none⟩), .pointer (some ⟨g, 0, none⟩), .int .u64 255] w (Ends Q0))
    (hq : ∀ w1, Q0 w1 → g < w1.heap.size ∧ k < w1.heap.size ∧ w1.cell? ⟨g, 0, none⟩ = some (.int .u8 K) ∧ w1.cell? ⟨k, 2, none⟩ = some (.bool b1) ∧ ∀ w2, Below w1.heap.size w1 w2 → w2.frozen? ⟨k, 2, none⟩ = false)
    (hf : ∀ w1 w2, Q0 w1 → Below w1.heap.size w1 w2 → R (w2.setCell ⟨k, 2, none⟩ (.bool (b1 || !kB K))) 0 (w2.setCell ⟨k, 2, none⟩ (.bool (b1 || !kB K))))
    (hkeep : ∀ wS i w' j A, R wS i w' → Blk wS j 68 A → Blk w' j 68 A) (hkt : ∀ w1, Q0 w1 → ∀ w2, Below w1.heap.size w1 w2 → ∀ A, ¬ Blk w2 k 68 A)
    (hstep : ∀ wS i w' (h : i < (kp K).length), R wS i w' → Calls Try.prog (pf K (kp K)[i]) #[.pointer (some ⟨k, 0, none⟩), .pointer (some ⟨g, 0, none⟩)] w' (Ends (R wS (i + 1)))) :
    Calls Try.prog 11 #[.pointer (some ⟨k, 0, none⟩), .pointer (some ⟨g, 0, none⟩)] w (Ends (fun w' => ∃ wS, R wS (kp K).length w')) := by
  have H0 := Lib.hid h0
  have HQ := Lib.hid hq
  have HF := Lib.hid hf
  have HK := Lib.hid hK
  have HKEEP := Lib.hid hkeep
  have HKT := Lib.hid hkt
  have HSTEP := Lib.hid hstep
  clear h0 hq hf hK hkeep hkt hstep hg
  go_enter Try.func11, Try.ntmps11
  go_upto_region 1 with (go_at_call 20; go_loud ((with_reducible refine H0.out.mono ?_); rintro e w1 ⟨rfl, hq1⟩; have HQ1 := Lib.hid hq1; clear hq1))
  clear H0
  obtain ⟨z0, z1, z2, z3, z4⟩ := HQ.out _ HQ1.out
  have Z0 := Lib.hid z0
  have Z2 := Lib.hid z2
  clear z0 z1 z3 z4
  go_upto_region 2 with fail
  go_cut [0, 1, 4, 5] (fun a b c d wc => a = .pointer (some ⟨k, 0, none⟩) ∧ b = .pointer (some ⟨g, 0, none⟩) ∧ MsMid K w1 c d wc)
  case first =>
    go_region_with (go_at_call 21; go_loud ((with_reducible refine Calls.mono (has_any _) ?_); rintro e w2 ⟨h, fb, jb, L, rfl, hx, hL⟩; obtain ⟨bb, hlook, hrow⟩ := fx_look HK.out hx hL; have y0 := Below.cellq hx.bel Z0.out Z2.out; have HB := Lib.hid hx.bel; have HRW := Lib.hid hrow; clear hx hrow hL))
    all_goals (go_wp2_with fail; go_meet)
    all_goals exact ⟨rfl, rfl, rfl, ⟨_, rfl, HRW.out⟩, by first | exact HB.out | exact ((Below.refl _ _).drew).trans HB.out⟩
  case rest =>
    obtain ⟨rfl, rfl, rfl, ⟨bb, rfl, hrow⟩, hb⟩ := hcut
    obtain ⟨wx, hwx⟩ : ∃ wx, wx = wc := ⟨_, rfl⟩
    subst hwx
    obtain ⟨z0, z1, z2, z3, z4⟩ := HQ.out _ HQ1.out
    have y2 : wx.cell? ⟨k, 2, none⟩ = some (.bool b1) := Below.cellq hb z1 z3
    have yf : wx.frozen? ⟨k, 2, none⟩ = false := z4 wx hb
    have HR := Lib.hid (HF.out w1 wx HQ1.out hb)
    have hsz := fA_size K
    have HRW : Hid ((kp K).length ≠ 0 → Blk (wx.setCell ⟨k, 2, none⟩ (.bool (b1 || !kB K))) bb 68 (fA K)) := Lib.hid fun hn => by
      have h := hrow (by rw [hsz]; exact hn)
      exact h.set_ne _ (fun e => by have e' : bb = k := e; rw [e'] at h; exact HKT.out w1 HQ1.out wx hb _ h)
    obtain ⟨p, hv, hp⟩ : ∃ p, fval ⟨K, bb, fA K⟩ = .slice p (kp K).length (kp K).length ∧ ((kp K).length ≠ 0 → p = some ⟨bb, 0, none⟩) := by
      unfold fval
      dsimp only
      rw [hsz]
      by_cases hz : (kp K).length = 0
      · rw [if_pos hz, hz]; exact ⟨none, rfl, fun h => absurd rfl h⟩
      · rw [if_neg hz]; exact ⟨_, rfl, fun _ => rfl⟩
    rw [hv]
    have HP := Lib.hid hp
    have HN : Hid ((kp K).length ≤ 6) := Lib.hid (by
      have h : ∀ c : Prop, ∀ [Decidable c], ∀ a b : List Pt, a.length ≤ 6 → b.length ≤ 6 → (if c then a else b).length ≤ 6 := fun c _ a b ha hb => by split <;> assumption
      unfold kp
      repeat refine h _ _ _ (by decide) ?_
      decide)
    have HAT : Hid (∀ i (hi : i < (kp K).length), (fA K)[i]? = some (.func (.func (pf K (kp K)[i])) #[] #[])) := Lib.hid fun i hi => by
      unfold fA fcell; simp [hi]
    clear z0 z1 z2 z3 z4 hrow hsz hv hp hb HQ HQ1 HF HK HKT Z0 Z2
    go_upto_region 2 with fail
    go_cut [0, 1, 4] (fun a b c wd => a = .pointer (some ⟨k, 0, none⟩) ∧ b = .pointer (some ⟨g, 0, none⟩) ∧ c = .slice p (kp K).length (kp K).length ∧ wd = wx.setCell ⟨k, 2, none⟩ (.bool (b1 || !kB K)))
    case first =>
      clear HR HRW HP HN HAT HKEEP HSTEP
      generalize (kp K).length = n at *
      generalize kB K = kb at *
      cases b1 with
      | true =>
        go_wp2_with fail
        go_meet
        exact ⟨rfl, rfl, rfl, rfl⟩
      | false =>
        cases kb with
        | true =>
          go_wp2_with fail
          go_meet
          exact ⟨rfl, rfl, rfl, rfl⟩
        | false =>
          go_wp2_with fail
          go_meet
          exact ⟨rfl, rfl, rfl, rfl⟩
    case rest =>
      obtain ⟨rfl, rfl, rfl, rfl⟩ := hcut
      clear y2 yf
      generalize wx.setCell ⟨k, 2, none⟩ (.bool (b1 || !kB K)) = wS at *
      obtain ⟨n, hn⟩ : ∃ n, n = (kp K).length := ⟨_, rfl⟩
      have HNK := Lib.hid hn
      rw [← hn] at HRW HP HN ⊢
      clear hn
      go_wp2_with fail
      go_loopw [35] (fun u wr => ∃ i : Nat, u = .int .i64 i ∧ i ≤ n ∧ R wS i wr) (fun u _ => ((n : Int) - intOf u).toNat)
      case atStart => exact ⟨0, rfl, Nat.zero_le _, HR.out⟩
      case round =>
        obtain ⟨i, rfl, hi, hR⟩ := hrel
        by_cases hin : i < n
        · have hi' : i < (kp K).length := by rw [← HNK.out]; exact hin
          have hB := HKEEP.out _ _ _ _ _ hR (HRW.out (by omega))
          obtain rfl := HP.out (by omega)
          have x0 : wr.cell? ⟨bb, i, none⟩ = some (.func (.func (pf K (kp K)[i])) #[] #[]) := by rw [hB.cell i, HAT.out i hi']
          have HS := Lib.hid (HSTEP.out wS i wr hi' hR)
          have hmem : pf K (kp K)[i] ∈ allF := pf_mem _ _
          have hin' : (i : Int) < (n : Int) := by omega
          have hi0 : (0 : Int) ≤ (i : Int) := by omega
          have HE : Hid (wrap64 ((i : Int) + 1) = ((i + 1 : Nat) : Int)) := Lib.hid (wr64 rfl (by have := HN.out; omega))
          have HIN := Lib.hid hin
          clear hB hR HR HAT HSTEP HKEEP HRW HP HNK hi hin
          generalize pf K (kp K)[i] = f at *
          clear hi'
          unfold allF at hmem
          simp only [List.mem_cons, List.not_mem_nil, or_false] at hmem
          rcases hmem with rfl | rfl | rfl | rfl | rfl | rfl | rfl | rfl | rfl | rfl | rfl | rfl | rfl | rfl | rfl
          · go_wp2_with (go_at_call 26; go_loud ((with_reducible refine HS.out.mono ?_); rintro e w9 ⟨rfl, hq9⟩; have HQ9 := Lib.hid hq9; clear hq9))
            go_roundw
            case rel => rw [HE.out]; exact ⟨i + 1, rfl, HIN.out, HQ9.out⟩
            case measure => have := HIN.out; rw [HE.out]; simp [intOf]; omega
          · go_wp2_with (go_at_call 36; go_loud ((with_reducible refine HS.out.mono ?_); rintro e w9 ⟨rfl, hq9⟩; have HQ9 := Lib.hid hq9; clear hq9))
            go_roundw
            case rel => rw [HE.out]; exact ⟨i + 1, rfl, HIN.out, HQ9.out⟩
            case measure => have := HIN.out; rw [HE.out]; simp [intOf]; omega
          · go_wp2_with (go_at_call 30; go_loud ((with_reducible refine HS.out.mono ?_); rintro e w9 ⟨rfl, hq9⟩; have HQ9 := Lib.hid hq9; clear hq9))
            go_roundw
            case rel => rw [HE.out]; exact ⟨i + 1, rfl, HIN.out, HQ9.out⟩
            case measure => have := HIN.out; rw [HE.out]; simp [intOf]; omega
          · go_wp2_with (go_at_call 37; go_loud ((with_reducible refine HS.out.mono ?_); rintro e w9 ⟨rfl, hq9⟩; have HQ9 := Lib.hid hq9; clear hq9))
            go_roundw
            case rel => rw [HE.out]; exact ⟨i + 1, rfl, HIN.out, HQ9.out⟩
            case measure => have := HIN.out; rw [HE.out]; simp [intOf]; omega
          · go_wp2_with (go_at_call 25; go_loud ((with_reducible refine HS.out.mono ?_); rintro e w9 ⟨rfl, hq9⟩; have HQ9 := Lib.hid hq9; clear hq9))
            go_roundw
            case rel => rw [HE.out]; exact ⟨i + 1, rfl, HIN.out, HQ9.out⟩
            case measure => have := HIN.out; rw [HE.out]; simp [intOf]; omega
          · go_wp2_with (go_at_call 31; go_loud ((with_reducible refine HS.out.mono ?_); rintro e w9 ⟨rfl, hq9⟩; have HQ9 := Lib.hid hq9; clear hq9))
            go_roundw
            case rel => rw [HE.out]; exact ⟨i + 1, rfl, HIN.out, HQ9.out⟩
            case measure => have := HIN.out; rw [HE.out]; simp [intOf]; omega
          · go_wp2_with (go_at_call 32; go_loud ((with_reducible refine HS.out.mono ?_); rintro e w9 ⟨rfl, hq9⟩; have HQ9 := Lib.hid hq9; clear hq9))
            go_roundw
            case rel => rw [HE.out]; exact ⟨i + 1, rfl, HIN.out, HQ9.out⟩
            case measure => have := HIN.out; rw [HE.out]; simp [intOf]; omega
          · go_wp2_with (go_at_call 28; go_loud ((with_reducible refine HS.out.mono ?_); rintro e w9 ⟨rfl, hq9⟩; have HQ9 := Lib.hid hq9; clear hq9))
            go_roundw
            case rel => rw [HE.out]; exact ⟨i + 1, rfl, HIN.out, HQ9.out⟩
            case measure => have := HIN.out; rw [HE.out]; simp [intOf]; omega
          · go_wp2_with (go_at_call 29; go_loud ((with_reducible refine HS.out.mono ?_); rintro e w9 ⟨rfl, hq9⟩; have HQ9 := Lib.hid hq9; clear hq9))
            go_roundw
            case rel => rw [HE.out]; exact ⟨i + 1, rfl, HIN.out, HQ9.out⟩
            case measure => have := HIN.out; rw [HE.out]; simp [intOf]; omega
          · go_wp2_with (go_at_call 35; go_loud ((with_reducible refine HS.out.mono ?_); rintro e w9 ⟨rfl, hq9⟩; have HQ9 := Lib.hid hq9; clear hq9))
            go_roundw
            case rel => rw [HE.out]; exact ⟨i + 1, rfl, HIN.out, HQ9.out⟩
            case measure => have := HIN.out; rw [HE.out]; simp [intOf]; omega
          · go_wp2_with (go_at_call 33; go_loud ((with_reducible refine HS.out.mono ?_); rintro e w9 ⟨rfl, hq9⟩; have HQ9 := Lib.hid hq9; clear hq9))
            go_roundw
            case rel => rw [HE.out]; exact ⟨i + 1, rfl, HIN.out, HQ9.out⟩
            case measure => have := HIN.out; rw [HE.out]; simp [intOf]; omega
          · go_wp2_with (go_at_call 34; go_loud ((with_reducible refine HS.out.mono ?_); rintro e w9 ⟨rfl, hq9⟩; have HQ9 := Lib.hid hq9; clear hq9))
            go_roundw
            case rel => rw [HE.out]; exact ⟨i + 1, rfl, HIN.out, HQ9.out⟩
            case measure => have := HIN.out; rw [HE.out]; simp [intOf]; omega
          · go_wp2_with (go_at_call 38; go_loud ((with_reducible refine HS.out.mono ?_); rintro e w9 ⟨rfl, hq9⟩; have HQ9 := Lib.hid hq9; clear hq9))
            go_roundw
            case rel => rw [HE.out]; exact ⟨i + 1, rfl, HIN.out, HQ9.out⟩
            case measure => have := HIN.out; rw [HE.out]; simp [intOf]; omega
          · go_wp2_with (go_at_call 39; go_loud ((with_reducible refine HS.out.mono ?_); rintro e w9 ⟨rfl, hq9⟩; have HQ9 := Lib.hid hq9; clear hq9))
            go_roundw
            case rel => rw [HE.out]; exact ⟨i + 1, rfl, HIN.out, HQ9.out⟩
            case measure => have := HIN.out; rw [HE.out]; simp [intOf]; omega
          · go_wp2_with (go_at_call 27; go_loud ((with_reducible refine HS.out.mono ?_); rintro e w9 ⟨rfl, hq9⟩; have HQ9 := Lib.hid hq9; clear hq9))
            go_roundw
            case rel => rw [HE.out]; exact ⟨i + 1, rfl, HIN.out, HQ9.out⟩
            case measure => have := HIN.out; rw [HE.out]; simp [intOf]; omega
        · have hne : ¬ (i : Int) < (n : Int) := by omega
          obtain rfl : i = n := by omega
          have HRR := Lib.hid hR
          have HNN := HNK.out
          clear HR HAT HSTEP HKEEP HRW HP HNK hi hin hR
          go_wp2_with fail
          go_end0
          exact ⟨rfl, wS, by rw [← HNN]; exact HRR.out⟩
end
end Go.Proofs.Ytghbjknpffiaiaa


/- A message, written and read: what msg does. No condition. -/
namespace Go.Proofs.Ytghbjknpffiaiaa
open Go.RowKit Wire Ms
set_option linter.unusedVariables false
set_option linter.unusedSimpArgs false
/-! ### Writing -/
theorem bool_and_true (b : Bool) : (true && b) = b := Bool.true_and b
theorem pw_all (K : Int) (p : Pt) {w : World} {B k g L : Nat} {m : M} {v : VS} {out : Ls} {bad : Bool} (hk : m.kind = K) (c : KWb w B k out bad L) (hB : B ≤ w.heap.size) (hL : L ≤ 400000000) (h : MB w B g m v) (t : TyM m) (l : Lite m) :
    Calls Try.prog (pf K p) #[.pointer (some ⟨k, 0, none⟩), .pointer (some ⟨g, 0, none⟩)] w (WrP w B k (out ++ wp p m) (bad || wbad p m) (L + 6000000)) := by
  cases p
  case J => exact pw_job w B k g L m v out bad c hB hL h t l
  case T => exact pw_token w B k g L m v out bad c hB hL h t l
  case P => exact pw_program w B k g L m v out bad c hB hL h t l
  case I => exact pw_input w B k g L m v out bad c hB hL h t l
  case F => exact pw_fuel w B k g L m v out bad c hB hL h t l
  case K => exact pw_task w B k g L m v out bad c hB hL h t l
  case E => exact pw_epoch w B k g L m v out bad c hB hL h t l
  case N => exact pw_entries w B k g L m v out bad c hB hL h t l
  case H => exact pw_epochs w B k g L m v out bad c hB hL h t l
  case A =>
    by_cases h12 : K = 12
    · have e : pf K .A = 35 := if_pos h12
      rw [e]
      exact Calls.mono (pw_dropped w B k g L m v out bad c hB hL h t l) fun e w' h => WrP.mono h (Nat.le_refl _) rfl (by
        show (bad || ((decide (128 < m.names.length) || m.names.any nmW) || m.epochs.length != m.names.length)) = (bad || ((decide (128 < m.names.length) || m.names.any nmW) || (m.kind == 12 && m.epochs.length != m.names.length)))
        rw [hk, h12]; rfl)
    · have e : pf K .A = 33 := if_neg h12
      rw [e]
      exact Calls.mono (pw_names w B k g L m v out bad c hB hL h t l) fun e w' h => WrP.mono h (Nat.le_refl _) rfl (by
        show (bad || (decide (128 < m.names.length) || m.names.any nmW)) = (bad || ((decide (128 < m.names.length) || m.names.any nmW) || (m.kind == 12 && m.epochs.length != m.names.length)))
        rw [hk, show (K == 12) = false from beq_false_of_ne h12, Bool.false_and, Bool.or_false])
  case C => exact pw_codes w B k g L m v out bad c hB hL h t l
  case S => exact pw_state w B k g L m v out bad c hB hL h t l
  case R => exact pw_result w B k g L m v out bad c hB hL h t l
  case X => exact pw_err w B k g L m v out bad c hB hL h t l
theorem kp_len (K : Int) : (kp K).length ≤ 6 := by
  have h : ∀ c : Prop, ∀ [Decidable c], ∀ a b : List Pt, a.length ≤ 6 → b.length ≤ 6 → (if c then a else b).length ≤ 6 := fun c _ a b ha hb => by split <;> assumption
  unfold kp
  repeat refine h _ _ _ (by decide) ?_
  decide
theorem KWb.kblk {w : World} {B k L : Nat} {out : Ls} {bad : Bool} (c : KWb w B k out bad L) : ∃ A, Blk w k 51 A := by
  obtain ⟨out', ⟨vO, hk, _, _⟩, _, _⟩ := c
  exact ⟨_, hk⟩
def RW (w : World) (B k : Nat) (m : M) (wS : World) (i : Nat) (w' : World) : Prop :=
  KWb w' B k (wU m.kind ++ wps ((kp m.kind).take i) m) (!kB m.kind || ((kp m.kind).take i).any fun p => wbad p m) (10 + i * 6000000) ∧ OnW B k w w' ∧ OnW B k wS w' ∧ ∃ A, Blk wS k 51 A
theorem msgw_any {w : World} {B k g : Nat} {m : M} {v : VS} (c : KWb w B k [] false 0) (hB : B ≤ w.heap.size) (h : MB w B g m v) (t : TyM m) (l : Lite m) :
    Calls Try.prog 11 #[.pointer (some ⟨k, 0, none⟩), .pointer (some ⟨g, 0, none⟩)] w (WrP w B k (raw m) (badW m) 40000000) := by
  have hn := kp_len m.kind
  refine Calls.mono (msg_any (K := m.kind) (b1 := nb m.kind 255) (Q0 := fun w1 => KWb w1 B k ([] ++ wU m.kind) (false || nb m.kind 255) (0 + 10) ∧ OnW B k w w1) (R := RW w B k m) t.kind h.1.lt
    (numw_u8 c hB (by omega) (h.cell 0) (h.away c) t.kind) (fun w1 q => ?_) (fun w1 w2 q hb => ?_) (fun wS i w' j A r hj => ?_) (fun w1 q w2 hb A hA => ?_) (fun wS i w' hi r => ?_)) fun e w' hh => ?_
  · have h1 := h.on c hB q.2
    exact ⟨h1.1.lt, q.1.lt, h1.cell 0, q.1.c2, fun w2 hb => (q.1.below hb).fz 2⟩
  · have c2 := (q.1.below hb).flag (nb m.kind 255 || !kB m.kind) (fun e => by rw [Bool.false_or]; exact (Bool.or_eq_false_iff.1 e).1)
    have e0 : nb m.kind 255 = false := nb_false.2 t.kind
    rw [e0, Bool.false_or] at c2 ⊢
    refine ⟨?_, (q.2.step hb).trans c2.2, OnW.refl _ _ _, c2.1.kblk⟩
    rw [List.take_zero]
    have e1 : wps ([] : List Pt) m = [] := rfl
    rw [e1, List.append_nil, List.any_nil, Bool.or_false]
    exact c2.1
  · obtain ⟨_, _, o, A', hA'⟩ := r
    exact o.blk hj (fun e => by rw [e] at hj; exact absurd (blk_ne hj hA') (by decide)) (by decide)
  · obtain ⟨A', hA'⟩ := (q.1.below hb).kblk
    exact absurd (blk_ne hA hA') (by decide)
  · obtain ⟨c1, o1, o2, hA⟩ := r
    have h1 := h.on c hB o1
    have hp := pw_all m.kind (kp m.kind)[i] rfl c1 (Nat.le_trans hB o1.size) (by omega) h1 t l
    refine Calls.mono hp fun e w2 hw => ?_
    have c3 := hw.2.1.mono (show 10 + i * 6000000 + 6000000 ≤ 10 + (i + 1) * 6000000 by omega)
    refine ⟨hw.1, ?_, o1.trans hw.2.2, o2.trans hw.2.2, hA⟩
    rw [List.take_succ_eq_append_getElem hi, List.any_append]
    have e1 : wps ((kp m.kind).take i ++ [(kp m.kind)[i]]) m = wps ((kp m.kind).take i) m ++ wp (kp m.kind)[i] m := by unfold wps; rw [List.flatMap_append]; simp
    rw [e1, ← List.append_assoc]
    simp only [List.any_cons, List.any_nil, Bool.or_false]
    rw [← Bool.or_assoc]
    exact c3
  · obtain ⟨h1, wS, c1, o1, _⟩ := hh
    rw [List.take_length] at c1
    exact ⟨h1, c1.mono (by omega), o1⟩
/-! ### Reading -/
theorem pr_all (K : Int) (p : Pt) {w : World} {k rb g D : Nat} {t : M} {v : VS} {q : RS} {bad : Bool} (hk : t.kind = K) (s : RdSt w k rb g D t v q bad) (hv : vp p v = nilV) :
    Calls Try.prog (pf K p) #[.pointer (some ⟨k, 0, none⟩), .pointer (some ⟨g, 0, none⟩)] w (fun e w' => e = .returned (.tuple #[]) ∧ ∃ v', RdSt w' k rb g D (rp p t q).1 v' (rp p t q).2 (bad || rbad p (rp p t q).1) ∧ OnRd k rb g w w' ∧ ∀ p' : Pt, p' ≠ p → vp p' v' = vp p' v) := by
  cases p
  case J => exact pr_job w k rb g D t v q bad s hv
  case T => exact pr_token w k rb g D t v q bad s hv
  case P => exact pr_program w k rb g D t v q bad s hv
  case I => exact pr_input w k rb g D t v q bad s hv
  case F => exact pr_fuel w k rb g D t v q bad s hv
  case K => exact pr_task w k rb g D t v q bad s hv
  case E => exact pr_epoch w k rb g D t v q bad s hv
  case N => exact pr_entries w k rb g D t v q bad s hv
  case H => exact pr_epochs w k rb g D t v q bad s hv
  case A =>
    have hk' : (rp .A t q).1.kind = K := (rp_kind .A t q).trans hk
    by_cases h12 : K = 12
    · have e : pf K .A = 35 := if_pos h12
      rw [e]
      have e2 : rbad .A (rp .A t q).1 = (((rp .A t q).1.names.any fun n => !pathB n.path) || (rp .A t q).1.epochs.length != (rp .A t q).1.names.length) := by
        show (((rp .A t q).1.names.any fun n => !pathB n.path) || ((rp .A t q).1.kind == 12 && (rp .A t q).1.epochs.length != (rp .A t q).1.names.length)) = _
        rw [hk', h12]; rfl
      rw [e2]
      exact pr_dropped w k rb g D t v q bad s hv
    · have e : pf K .A = 33 := if_neg h12
      rw [e]
      have e2 : rbad .A (rp .A t q).1 = ((rp .A t q).1.names.any fun n => !pathB n.path) := by
        show (((rp .A t q).1.names.any fun n => !pathB n.path) || ((rp .A t q).1.kind == 12 && (rp .A t q).1.epochs.length != (rp .A t q).1.names.length)) = _
        rw [hk', show (K == 12) = false from beq_false_of_ne h12, Bool.false_and, Bool.or_false]
      rw [e2]
      exact pr_names w k rb g D t v q bad s hv
  case C => exact pr_codes w k rb g D t v q bad s hv
  case S => exact pr_state w k rb g D t v q bad s hv
  case R => exact pr_result w k rb g D t v q bad s hv
  case X => exact pr_err w k rb g D t v q bad s hv
/-- What was found amiss on the way. -/
def accB : List Pt → M → RS → Bool
  | [], _, _ => false
  | p :: l, t, q => rbad p (rp p t q).1 || accB l (rp p t q).1 (rp p t q).2
theorem rps_snoc : ∀ (l : List Pt) (p : Pt) (t : M) (q : RS), rps (l ++ [p]) t q = rp p (rps l t q).1 (rps l t q).2 := by
  intro l
  induction l with
  | nil => intro p t q; rfl
  | cons a l ih => intro p t q; exact ih p _ _
theorem accB_snoc : ∀ (l : List Pt) (p : Pt) (t : M) (q : RS), accB (l ++ [p]) t q = (accB l t q || rbad p (rps (l ++ [p]) t q).1) := by
  intro l
  induction l with
  | nil => intro p t q; show (rbad p (rp p t q).1 || false) = (false || _); rw [Bool.or_false, Bool.false_or]; rfl
  | cons a l ih =>
    intro p t q
    show (rbad a (rp a t q).1 || accB (l ++ [p]) (rp a t q).1 (rp a t q).2) = ((rbad a (rp a t q).1 || accB l (rp a t q).1 (rp a t q).2) || _)
    rw [ih, Bool.or_assoc]; rfl
def indep (p p' : Pt) : Bool := decide (p ≠ p') && (!(decide (p = .H) && decide (p' = .N)) && !(decide (p = .A) && decide (p' = .H)))
theorem rbad_rp {p p' : Pt} (h : indep p p' = true) (t : M) (q : RS) : rbad p (rp p' t q).1 = rbad p t := by
  cases p <;> cases p' <;> first | rfl | exact absurd h (by decide)
theorem rbad_rps : ∀ (l : List Pt) (p : Pt) (_ : ∀ p' ∈ l, indep p p' = true) (t : M) (q : RS), rbad p (rps l t q).1 = rbad p t := by
  intro l
  induction l with
  | nil => intro p _ t q; rfl
  | cons a l ih =>
    intro p h t q
    show rbad p (rps l (rp a t q).1 (rp a t q).2).1 = _
    rw [ih p (fun p' hp => h p' (List.mem_cons_of_mem _ hp)), rbad_rp (h a List.mem_cons_self)]
theorem accB_any : ∀ (l : List Pt) (_ : l.Pairwise (fun p p' => indep p p' = true)) (t : M) (q : RS), accB l t q = l.any fun p => rbad p (rps l t q).1 := by
  intro l
  induction l with
  | nil => intro _ t q; rfl
  | cons a l ih =>
    intro h t q
    obtain ⟨h1, h2⟩ := List.pairwise_cons.1 h
    show (rbad a (rp a t q).1 || accB l (rp a t q).1 (rp a t q).2) = (rbad a (rps l (rp a t q).1 (rp a t q).2).1 || l.any fun p => rbad p (rps l (rp a t q).1 (rp a t q).2).1)
    rw [ih h2, rbad_rps l a h1]
theorem kp_indep (K : Int) : (kp K).Pairwise (fun p p' => indep p p' = true) := by
  have h : ∀ c : Prop, ∀ [Decidable c], ∀ a b : List Pt, a.Pairwise (fun p p' => indep p p' = true) → b.Pairwise (fun p p' => indep p p' = true) → (if c then a else b).Pairwise (fun p p' => indep p p' = true) := fun c _ a b ha hb => by split <;> assumption
  unfold kp
  repeat refine h _ _ _ (by decide) ?_
  exact List.Pairwise.nil
def nilVS : VS := ⟨nilV, nilV, nilV, nilV, nilV, nilV⟩
theorem nil_vp (p : Pt) : vp p nilVS = nilV := by cases p <;> rfl
def mK (K : Int) : M := { m0 with kind := K }
def RR26 (k rb g D : Nat) (K : Int) (q1 : RS) (wS : World) (i : Nat) (w' : World) : Prop :=
  (∃ v', RdSt w' k rb g D (rps ((kp K).take i) (mK K) q1).1 v' (rps ((kp K).take i) (mK K) q1).2 (!kB K || accB ((kp K).take i) (mK K) q1) ∧ ∀ p ∈ (kp K).drop i, vp p v' = nilV) ∧ OnRd k rb g wS w' ∧ ∀ j A, Blk wS j 68 A → j ≠ k ∧ j ≠ rb ∧ j ≠ g
theorem RdSt.noFT {w : World} {k rb g D : Nat} {t : M} {v : VS} {q : RS} {bad : Bool} (s : RdSt w k rb g D t v q bad) : ∀ j A, Blk w j 68 A → j ≠ k ∧ j ≠ rb ∧ j ≠ g := fun j A h =>
  ⟨fun e => by rw [e] at h; exact absurd (blk_ne h s.kr.1) (by decide), fun e => by rw [e] at h; exact absurd (blk_ne h s.kr.2.blk) (by decide), fun e => by rw [e] at h; exact absurd (blk_ne h s.blk) (by decide)⟩
theorem msgr_any {w : World} {k rb g D : Nat} {q : RS} (s : RdSt w k rb g D m0 nilVS q false) :
    Calls Try.prog 11 #[.pointer (some ⟨k, 0, none⟩), .pointer (some ⟨g, 0, none⟩)] w (fun e w' => e = .returned (.tuple #[]) ∧ ∃ v', RdSt w' k rb g D (readM q).1 v' (readM q).2 (badR (readM q).1) ∧ OnRd k rb g w w') := by
  have hK := uV_rg (m := 255) (by decide) q
  have hR : readM q = rps (kp (uV 255 q)) (mK (uV 255 q)) (uS 255 q) := rfl
  generalize hk : uV 255 q = K at *
  refine Calls.mono (msg_any (K := K) (b1 := false) (Q0 := fun w1 => RdSt w1 k rb g D (mK K) nilVS (uS 255 q) false ∧ OnRd k rb g w w1) (R := fun wS i w' => RR26 k rb g D K (uS 255 q) wS i w' ∧ OnRd k rb g w w') hK s.blk.lt
    (Calls.mono (numr_u8 s.kr s.blk (mlt (by decide)) s.gk s.gr (by decide)) fun e w' h => ?_) (fun w1 q1 => ?_) (fun w1 w2 q1 hb => ?_) (fun wS i w' j A r hj => ?_) (fun w1 q1 w2 hb A hA => ?_) (fun wS i w' hi r => ?_)) fun e w' hh => ?_
  · rw [hk] at h
    refine ⟨h.1, s.next h.2.1 h.2.2.1 h.2.2.2 ?_, h.2.2.2⟩
    have r := s.rows.on h.2.2.2 s.lt
    exact ⟨r.ri, r.ra, r.rn, r.rh, r.rm, r.rc⟩
  · obtain ⟨s1, o1⟩ := q1
    exact ⟨s1.blk.lt, s1.kr.lt.1, s1.blk.cell 0, s1.kr.c2, fun w2 hb => (s1.below hb).kr.fz 2⟩
  · obtain ⟨s1, o1⟩ := q1
    have c2 := (s1.below hb).flag (false || !kB K)
    refine ⟨⟨⟨nilVS, ?_, fun p _ => nil_vp p⟩, Only.refl _ _, c2.1.noFT⟩, (o1.trans (.of_below hb)).trans c2.2⟩
    rw [Bool.false_or, List.take_zero] at *
    show RdSt _ k rb g D (mK K) nilVS (uS 255 q) (!kB K || false)
    rw [Bool.or_false]
    exact c2.1
  · obtain ⟨⟨_, o, hn⟩, _⟩ := r
    have := hn j A hj
    exact hj.only o (fun e => by rcases e with e | e | e <;> omega)
  · exact absurd rfl ((q1.1.below hb).noFT k A hA).1
  · obtain ⟨⟨⟨v', s1, hn⟩, o, hf⟩, o0⟩ := r
    have hd := List.drop_eq_getElem_cons hi
    have hkk : (rps ((kp K).take i) (mK K) (uS 255 q)).1.kind = K := rps_kind _ _ _
    refine Calls.mono (pr_all K (kp K)[i] hkk s1 (hn _ (by rw [hd]; exact List.mem_cons_self))) fun e w2 h => ?_
    obtain ⟨h1, v2, s2, o2, hv2⟩ := h
    refine ⟨h1, ⟨⟨v2, ?_, fun p hp => ?_⟩, o.trans o2, hf⟩, o0.trans o2⟩
    · rw [List.take_succ_eq_append_getElem hi, accB_snoc, rps_snoc, ← Bool.or_assoc]
      exact s2
    · have hnd : ((kp K).drop i).Nodup := (kp_nodup K).sublist (List.drop_sublist _ _)
      rw [hd, List.nodup_cons] at hnd
      rw [hv2 p (fun e => hnd.1 (by rw [← e]; exact hp))]
      exact hn p (by rw [hd]; exact List.mem_cons_of_mem _ hp)
  · obtain ⟨h1, wS, ⟨⟨v', s1, _⟩, _, _⟩, o1⟩ := hh
    rw [List.take_length] at s1
    have hb : badR (readM q).1 = (!kB K || accB (kp K) (mK K) (uS 255 q)) := by
      unfold badR
      rw [readM_kind, hk, accB_any _ (kp_indep K), hR]
    rw [hb, hR]
    exact ⟨h1, v', s1, o1⟩
end Go.Proofs.Ytghbjknpffiaiaa


/- Results of which the first is a struct in a block of the call's own. No condition. -/
namespace Go.Proofs.Ytghbjknpffiaiaa
open Go.RowKit
theorem results_pair {P : Program} {fn : Func} {p u : Tmp} {ty T : TypeId} (h : fn.results = #[.cell p ty, .tmp u]) (tmps : Array Value) (w : World) {g : Nat} {cs : Array Value} {d : TypeDesc}
    (hp : tmps.getD p undef = .pointer (some ⟨g, 0, none⟩)) (hg : Blk w g T cs)
    (hu : P.underlying ty = some d) (hd : (match d with | .struct _ | .array _ _ => true | _ => false) = true) (hi : (P.info? ty).map (·.size) = some cs.size) :
    (results fn tmps).run P w = .ok (.tuple #[.agg cs, tmps.getD u undef]) w := by
  rw [results_cell_tmp h, hp]
  simp [asAddr, run_loadVar_row w g T ty cs (0, 0) d hg hu hd hi]
theorem ret_pair {P : Program} {fn : Func} {R : Ending → World → Prop} {a : Act} {p u : Tmp} {ty T : TypeId} {w : World} {g : Nat} {cs : Array Value} {d : TypeDesc} {v : Value} (h : fn.results = #[.cell p ty, .tmp u])
    (hp : a.tmps.getD p undef = .pointer (some ⟨g, 0, none⟩)) (hv : a.tmps.getD u undef = v) (hg : Blk w g T cs)
    (hu : P.underlying ty = some d) (hd : (match d with | .struct _ | .array _ _ => true | _ => false) = true) (hi : (P.info? ty).map (·.size) = some cs.size) (hdf : a.defers = [])
    (hR : R (.returned (.tuple #[.agg cs, v])) w) : bodyPost P fn R .ret a w := by
  subst hv
  exact bodyPost_ret (results_pair h _ w hp hg hu hd hi) hdf hR
theorem ret_cell {P : Program} {fn : Func} {R : Ending → World → Prop} {a : Act} {p : Tmp} {ty T : TypeId} {w : World} {g : Nat} {cs : Array Value} {d : TypeDesc} (h : fn.results = #[.cell p ty])
    (hp : a.tmps.getD p undef = .pointer (some ⟨g, 0, none⟩)) (hg : Blk w g T cs)
    (hu : P.underlying ty = some d) (hd : (match d with | .struct _ | .array _ _ => true | _ => false) = true) (hi : (P.info? ty).map (·.size) = some cs.size) (hdf : a.defers = [])
    (hR : R (.returned (.agg cs)) w) : bodyPost P fn R .ret a w :=
  bodyPost_ret (results_cell_row h _ w g T cs (0, 0) d hp hg hu hd hi) hdf hR
end Go.Proofs.Ytghbjknpffiaiaa
