import Derived.Test.YtlahficmkfgooaaGreatJobU
import Derived.Test.YtlahficmkfgooaaGreatJobS
import Derived.Test.YtlahficmkfgooaaGreatJobL

/- Jobs by one name: what each call makes of them, what it leaves. No condition but that jobs are. -/
namespace Go.Proofs.YtlahficmkfgooaaGreat
open Go.RowKit Go.Maps Jb
set_option linter.unusedVariables false
set_option linter.unusedSimpArgs false
/-- What jobs' calls leave: what is of another type; what lies below. -/
def KpJ (B0 : Nat) (w w' : World) : Prop := ∃ S : Nat → Prop, Only S w w' ∧ (∀ g, S g → B0 ≤ g) ∧ ∀ g T A, Blk w g T A → T ≠ 96 → T ≠ 99 → ¬ S g
theorem KpJ.of_below {B0 : Nat} {w w' : World} (h : Below w.heap.size w w') : KpJ B0 w w' := ⟨fun _ => False, .of_below h, fun _ h => h.elim, fun _ _ _ _ _ _ => id⟩
theorem KpJ.refl (B0 : Nat) (w : World) : KpJ B0 w w := .of_below (Below.refl _ _)
theorem KpJ.size {B0 : Nat} {w w' : World} (h : KpJ B0 w w') : w.heap.size ≤ w'.heap.size := by obtain ⟨S, o, _⟩ := h; exact o.size
theorem KpJ.blk {B0 : Nat} {w w' : World} (h : KpJ B0 w w') {g : Nat} {T : TypeId} {A : Array Value} (hb : Blk w g T A) (h1 : T ≠ 96) (h2 : T ≠ 99) : Blk w' g T A := by
  obtain ⟨S, o, _, k⟩ := h
  exact hb.only o (k _ _ _ hb h1 h2)
theorem KpJ.trans {B0 : Nat} {w w1 w' : World} (h1 : KpJ B0 w w1) (h2 : KpJ B0 w1 w') : KpJ B0 w w' := by
  have hb := fun (g : Nat) (T : TypeId) (A : Array Value) (x : Blk w g T A) (a : T ≠ 96) (b : T ≠ 99) => h1.blk x a b
  obtain ⟨S1, o1, b1, k1⟩ := h1
  obtain ⟨S2, o2, b2, k2⟩ := h2
  refine ⟨fun g => S1 g ∨ S2 g, (o1.mono fun _ _ h => .inl h).trans (o2.mono fun _ _ h => .inr h), fun g h => h.elim (b1 g) (b2 g), fun g T A hg a b h => h.elim (k1 g T A hg a b) (k2 g T A (hb g T A hg a b) a b)⟩
theorem KpJ.below {B0 : Nat} {w w' : World} (h : KpJ B0 w w') (hB : B0 ≤ w.heap.size) : Below B0 w w' := by
  obtain ⟨S, o, b, _⟩ := h
  exact o.below hB fun k hk => b k hk
theorem KpJ.mono {B0 B1 : Nat} {w w' : World} (h : KpJ B0 w w') (hB : B1 ≤ B0) : KpJ B1 w w' := by
  obtain ⟨S, o, b, k⟩ := h
  exact ⟨S, o, fun g h => Nat.le_trans hB (b g h), k⟩
theorem JRow.kp {B0 B : Nat} {w w' : World} {v : Value} {l : List JR} (h : JRow w B v l) (k : KpJ B0 w w') : JRow w' B v l := by
  obtain ⟨S, o, _, k⟩ := k
  refine h.only o fun g T A _ hA ht => k g T A hA ?_ ?_
  · rcases ht with rfl | rfl <;> decide
  · rcases ht with rfl | rfl <;> decide
theorem IRow.kp {B0 B : Nat} {w w' : World} {v : Value} {l : List Int} (h : IRow w B v l) (k : KpJ B0 w w') : IRow w' B v l := by
  obtain ⟨S, o, _, k⟩ := k
  exact h.only o fun g A _ hA => k g _ A hA (by decide) (by decide)
theorem kpJ_of {w w' : World} {B0 b h t N : Nat} {B : Int → Nat} {V : Int → Value} {s : JS} (c : JW w B0 b h t B V s N) (o : OnJ B0 b h t w w') : KpJ B0 w w' := by
  refine ⟨_, o, fun g hs => ?_, fun g T A hA h1 h2 hs => ?_⟩
  · have := c.ge
    rcases hs with e | e | e | e
    · omega
    · omega
    · omega
    · exact e.1
  · rcases hs with e | e | e | e
    · subst e; exact h1 (blk_ty hA c.blk)
    · exact mapk_no c.mp hA e.symm
    · exact mapk_no c.tk hA e.symm
    · obtain ⟨_, A', hA'⟩ := e
      exact h2 (blk_ty hA hA')
/-- Jobs in block b, with no more than K keys ever. -/
def JU (B0 b K : Nat) (s : JS) (w : World) : Prop := ∃ h t B V N, JW w B0 b h t B V s N ∧ N ≤ K
section
variable {w w' : World} {B0 b K : Nat} {s : JS}
theorem JU.below (c : JU B0 b K s w) (hb : Below w.heap.size w w') : JU B0 b K s w' := by
  obtain ⟨h, t, B, V, N, c, hN⟩ := c
  exact ⟨h, t, B, V, N, c.below hb, hN⟩
theorem JU.sz (c : JU B0 b K s w) : B0 ≤ w.heap.size := by obtain ⟨h, t, B, V, N, c, hN⟩ := c; exact c.sz
theorem JU.inv (c : JU B0 b K s w) : JInv s := by obtain ⟨h, t, B, V, N, c, hN⟩ := c; exact c.inv
theorem JU.ok (c : JU B0 b K s w) : ∀ r ∈ s.rows, U64 r.job ∧ r.inp.length ≤ 100 := by obtain ⟨h, t, B, V, N, c, hN⟩ := c; exact c.ok
theorem JU.mono {K' : Nat} (c : JU B0 b K s w) (hK : K ≤ K') : JU B0 b K' s w := by obtain ⟨h, t, B, V, N, c, hN⟩ := c; exact ⟨h, t, B, V, N, c, Nat.le_trans hN hK⟩
theorem ju_new {m : Int} (h1 : 1 ≤ m) (h2 : m ≤ 256) (w : World) (hB : B0 ≤ w.heap.size) : Calls Tryz.prog 25 #[.int .i64 m] w fun e w' => ∃ b, e = .returned (.tuple #[.pointer (some ⟨b, 0, none⟩), .int .i64 0]) ∧ JU B0 b 0 ⟨m, 0, []⟩ w' ∧ Below w.heap.size w w' :=
  (newj_any h1 h2 w hB).mono fun e w' ⟨b, h, t, he, c, hb⟩ => ⟨b, he, ⟨h, t, _, _, 0, c, Nat.le_refl _⟩, hb⟩
theorem ju_sub (c : JU B0 b K s w) {tok prog : ByteArray} {q : Option Addr} {m cq : Nat} {inp : List Int} (hi : IntsAt w (.slice q m cq) inp) (hm : m = inp.length) (hqb : 0 < inp.length → ∀ a, q = some a → a.block < B0) (hl : inp.length ≤ 100) (ht : tok.size ≤ maxLen) (hK : K < maxLen) {fuel : Int} {r : (Int × Int × Int) × JS} (hr : subS s tok prog inp fuel = r) :
    Calls Tryz.prog 15 #[.pointer (some ⟨b, 0, none⟩), .string tok, .string prog, .slice q m cq, .int .i64 fuel] w fun e w' => e = .returned (.tuple #[.int .u64 r.1.1, .int .u8 r.1.2.1, .int .i64 r.1.2.2]) ∧ JU B0 b (K + 1) r.2 w' ∧ KpJ B0 w w' := by
  obtain ⟨h, t, B, V, N, c, hN⟩ := c
  exact (submit_any c hi hm hqb hl ht (by omega) hr).mono fun e w' ⟨he, B', V', c', o⟩ => ⟨he, ⟨h, t, B', V', N + 1, c', by omega⟩, kpJ_of c o⟩
theorem ju_done (c : JU B0 b K s w) {j v ev : Int} (hj : U64 j) {r : Int × JS} (hr : doneS s j v ev = r) : Calls Tryz.prog 18 #[.pointer (some ⟨b, 0, none⟩), .int .u64 j, .agg #[.int .i64 v, .int .i64 ev]] w fun e w' => e = .returned (.int .i64 r.1) ∧ JU B0 b K r.2 w' ∧ KpJ B0 w w' := by
  obtain ⟨h, t, B, V, N, c, hN⟩ := c
  subst hr
  exact (done_any c hj).mono fun e w' ⟨he, c', o⟩ => ⟨he, ⟨h, t, B, V, N, c', hN⟩, kpJ_of c o⟩
theorem ju_canc (c : JU B0 b K s w) {j : Int} (hj : U64 j) {r : (Int × Int) × JS} (hr : cancS s j = r) : Calls Tryz.prog 17 #[.pointer (some ⟨b, 0, none⟩), .int .u64 j] w fun e w' => e = .returned (.tuple #[.int .u8 r.1.1, .int .i64 r.1.2]) ∧ JU B0 b K r.2 w' ∧ KpJ B0 w w' := by
  obtain ⟨h, t, B, V, N, c, hN⟩ := c
  subst hr
  exact (cancel_any c hj).mono fun e w' ⟨he, c', o⟩ => ⟨he, ⟨h, t, B, V, N, c', hN⟩, kpJ_of c o⟩
theorem ju_find (c : JU B0 b K s w) {j : Int} (hj : U64 j) : Calls Tryz.prog 16 #[.pointer (some ⟨b, 0, none⟩), .int .u64 j] w (FinP w s j) := by
  obtain ⟨h, t, B, V, N, c, hN⟩ := c
  exact find_any c hj
theorem ju_rows (c : JU B0 b K s w) : Calls Tryz.prog 20 #[.pointer (some ⟨b, 0, none⟩)] w (RowsP w s.rows) := by
  obtain ⟨h, t, B, V, N, c, hN⟩ := c
  exact rows_any c
theorem ju_pend (c : JU B0 b K s w) : Calls Tryz.prog 19 #[.pointer (some ⟨b, 0, none⟩)] w (NumsP w (pendL s.rows)) := by
  obtain ⟨h, t, B, V, N, c, hN⟩ := c
  exact pending_any c
theorem ju_last (c : JU B0 b K s w) : Calls Tryz.prog 21 #[.pointer (some ⟨b, 0, none⟩)] w fun e w' => e = .returned (.int .u64 s.last) ∧ w = w' := by
  obtain ⟨h, t, B, V, N, c, hN⟩ := c
  exact last_any c
end
/-! ### The small run that each law asks -/
namespace Jb
def sev : ByteArray := ⟨#[1, 1, 0, 1, 2, 1, 0, 14, 14, 0]⟩
def aR1 : JR := ⟨1, ⟨#[97]⟩, sev, [], 9, 1, 0, 0⟩
def aR2 : JR := ⟨1, ⟨#[97]⟩, sev, [], 9, 2, 7, 0⟩
def aR3 : JR := ⟨2, ⟨#[98]⟩, sev, [], 9, 1, 0, 0⟩
def aR4 : JR := ⟨2, ⟨#[98]⟩, sev, [], 9, 3, 0, 0⟩
def aS0 : JS := ⟨1, 0, []⟩
def aS1 : JS := ⟨1, 1, [aR1]⟩
def aS2 : JS := ⟨1, 1, [aR2]⟩
def aS3 : JS := ⟨1, 2, [aR2, aR3]⟩
def aS4 : JS := ⟨1, 2, [aR2, aR4]⟩
theorem sa1 : subS aS0 ⟨#[97]⟩ ⟨#[1, 1, 0, 1, 2, 1, 0, 14, 14, 0]⟩ [] 9 = ((1, 1, 0), aS1) := by kernel_rfl
theorem sa2 : subS aS1 ⟨#[97]⟩ ⟨#[1, 1, 0, 1, 2, 1, 0, 14, 14, 0]⟩ [] 9 = ((1, 1, 0), aS1) := by kernel_rfl
theorem sa3 : subS aS1 ⟨#[97]⟩ ⟨#[1, 1, 0, 1, 2, 1, 0, 14, 14, 0]⟩ [] 8 = ((0, 0, 7), aS1) := by kernel_rfl
theorem sa4 : subS aS1 ⟨#[98]⟩ ⟨#[1, 1, 0, 1, 2, 1, 0, 14, 14, 0]⟩ [] 9 = ((0, 0, 6), aS1) := by kernel_rfl
theorem sa5 : doneS aS1 1 7 0 = (0, aS2) := by kernel_rfl
theorem sa6 : subS aS2 ⟨#[98]⟩ ⟨#[1, 1, 0, 1, 2, 1, 0, 14, 14, 0]⟩ [] 9 = ((2, 1, 0), aS3) := by kernel_rfl
theorem sa7 : cancS aS3 1 = ((2, 0), aS3) := by kernel_rfl
theorem sa8 : cancS aS3 2 = ((3, 0), aS4) := by kernel_rfl
theorem sa9 : subS aS4 ⟨#[99]⟩ ⟨#[120]⟩ [] 9 = ((0, 0, 100), aS4) := by kernel_rfl
theorem sa10 : findS aS4 1 = (aR2, 0) := by kernel_rfl
theorem sa11 : mayB aS4.rows 281474976710656 = true := by kernel_rfl
theorem sa12 : pendL aS4.rows = [] := by kernel_rfl
theorem sa13 : (rawS aS4.rows).size ≤ maxLen := of_decide_eq_true (by kernel_rfl)
theorem sa14 : JOk aS4.rows := fun r hr => by
  rcases List.mem_cons.1 hr with rfl | hr
  · exact ⟨by unfold U64 aR2; decide, by show 1 ≤ maxLen; unfold maxLen; omega, Nat.zero_le _⟩
  · simp at hr; subst hr; exact ⟨by unfold U64 aR4; decide, by show 1 ≤ maxLen; unfold maxLen; omega, Nat.zero_le _⟩
theorem sa17 : ∀ r ∈ aS4.rows, r.inp.length ≤ 1000000 := fun r hr => by have h : JOk aS4.rows := sa14; have := (h r hr).2.2; omega
theorem sa15 : ∀ r ∈ aS4.rows, KOk r := fun r hr => by
  rcases List.mem_cons.1 hr with rfl | hr
  · exact ⟨by unfold I64 aR2; decide, fun x hx => by cases hx⟩
  · simp at hr; subst hr; exact ⟨by unfold I64 aR4; decide, fun x hx => by cases hx⟩
theorem sa16 : decJ (rawS aS4.rows) = (aS4.rows, 0) := dec_raw sa11 sa15
end Jb
theorem tk1 (x : UInt8) : (⟨#[x]⟩ : ByteArray).size ≤ maxLen := by show 1 ≤ maxLen; unfold maxLen; omega
theorem no_ints {B0 : Nat} : 0 < ([] : List Int).length → ∀ a : Addr, (none : Option Addr) = some a → a.block < B0 := fun h => absurd h (Nat.lt_irrefl 0)
theorem ints_nil (w : World) : IntsAt w (.slice none 0 0) [] := ⟨none, 0, rfl, fun h => by simp at h⟩
set_option maxRecDepth 100000 in
set_option maxHeartbeats 8000000 in
theorem alive_t (w0 : World) : Calls Tryz.prog 8 #[] w0 fun e w' => e = .returned (.bool true) ∧ Below w0.heap.size w0 w' := by
  have HN1 := Lib.hid (ju_new (m := 1) (by decide) (by decide) w0 (Nat.le_refl _))
  go_enter Tryz.func8, Tryz.ntmps8
  go_upto_region 4 with (go_at_call 25; go_loud ((with_reducible refine HN1.out.mono ?_); rintro e w1 ⟨b, rfl, hc, hb⟩; have HC1 : Hid (JU w0.heap.size b 0 aS0 w1) := Lib.hid hc; have HB1 := Lib.hid hb; clear hc hb))
  clear HN1
  go_upto_region 5 with (go_at_call 15; go_loud ((with_reducible refine Calls.mono (ju_sub HC1.out (ints_nil _) rfl no_ints (by decide) (tk1 _) (by unfold maxLen; omega) sa1) ?_); rintro e w2 ⟨rfl, hc, hk⟩; have HC2 := Lib.hid hc; have HB2 := Lib.hid (HB1.out.trans (hk.below HB1.out.size)); clear hc hk))
  clear HC1 HB1
  go_upto_region 6 with (go_at_call 15; go_loud ((with_reducible refine Calls.mono (ju_sub HC2.out (ints_nil _) rfl no_ints (by decide) (tk1 _) (by unfold maxLen; omega) sa2) ?_); rintro e w3 ⟨rfl, hc, hk⟩; have HC3 := Lib.hid hc; have HB3 := Lib.hid (HB2.out.trans (hk.below HB2.out.size)); clear hc hk))
  clear HC2 HB2
  go_upto_region 7 with (go_at_call 15; go_loud ((with_reducible refine Calls.mono (ju_sub HC3.out (ints_nil _) rfl no_ints (by decide) (tk1 _) (by unfold maxLen; omega) sa3) ?_); rintro e w4 ⟨rfl, hc, hk⟩; have HC4 := Lib.hid hc; have HB4 := Lib.hid (HB3.out.trans (hk.below HB3.out.size)); clear hc hk))
  clear HC3 HB3
  go_upto_region 8 with (go_at_call 15; go_loud ((with_reducible refine Calls.mono (ju_sub HC4.out (ints_nil _) rfl no_ints (by decide) (tk1 _) (by unfold maxLen; omega) sa4) ?_); rintro e w5 ⟨rfl, hc, hk⟩; have HC5 := Lib.hid hc; have HB5 := Lib.hid (HB4.out.trans (hk.below HB4.out.size)); clear hc hk))
  clear HC4 HB4
  go_upto_region 9 with (go_at_call 18; go_loud ((with_reducible refine Calls.mono (ju_done HC5.out (by unfold U64; omega) sa5) ?_); rintro e w6 ⟨rfl, hc, hk⟩; have HC6 := Lib.hid hc; have HB6 := Lib.hid (HB5.out.trans (hk.below HB5.out.size)); clear hc hk))
  clear HC5 HB5
  go_upto_region 10 with (go_at_call 15; go_loud ((with_reducible refine Calls.mono (ju_sub HC6.out (ints_nil _) rfl no_ints (by decide) (tk1 _) (by unfold maxLen; omega) sa6) ?_); rintro e w7 ⟨rfl, hc, hk⟩; have HC7 := Lib.hid hc; have HB7 := Lib.hid (HB6.out.trans (hk.below HB6.out.size)); clear hc hk))
  clear HC6 HB6
  go_upto_region 11 with (go_at_call 17; go_loud ((with_reducible refine Calls.mono (ju_canc HC7.out (by unfold U64; omega) sa7) ?_); rintro e w8 ⟨rfl, hc, hk⟩; have HC8 := Lib.hid hc; have HB8 := Lib.hid (HB7.out.trans (hk.below HB7.out.size)); clear hc hk))
  clear HC7 HB7
  go_upto_region 12 with (go_at_call 17; go_loud ((with_reducible refine Calls.mono (ju_canc HC8.out (by unfold U64; omega) sa8) ?_); rintro e w9 ⟨rfl, hc, hk⟩; have HC9 := Lib.hid hc; have HB9 := Lib.hid (HB8.out.trans (hk.below HB8.out.size)); clear hc hk))
  clear HC8 HB8
  go_upto_region 13 with (go_at_call 15; go_loud ((with_reducible refine Calls.mono (ju_sub HC9.out (ints_nil _) rfl no_ints (by decide) (tk1 _) (by unfold maxLen; omega) sa9) ?_); rintro e w10 ⟨rfl, hc, hk⟩; have HC10 := Lib.hid hc; have HB10 := Lib.hid (HB9.out.trans (hk.below HB9.out.size)); clear hc hk))
  clear HC9 HB9
  have HF := Lib.hid (ju_find HC10.out (j := 1) (by unfold U64; omega))
  unfold FinP at HF
  rw [sa10] at HF
  dsimp only [jcells, aR2] at HF
  go_upto_region 14 with (first
    | (go_at_call 16; go_loud ((with_reducible refine HF.out.mono ?_); rintro e w11 ⟨vi, rfl, hi, hb⟩; obtain ⟨pi, ci, rfl⟩ := owns_slice hi; have HC11 := Lib.hid (HC10.out.below hb); have HB11 := Lib.hid (HB10.out.step hb); clear hi hb)))
  clear HF HC10 HB10
  have HC12 := Lib.hid (HC11.out.below ((Below.refl _ w11).alloc (Nat.le_refl _) (.cells #[.int .u64 1, .string ⟨#[97]⟩, .string sev, .slice pi 0 ci, .int .i64 9, .int .u8 2, .int .i64 7, .int .i64 0] 48)))
  have HB12 := Lib.hid (HB11.out.alloc HB11.out.size (.cells #[.int .u64 1, .string ⟨#[97]⟩, .string sev, .slice pi 0 ci, .int .i64 9, .int .u8 2, .int .i64 7, .int .i64 0] 48))
  have HG12 := Lib.hid (Blk.new w11 48 #[.int .u64 1, .string ⟨#[97]⟩, .string sev, .slice pi 0 ci, .int .i64 9, .int .u8 2, .int .i64 7, .int .i64 0])
  clear HC11 HB11
  generalize w11.heap.size = g at *
  generalize w11.alloc _ = w12 at *
  have HEA := Lib.hid (fun (w : World) (v : Value) (h : RowsAt w v aS4.rows) => jenc_any h (by decide) sa14 sa15)
  unfold EncP at HEA
  rw [sa11, if_pos rfl, if_pos rfl] at HEA
  have HDA := Lib.hid (fun (w : World) => jdec_any (rawS aS4.rows) sa13 w)
  unfold DecJP at HDA
  rw [sa16] at HDA
  have HPA := Lib.hid (fun (w : World) (h : JU w0.heap.size b (0 + 1 + 1 + 1 + 1 + 1 + 1) aS4 w) => ju_pend h)
  unfold NumsP at HPA
  rw [sa12] at HPA
  have HLA : Hid (∀ (w : World), JU w0.heap.size b (0 + 1 + 1 + 1 + 1 + 1 + 1) aS4 w → Calls Tryz.prog 21 #[.pointer (some ⟨b, 0, none⟩)] w fun e w' => e = .returned (.int .u64 2) ∧ w = w') := Lib.hid (fun w h => ju_last h)
  go_upto_region 15 with (first
    | (go_at_call 20; go_loud ((with_reducible refine Calls.mono (ju_rows HC12.out) ?_); rintro e w13 ⟨v, rfl, hr, hb⟩; have HR13 := Lib.hid hr; have HC13 := Lib.hid (HC12.out.below hb); have HB13 := Lib.hid (HB12.out.step hb); have HG13 := Lib.hid (HG12.out.below hb); clear hr hb))
    | (go_at_call 9; go_loud ((with_reducible refine Calls.mono (HEA.out _ _ HR13.out.at) ?_); rintro e w14 ⟨rfl, hb⟩; have HC14 := Lib.hid (HC13.out.below hb); have HB14 := Lib.hid (HB13.out.step hb); have HG14 := Lib.hid (HG13.out.below hb); clear hb)))
  clear HEA HC12 HB12 HG12 HR13 HC13 HB13 HG13
  generalize rawS aS4.rows = R at *
  go_wp2_with (first
    | (go_at_call 11; go_loud ((with_reducible refine Calls.mono (HDA.out _) ?_); rintro e w15 ⟨v, rfl, hr, hb⟩; have HR15 := Lib.hid hr; have HC15 := Lib.hid (HC14.out.below hb); have HB15 := Lib.hid (HB14.out.step hb); have hg15 : w15.cell? ⟨g, 6, none⟩ = some (.int .i64 7) := (HG14.out.below hb).cell 6; clear hr hb))
    | (go_at_call 20; go_loud ((with_reducible refine Calls.mono (ju_rows HC15.out) ?_); rintro e w16 ⟨v2, rfl, hr, hb⟩; have HR16 := Lib.hid hr; have HC16 := Lib.hid (HC15.out.below hb); have HB16 := Lib.hid (HB15.out.step hb); have HR17 := Lib.hid (HR15.out.below hb); clear hr hb))
    | (go_at_call 13; go_loud ((with_reducible refine Calls.mono (rsame_j HR17.out.at HR16.out.at (by decide) sa17) ?_); rintro e w17 ⟨⟨rr, rfl, hrr⟩, hb⟩; obtain rfl := hrr.2 rfl; have HC17 := Lib.hid (HC16.out.below hb); have HB17 := Lib.hid (HB16.out.step hb); clear hb hrr))
    | (go_at_call 21; go_loud ((with_reducible refine Calls.mono (HLA.out _ HC17.out) ?_); rintro e w18 ⟨rfl, rfl⟩))
    | (go_at_call 19; go_loud ((with_reducible refine Calls.mono (HPA.out _ HC17.out) ?_); rintro e w19 ⟨v3, rfl, hr, hb⟩; obtain ⟨p3, c3, rfl⟩ := owns_slice hr; have HB19 := Lib.hid (HB17.out.step hb); clear hr hb)))
  go_ret
  exact ⟨rfl, HB19.out⟩
end Go.Proofs.YtlahficmkfgooaaGreat
