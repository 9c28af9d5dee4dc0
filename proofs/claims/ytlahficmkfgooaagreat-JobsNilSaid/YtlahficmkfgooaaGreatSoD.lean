import Derived.Test.YtlahficmkfgooaaGreatMgl
import Derived.Test.YtlahficmkfgooaaGreatSoQ
import Derived.Test.YtlahficmkfgooaaGreatMgm
import Derived.Test.YtlahficmkfgooaaGreatSoZ
import Derived.Sort.LotD3

/- The walk of pdqsortOrdered at uint64: it sorts. No condition but that the row is not too long. -/
namespace Go.Proofs.YtlahficmkfgooaaGreat
open Go.RowKit Sou
set_option linter.unusedVariables false
set_option linter.unusedSimpArgs false
namespace Sou
open Go.Sort
def PdPost (w0 : World) (g a b : Nat) (d : Array Int) (tl : List Value) (e : Ending) (w' : World) : Prop := e = .returned (.tuple #[]) ∧ ∃ R : Array Int, PermIn a b d R ∧ SortedIn ltInt a b R ∧ UW w0 g R tl w'
/-- What stands between the loop's rounds. -/
structure Pd (w0 : World) (g a0 b0 n : Nat) (d0 : Array Int) (tl : List Value) (a b : Nat) (d : Array Int) (wr : World) : Prop where
  size : d.size = n
  low : Below ltInt a b d
  fin : ∀ R, PermIn a b d R → SortedIn ltInt a b R → PermIn a0 b0 d0 R ∧ SortedIn ltInt a0 b0 R
  uw : UW w0 g d tl wr
section
variable {w0 : World} {g a0 b0 n a b : Nat} {d0 d : Array Int} {tl : List Value} {wr : World}
theorem Pd.perm (h : Pd w0 g a0 b0 n d0 tl a b d wr) (hb : b ≤ n) {d' : Array Int} {w' : World} (hp : PermIn a b d d') (hU : UW wr g d' tl w') : Pd w0 g a0 b0 n d0 tl a b d' w' :=
  ⟨hp.1.trans h.size, h.low.perm (by rw [h.size]; exact hb) hp, fun R hR hs => h.fin R (permIn_trans _ _ _ a b hp hR) hs, h.uw.then hU⟩
theorem Pd.drewN (h : Pd w0 g a0 b0 n d0 tl a b d wr) (k : Nat) : Pd w0 g a0 b0 n d0 tl a b d (wr.drewN k) := ⟨h.size, h.low, h.fin, h.uw.drewN k⟩
theorem Pd.done (h : Pd w0 g a0 b0 n d0 tl a b d wr) {R : Array Int} {w' : World} (hp : PermIn a b d R) (hs : SortedIn ltInt a b R) (hU : UW wr g R tl w') : PdPost w0 g a0 b0 d0 tl (.returned (.tuple #[])) w' := by
  obtain ⟨h1, h2⟩ := h.fin R hp hs
  exact ⟨rfl, R, h1, h2, h.uw.then hU⟩
/-- What stands behind partition. -/
structure Pt (w0 : World) (g a0 b0 n : Nat) (d0 : Array Int) (tl : List Value) (a mid b : Nat) (d : Array Int) (wr : World) : Prop where
  size : d.size = n
  lowl : Below ltInt a mid d
  lowr : Below ltInt (mid + 1) b d
  left : ∀ L, PermIn a mid d L → SortedIn ltInt a mid L → Below ltInt (mid + 1) b L ∧ ∀ R, PermIn (mid + 1) b L R → SortedIn ltInt (mid + 1) b R → PermIn a0 b0 d0 R ∧ SortedIn ltInt a0 b0 R
  right : ∀ L, PermIn (mid + 1) b d L → SortedIn ltInt (mid + 1) b L → Below ltInt a mid L ∧ ∀ R, PermIn a mid L R → SortedIn ltInt a mid R → PermIn a0 b0 d0 R ∧ SortedIn ltInt a0 b0 R
  uw : UW w0 g d tl wr
end
def PdCall (g n cap : Nat) (tl : List Value) (N : Nat) : Prop := ∀ (w : World) (a b lim : Nat) (d : Array Int), UR w g d tl → d.size = n → a ≤ b → b ≤ n → b - a < N → lim ≤ 1000 → Below ltInt a b d →
  Calls Tryz.prog 120 #[.slice (some ⟨g, 0, none⟩) n cap, .int .i64 (a : Int), .int .i64 (b : Int), .int .i64 (lim : Int)] w (PdPost w g a b d tl)
def PdR (w0 : World) (g a0 b0 n N : Nat) (d0 : Array Int) (tl : List Value) (u1 u2 u3 u8 u9 : Value) (wr : World) : Prop := ∃ (a b lim : Nat) (x y : Bool) (d : Array Int), u1 = .int .i64 a ∧ u2 = .int .i64 b ∧ u3 = .int .i64 lim ∧ u8 = .bool x ∧ u9 = .bool y ∧ a ≤ b ∧ b ≤ n ∧ b - a ≤ N ∧ lim ≤ 1000 ∧ Pd w0 g a0 b0 n d0 tl a b d wr
section
variable {w0 : World} {g a0 b0 n cap a b : Nat} {d0 d : Array Int} {tl : List Value} {wr : World}
theorem c_ins (h : Pd w0 g a0 b0 n d0 tl a b d wr) (hab : a ≤ b) (hb : b ≤ n) (hs : n ≤ 1000000) :
    Calls Tryz.prog 134 #[.slice (some ⟨g, 0, none⟩) n cap, .int .i64 (a : Int), .int .i64 (b : Int)] wr fun e w' => e = .returned (.tuple #[]) ∧ PdPost w0 g a0 b0 d0 tl e w' := by
  refine (ins_u h.uw.r h.size hab hb hs).mono ?_
  rintro e w' ⟨rfl, hU⟩
  obtain ⟨h1, h2⟩ := insertionSort_holds (lt := ltInt) swo_ltInt d a b hab (by rw [h.size]; exact hb)
  exact ⟨rfl, h.done h1 h2 hU⟩
theorem c_heap (h : Pd w0 g a0 b0 n d0 tl a b d wr) (hab : a < b) (hb : b ≤ n) (hs : n ≤ 1000000) :
    Calls Tryz.prog 135 #[.slice (some ⟨g, 0, none⟩) n cap, .int .i64 (a : Int), .int .i64 (b : Int)] wr fun e w' => e = .returned (.tuple #[]) ∧ PdPost w0 g a0 b0 d0 tl e w' := by
  refine (heap_u h.uw.r h.size hab hb hs).mono ?_
  rintro e w' ⟨rfl, hU⟩
  obtain ⟨h1, h2⟩ := heapSort_holds (lt := ltInt) swo_ltInt d a b (by omega) (by rw [h.size]; exact hb)
  exact ⟨rfl, h.done h1 h2 hU⟩
theorem c_break (h : Pd w0 g a0 b0 n d0 tl a b d wr) (hab : 12 < b - a) (hb : b ≤ n) (hs : n ≤ 1000000) :
    Calls Tryz.prog 136 #[.slice (some ⟨g, 0, none⟩) n cap, .int .i64 (a : Int), .int .i64 (b : Int)] wr fun e w' => e = .returned (.tuple #[]) ∧ ∃ d1, Pd w0 g a0 b0 n d0 tl a b d1 w' := by
  refine (break_u h.uw.r h.size hab hb hs).mono ?_
  rintro e w' ⟨rfl, d1, hp, hU⟩
  exact ⟨rfl, d1, h.perm hb hp hU⟩
theorem c_choose (h : Pd w0 g a0 b0 n d0 tl a b d wr) (hab : 12 < b - a) (hb : b ≤ n) (hs : n ≤ 1000000) :
    Calls Tryz.prog 137 #[.slice (some ⟨g, 0, none⟩) n cap, .int .i64 (a : Int), .int .i64 (b : Int)] wr fun e w' => (∃ (p : Nat) (h : Int), a ≤ p ∧ p < b ∧ e = .returned (.tuple #[.int .i64 p, .int .i64 h])) ∧ Pd w0 g a0 b0 n d0 tl a b d w' := by
  refine (choose_u h.uw.r h.size hab hb hs).mono ?_
  rintro e w' ⟨he, hU⟩
  exact ⟨he, h.perm hb (permIn_refl _ _ _) hU⟩
theorem c_reverse (h : Pd w0 g a0 b0 n d0 tl a b d wr) (hab : a < b) (hb : b ≤ n) (hs : n ≤ 1000000) :
    Calls Tryz.prog 138 #[.slice (some ⟨g, 0, none⟩) n cap, .int .i64 (a : Int), .int .i64 (b : Int)] wr fun e w' => e = .returned (.tuple #[]) ∧ ∃ d1, Pd w0 g a0 b0 n d0 tl a b d1 w' := by
  refine (reverse_u h.uw.r h.size hab hb hs).mono ?_
  rintro e w' ⟨rfl, hU⟩
  exact ⟨rfl, _, h.perm hb (reverseRange_holds d a b (by omega) (by rw [h.size]; exact hb)) hU⟩
theorem c_partial (h : Pd w0 g a0 b0 n d0 tl a b d wr) (hab : a < b) (hb : b ≤ n) (hs : n ≤ 1000000) :
    Calls Tryz.prog 139 #[.slice (some ⟨g, 0, none⟩) n cap, .int .i64 (a : Int), .int .i64 (b : Int)] wr fun e w' => ∃ f : Bool, e = .returned (.bool f) ∧ (∃ d1, Pd w0 g a0 b0 n d0 tl a b d1 w') ∧ (f = true → PdPost w0 g a0 b0 d0 tl (.returned (.tuple #[])) w') := by
  refine (partial_u h.uw.r h.size hab hb hs).mono ?_
  rintro e w' ⟨rfl, hU⟩
  obtain ⟨h1, h2⟩ := partialInsertionSort_holds (lt := ltInt) swo_ltInt d a b hab (by rw [h.size]; exact hb) h.low
  exact ⟨_, rfl, ⟨_, h.perm hb h1 hU⟩, fun e => h.done h1 (h2 e) hU⟩
theorem c_parteq {p : Nat} (h : Pd w0 g a0 b0 n d0 tl a b d wr) (ha : 0 < a) (hap : a ≤ p) (hpb : p < b) (hb : b ≤ n) (hs : n ≤ 1000000) (hnl : decide (d[a - 1]! < d[p]!) = false) :
    Calls Tryz.prog 141 #[.slice (some ⟨g, 0, none⟩) n cap, .int .i64 (a : Int), .int .i64 (b : Int), .int .i64 (p : Int)] wr fun e w' => ∃ mid : Nat, e = .returned (.int .i64 mid) ∧ a < mid ∧ mid ≤ b ∧ ∃ d1, Pd w0 g a0 b0 n d0 tl mid b d1 w' := by
  refine (parteq_u h.uw.r h.size hap hpb hb hs).mono ?_
  rintro e w' ⟨rfl, hU⟩
  obtain ⟨h1, h2, h3, h4, h5⟩ := round_eq (lt := ltInt) swo_ltInt (partitionEqual_holds _) ha hap hpb (by rw [h.size]; exact hb) h.low hnl (show partitionEqual ltInt d a b p = ((partitionEqual ltInt d a b p).1, (partitionEqual ltInt d a b p).2) from rfl)
  refine ⟨_, rfl, h1, h2, _, h3.trans h.size, h4, fun R hR hs => ?_, h.uw.then hU⟩
  obtain ⟨k1, k2⟩ := h5 R hR hs
  exact h.fin R k1 k2
theorem c_part {p : Nat} (h : Pd w0 g a0 b0 n d0 tl a b d wr) (hap : a ≤ p) (hpb : p < b) (hb : b ≤ n) (hs : n ≤ 1000000) :
    Calls Tryz.prog 142 #[.slice (some ⟨g, 0, none⟩) n cap, .int .i64 (a : Int), .int .i64 (b : Int), .int .i64 (p : Int)] wr fun e w' => ∃ (mid : Nat) (f : Bool), e = .returned (.tuple #[.int .i64 mid, .bool f]) ∧ a ≤ mid ∧ mid < b ∧ ∃ d1, Pt w0 g a0 b0 n d0 tl a mid b d1 w' := by
  refine (part_u h.uw.r h.size hap hpb hb hs).mono ?_
  rintro e w' ⟨rfl, hU⟩
  obtain ⟨h1, h2, h3, h4, h5, h6, h7⟩ := round_part (lt := ltInt) swo_ltInt (partition_holds _) hap hpb (by rw [h.size]; exact hb) h.low (show partition ltInt d a b p = ((partition ltInt d a b p).1, (partition ltInt d a b p).2.1, (partition ltInt d a b p).2.2) from rfl)
  refine ⟨_, _, rfl, h1, h2, _, h3.trans h.size, h4, h5, fun L hL hsL => ?_, fun L hL hsL => ?_, h.uw.then hU⟩
  · obtain ⟨k1, k2⟩ := h6 L hL hsL
    exact ⟨k1, fun R hR hsR => h.fin R (k2 R hR hsR).1 (k2 R hR hsR).2⟩
  · obtain ⟨k1, k2⟩ := h7 L hL hsL
    exact ⟨k1, fun R hR hsR => h.fin R (k2 R hR hsR).1 (k2 R hR hsR).2⟩
theorem c_left {N mid lim : Nat} (IH : PdCall g n cap tl N) (h : Pt w0 g a0 b0 n d0 tl a mid b d wr) (h1 : a ≤ mid) (h2 : mid < b) (hb : b ≤ n) (hN : b - a ≤ N) (hl : lim ≤ 1000) :
    Calls Tryz.prog 120 #[.slice (some ⟨g, 0, none⟩) n cap, .int .i64 (a : Int), .int .i64 (mid : Int), .int .i64 (lim : Int)] wr fun e w' => e = .returned (.tuple #[]) ∧ ∃ d1, Pd w0 g a0 b0 n d0 tl (mid + 1) b d1 w' := by
  refine (IH wr a mid lim d h.uw.r h.size h1 (by omega) (by omega) hl h.lowl).mono ?_
  rintro e w' ⟨rfl, L, hL, hsL, hU⟩
  obtain ⟨k1, k2⟩ := h.left L hL hsL
  exact ⟨rfl, L, hL.1.trans h.size, k1, k2, h.uw.then hU⟩
theorem c_right {N mid lim : Nat} (IH : PdCall g n cap tl N) (h : Pt w0 g a0 b0 n d0 tl a mid b d wr) (h1 : a ≤ mid) (h2 : mid < b) (hb : b ≤ n) (hN : b - a ≤ N) (hl : lim ≤ 1000) :
    Calls Tryz.prog 120 #[.slice (some ⟨g, 0, none⟩) n cap, .int .i64 ((mid + 1 : Nat) : Int), .int .i64 (b : Int), .int .i64 (lim : Int)] wr fun e w' => e = .returned (.tuple #[]) ∧ ∃ d1, Pd w0 g a0 b0 n d0 tl a mid d1 w' := by
  refine (IH wr (mid + 1) b lim d h.uw.r h.size (by omega) hb (by omega) hl h.lowr).mono ?_
  rintro e w' ⟨rfl, L, hL, hsL, hU⟩
  obtain ⟨k1, k2⟩ := h.right L hL hsL
  exact ⟨rfl, L, hL.1.trans h.size, k1, k2, h.uw.then hU⟩
end
end Sou
set_option maxRecDepth 100000 in
set_option maxHeartbeats 4000000 in
theorem pdq_step {g n cap N : Nat} {tl : List Value} (hs : n ≤ 1000000) (IH : PdCall g n cap tl N) : PdCall g n cap tl (N + 1) := by
  intro w a0 b0 lim0 d0 h hn hab hb hN hlim hlow
  have hz : PdR w g a0 b0 n N d0 tl (.int .i64 a0) (.int .i64 b0) (.int .i64 lim0) (.bool true) (.bool true) w := ⟨a0, b0, lim0, true, true, d0, rfl, rfl, rfl, rfl, rfl, hab, hb, by omega, hlim, hn, hlow, fun R h1 h2 => ⟨h1, h2⟩, h, Only.refl _ _⟩
  have HZ := Lib.hid hz
  have HIH := Lib.hid IH
  have HS := Lib.hid hs
  clear h hn hab hb hN hlim hlow hz IH hs
  go_enter Tryz.func120, Tryz.ntmps120
  go_wp2_with fail
  go_loopw [1, 2, 3, 8, 9] (fun u1 u2 u3 u8 u9 wr => PdR w g a0 b0 n N d0 tl u1 u2 u3 u8 u9 wr) (fun u1 u2 _ _ _ _ => (intOf u2 - intOf u1).toNat)
  case atStart => exact HZ.out
  case round =>
    clear HZ
    obtain ⟨a, b, lim, x, y, d, rfl, rfl, rfl, rfl, rfl, hab, hb, hN, hlim, hpd⟩ := hrel
    have HPD := Lib.hid hpd
    obtain ⟨l, hl⟩ : ∃ l, l = b - a := ⟨_, rfl⟩
    have HB : Hid (a ≤ b ∧ b ≤ n ∧ b - a ≤ N ∧ lim ≤ 1000 ∧ l = b - a ∧ n ≤ 1000000) := Lib.hid ⟨hab, hb, hN, hlim, hl, HS.out⟩
    have el : IntKind.i64.wrap ((b : Int) - (a : Int)) = (l : Int) := by have := HB.out; rw [IntKind.wrap_i64]; omega
    clear hpd hab hb hN hlim hl
    by_cases h12 : l ≤ 12
    · have h12' : (l : Int) ≤ 12 := by omega
      have HC := Lib.hid (c_ins (cap := cap) HPD.out (by have := HB.out; omega) (by have := HB.out; omega) HS.out)
      clear HPD HB HIH HS h12
      go_wp2_with (go_at_call 134; ((with_reducible refine HC.out.mono ?_); rintro e w' ⟨rfl, hp⟩))
      go_end0
      exact hp
    · have h12' : decide ((l : Int) ≤ 12) = false := decide_eq_false (by omega)
      have h12'' : ¬ (l : Int) ≤ 12 := of_decide_eq_false h12'
      have HL : Hid (12 < l) := Lib.hid (by omega)
      clear h12
      rcases Nat.eq_zero_or_pos lim with hl0 | hl0
      · subst hl0
        have HC := Lib.hid (c_heap (cap := cap) HPD.out (by have := HB.out; have := HL.out; omega) (by have := HB.out; omega) HS.out)
        clear HPD HB HIH HS HL
        go_wp2_with (go_at_call 135; ((with_reducible refine HC.out.mono ?_); rintro e w' ⟨rfl, hp⟩))
        go_end0
        exact hp
      · have hl0' : ((lim : Int) == 0) = false := by simp; omega
        have EL1 : Hid (IntKind.i64.wrap ((lim : Int) - 1) = ((lim - 1 : Nat) : Int)) := Lib.hid (by have := HB.out; clear el; rw [IntKind.wrap_i64]; omega)
        clear hl0
        go_upto_if 35 with fail
        clear h12' h12'' hl0' el
        go_cut [3] (fun u wc => ∃ lim2 d1, u = .int .i64 ((lim2 : Nat) : Int) ∧ lim2 ≤ 1000 ∧ Pd w g a0 b0 n d0 tl a b d1 wc)
        case first =>
          cases x with
          | true =>
            have HB2 := Lib.hid HB.out.2.2.2.1
            clear HIH HS HL HB EL1
            go_wp2_with fail
            go_meet
            exact ⟨lim, d, rfl, HB2.out, HPD.out⟩
          | false =>
            have HC := Lib.hid (c_break (cap := cap) HPD.out (by have := HB.out; have := HL.out; omega) (by have := HB.out; omega) HS.out)
            have HB2 : Hid (lim - 1 ≤ 1000) := Lib.hid (by have := HB.out; omega)
            clear HIH HS HL HB HPD
            have e1 := EL1.out
            clear EL1
            generalize lim - 1 = lim2 at *
            go_wp2_with (go_at_call 136; ((with_reducible refine HC.out.mono ?_); rintro e w' ⟨rfl, d1, hp⟩))
            go_meet
            exact ⟨lim2, d1, rfl, HB2.out, hp⟩
        case rest =>
          clear HPD EL1
          obtain ⟨lim2, d1, rfl, hlim, hpd⟩ := hcut
          have HPD := Lib.hid hpd
          have HLIM := Lib.hid hlim
          have HC := Lib.hid (c_choose (cap := cap) hpd (by have := HB.out; have := HL.out; omega) (by have := HB.out; omega) HS.out)
          clear hlim hpd
          go_upto_if 50 with (go_at_call 137; ((with_reducible refine HC.out.mono ?_); rintro e w' ⟨⟨p, hint, hp1, hp2, rfl⟩, hpd⟩))
          clear HPD HC
          have HPD := Lib.hid hpd
          have HP := Lib.hid (And.intro hp1 hp2)
          clear hpd hp1 hp2
          go_cut [11, 12] (fun u v wc => ∃ (p2 : Nat) (h2 : Int) (d2 : Array Int), u = .int .i64 (p2 : Int) ∧ v = .int .i64 h2 ∧ a ≤ p2 ∧ p2 < b ∧ Pd w g a0 b0 n d0 tl a b d2 wc)
          case first =>
            by_cases hh : hint = 2
            · subst hh
              have HC := Lib.hid (c_reverse (cap := cap) HPD.out (by have := HB.out; have := HL.out; omega) (by have := HB.out; omega) HS.out)
              have e1 : IntKind.i64.wrap ((b : Int) - 1) = ((b - 1 : Nat) : Int) := by have := HB.out; have := HL.out; rw [IntKind.wrap_i64]; omega
              have E1 := Lib.hid e1
              clear e1
              have e2 : IntKind.i64.wrap ((p : Int) - (a : Int)) = ((p - a : Nat) : Int) := by have := HB.out; have := HP.out; rw [IntKind.wrap_i64]; omega
              have E2 := Lib.hid e2
              clear e2
              have e3 : IntKind.i64.wrap (((b - 1 : Nat) : Int) - ((p - a : Nat) : Int)) = ((b - 1 - (p - a) : Nat) : Int) := by have := HB.out; have := HP.out; have := HL.out; rw [IntKind.wrap_i64]; omega
              have HP2 : Hid (a ≤ b - 1 - (p - a) ∧ b - 1 - (p - a) < b) := Lib.hid (by have := HB.out; have := HP.out; have := HL.out; omega)
              have e1 := E1.out
              have e2 := E2.out
              clear HIH HS HL HB HPD E1 E2 HP
              generalize b - 1 - (p - a) = p2 at *
              generalize b - 1 = b1 at *
              generalize p - a = pa at *
              go_wp2_with (go_at_call 138; ((with_reducible refine HC.out.mono ?_); rintro e w' ⟨rfl, d2, hp⟩))
              go_meet
              exact ⟨p2, 1, d2, rfl, rfl, HP2.out.1, HP2.out.2, hp⟩
            · have hh' : (hint == 2) = false := by simpa using hh
              clear hh HIH HS HL HB
              go_wp2_with fail
              go_meet
              exact ⟨p, hint, d1, rfl, rfl, HP.out.1, HP.out.2, HPD.out⟩
          case rest =>
            clear HPD HP
            obtain ⟨p2, h2, d2, rfl, rfl, hp1, hp2, hpd⟩ := hcut
            have HPD := Lib.hid hpd
            have HP := Lib.hid (And.intro hp1 hp2)
            clear hpd hp1 hp2
            obtain ⟨c, hc⟩ : ∃ c : Bool, c = (x && y && decide (h2 = 1)) := ⟨_, rfl⟩
            go_upto_region 15 with fail
            go_cut [68] (fun u wd => u = .bool c ∧ wd = wc)
            case first =>
              clear HPD HP HIH HS HB HL HLIM
              cases x <;> cases y
              all_goals (simp at hc)
              all_goals (by_cases hh : h2 = 1)
              all_goals (first | (have hh' : (h2 == 1) = false := by simpa using hh) | skip)
              all_goals (subst hc; try subst hh)
              all_goals go_wp2_with fail
              all_goals go_meet
              all_goals (first | exact ⟨rfl, rfl⟩ | (simp [hh]))
            case rest =>
              clear hc
              obtain ⟨rfl, rfl⟩ := hcut
              go_upto_if 68 with fail
              go_cut [] (fun wd => ∃ d3, Pd w g a0 b0 n d0 tl a b d3 wd)
              case first =>
                cases c with
                | false =>
                  clear HIH HS HB HL HLIM HP
                  go_wp2_with fail
                  go_meet
                  exact ⟨_, HPD.out⟩
                | true =>
                  have HC := Lib.hid (c_partial (cap := cap) HPD.out (by have := HB.out; have := HL.out; omega) (by have := HB.out; omega) HS.out)
                  clear HIH HS HB HL HLIM HP HPD
                  go_upto_if 72 with (go_at_call 139; ((with_reducible refine HC.out.mono ?_); rintro e w' ⟨f, rfl, hpd, hf⟩))
                  have HPD := Lib.hid hpd
                  have HF := Lib.hid hf
                  clear hpd hf HC
                  cases f with
                  | true =>
                    go_wp2_with fail
                    go_end0
                    exact HF.out (by trivial)
                  | false =>
                    go_wp2_with fail
                    go_meet
                    exact HPD.out
              case rest =>
                clear HPD
                obtain ⟨d3, hpd⟩ := hcut
                have HPD := Lib.hid hpd
                clear hpd
                obtain ⟨am, ham⟩ : ∃ am, am = a - 1 := ⟨_, rfl⟩
                go_upto_region 17 with fail
                go_cut [87] (fun u wd => ∃ q : Bool, u = .bool q ∧ (q = true → 0 < a ∧ decide (d3[am]! < d3[p2]!) = false) ∧ Pd w g a0 b0 n d0 tl a b d3 wd)
                case first =>
                  by_cases ha0 : 0 < a
                  · have ha0' : (0 : Int) < (a : Int) := by omega
                    have x0 := HPD.out.uw.r.cell (i := am) (by have := HPD.out.size; have := HB.out; omega)
                    have x1 := HPD.out.uw.r.cell (i := p2) (by have := HPD.out.size; have := HB.out; have := HP.out; omega)
                    have b0' : (am : Int) < (n : Int) := by have := HB.out; omega
                    have b1 : (p2 : Int) < (n : Int) := by have := HB.out; have := HP.out; omega
                    have c0 : (0 : Int) ≤ (am : Int) := by omega
                    have c1 : (0 : Int) ≤ (p2 : Int) := by omega
                    have ej : IntKind.i64.wrap ((a : Int) - 1) = (am : Int) := by have := HB.out; rw [IntKind.wrap_i64]; omega
                    have HQ := Lib.hid (fun (q : Bool) (h : decide (d3[am]! < d3[p2]!) = !q) => show (q = true → 0 < a ∧ decide (d3[am]! < d3[p2]!) = false) from fun e => ⟨ha0, by rw [h, e]; rfl⟩)
                    clear HIH HS HB HL HLIM HP ham
                    generalize d3[am]! = y0 at *
                    generalize d3[p2]! = y1 at *
                    cases hlt : decide (y0 < y1) with
                    | true =>
                      have HLT := Lib.hid hlt
                      have HN := Lib.hid (HQ.out false hlt)
                      clear hlt HQ
                      go_quiet ((go_at_call 140; exact Calls.quiet_of_same (less_t HLT.out _)))
                      go_wp2_with fail
                      go_meet
                      exact ⟨false, rfl, HN.out, HPD.out.drewN _⟩
                    | false =>
                      have HLT := Lib.hid hlt
                      have HN := Lib.hid (HQ.out true hlt)
                      clear hlt HQ
                      go_quiet ((go_at_call 140; exact Calls.quiet_of_same (less_t HLT.out _)))
                      go_wp2_with fail
                      go_meet
                      exact ⟨true, rfl, fun _ => HN.out (by trivial), HPD.out.drewN _⟩
                  · have ha0' : ¬ (0 : Int) < (a : Int) := by omega
                    clear HIH HS HB HL HLIM HP ham
                    go_quiet (fail)
                    go_wp2_with fail
                    go_meet
                    exact ⟨false, rfl, fun e => Bool.noConfusion e, HPD.out.drewN _⟩
                case rest =>
                  clear HPD
                  obtain ⟨q, rfl, hq, hpd⟩ := hcut
                  have HPD := Lib.hid hpd
                  have HQ := Lib.hid hq
                  have HAM := Lib.hid ham
                  clear hpd hq ham
                  cases q with
                  | true =>
                    have HC := Lib.hid (c_parteq (cap := cap) (p := p2) HPD.out (HQ.out rfl).1 HP.out.1 HP.out.2 (by have := HB.out; omega) HS.out (by rw [← HAM.out]; exact (HQ.out rfl).2))
                    clear HIH HS HL HP HPD HQ HAM
                    go_wp2_with (go_at_call 141; ((with_reducible refine HC.out.mono ?_); rintro e w' ⟨mid, rfl, hm1, hm2, d4, hpd⟩))
                    have HPD := Lib.hid hpd
                    have HM := Lib.hid (And.intro hm1 hm2)
                    clear hpd hm1 hm2
                    go_roundw
                    case rel => exact ⟨mid, b, lim2, x, y, d4, rfl, rfl, rfl, rfl, rfl, HM.out.2, by have := HB.out; omega, by have := HB.out; have := HM.out; omega, HLIM.out, HPD.out⟩
                    case measure => have := HM.out; simp [intOf]; omega
                  | false =>
                    have HC := Lib.hid (c_part (cap := cap) (p := p2) HPD.out HP.out.1 HP.out.2 (by have := HB.out; omega) HS.out)
                    have HE : Hid ((l : Int).tdiv 8 = ((l / 8 : Nat) : Int)) := Lib.hid (by rw [Int.tdiv_eq_ediv_of_nonneg (by omega)]; omega)
                    clear HL HP HPD HQ HAM
                    go_upto_region 22 with (go_at_call 142; ((with_reducible refine HC.out.mono ?_); rintro e w' ⟨mid, f, rfl, hm1, hm2, d4, hpt⟩))
                    have HPT := Lib.hid hpt
                    have HM := Lib.hid (And.intro hm1 hm2)
                    obtain ⟨lf, hlf⟩ : ∃ lf, lf = mid - a := ⟨_, rfl⟩
                    obtain ⟨rt, hrt⟩ : ∃ rt, rt = b - mid := ⟨_, rfl⟩
                    have E1 : Hid (IntKind.i64.wrap ((mid : Int) - (a : Int)) = (lf : Int)) := Lib.hid (by have := HB.out; rw [IntKind.wrap_i64]; omega)
                    have E2 : Hid (IntKind.i64.wrap ((b : Int) - (mid : Int)) = (rt : Int)) := Lib.hid (by have := HB.out; rw [IntKind.wrap_i64]; omega)
                    have E3 : Hid (IntKind.i64.wrap ((mid : Int) + 1) = ((mid + 1 : Nat) : Int)) := Lib.hid (by have := HB.out; rw [IntKind.wrap_i64]; omega)
                    have HCL := Lib.hid (c_left (cap := cap) (lim := lim2) HIH.out hpt hm1 hm2 (by have := HB.out; omega) (by have := HB.out; omega) HLIM.out)
                    have HCR := Lib.hid (c_right (cap := cap) (lim := lim2) HIH.out hpt hm1 hm2 (by have := HB.out; omega) (by have := HB.out; omega) HLIM.out)
                    clear hpt hm1 hm2 hlf hrt HC HIH HPT
                    by_cases hlr : lf < rt
                    · have hlr' : (lf : Int) < (rt : Int) := by omega
                      clear HCR hlr
                      have e1 := E1.out
                      have e2 := E2.out
                      have e3 := E3.out
                      have he := HE.out
                      clear E1 E2 HE
                      go_upto_region 27 with (go_at_call 120; ((with_reducible refine HCL.out.mono ?_); rintro e w'' ⟨rfl, d5, hpd⟩))
                      have HPD := Lib.hid hpd
                      clear hpd e1 e2 hlr' HCL he
                      go_wp2_with fail
                      try rw [E3.out]
                      clear e3
                      go_roundw
                      case rel => exact ⟨mid + 1, b, lim2, _, f, d5, rfl, rfl, rfl, rfl, rfl, by have := HM.out; omega, by have := HB.out; omega, by have := HB.out; have := HM.out; omega, HLIM.out, HPD.out⟩
                      case measure => have := HM.out; simp [intOf]; omega
                    · have hlr' : ¬ (lf : Int) < (rt : Int) := by omega
                      clear HCL hlr
                      have e1 := E1.out
                      have e2 := E2.out
                      have e3 := E3.out
                      have he := HE.out
                      clear E1 E2 HE E3
                      generalize mid + 1 = mid1 at *
                      go_upto_region 30 with (go_at_call 120; ((with_reducible refine HCR.out.mono ?_); rintro e w'' ⟨rfl, d5, hpd⟩))
                      have HPD := Lib.hid hpd
                      clear hpd e1 e2 e3 hlr' HCR he
                      go_wp2_with fail
                      go_roundw
                      case rel => exact ⟨a, mid, lim2, _, f, d5, rfl, rfl, rfl, rfl, rfl, by have := HM.out; omega, by have := HB.out; have := HM.out; omega, by have := HB.out; have := HM.out; omega, HLIM.out, HPD.out⟩
                      case measure => have := HM.out; simp [intOf]; omega
theorem pdq_u {g n cap : Nat} {tl : List Value} (hs : n ≤ 1000000) : ∀ N, PdCall g n cap tl N
  | 0 => fun w a b lim d _ _ _ _ h => absurd h (Nat.not_lt_zero _)
  | N + 1 => pdq_step hs (pdq_u hs N)
end Go.Proofs.YtlahficmkfgooaaGreat
