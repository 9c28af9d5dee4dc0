
/- The walks of order2Ordered, medianOrdered, medianAdjacentOrdered, choosePivotOrdered and reverseRangeOrdered at uint64: what is chosen lies in the row; only the count of swaps turns. No condition but that the row is not too long. -/
import Derived.Test.YtfjadphgjjlhiaaSoS
import Derived.Deep.CutBlock
namespace Go.Proofs.Ytfjadphgjjlhiaa
open Go.RowKit Sou
set_option linter.unusedVariables false
set_option linter.unusedSimpArgs false
namespace Sou
/-- A block of one whole number. -/
def Ct (w : World) (s : Nat) : Prop := ∃ x : Int, Blk w s 3 #[.int .i64 x]
/-- The count of swaps may turn, nothing else. -/
structure CW (w0 : World) (s : Nat) (w : World) : Prop where
  c : Ct w s
  o : Only (· = s) w0 w
theorem CW.drewN {w0 : World} {s : Nat} {w : World} (h : CW w0 s w) (n : Nat) : CW w0 s (w.drewN n) := ⟨h.c, ⟨h.o.os, h.o.tape, h.o.output, h.o.size, h.o.block⟩⟩
theorem CW.then {w0 w w' : World} {s : Nat} (h : CW w0 s w) (k : CW w s w') : CW w0 s w' := ⟨k.c, h.o.trans k.o⟩
theorem CW.ur {w0 w : World} {s g : Nat} {d : Array Int} {tl : List Value} (h : CW w0 s w) (hU : UR w0 g d tl) (hne : g ≠ s) : UR w g d tl := hU.only h.o hne
theorem CW.set {w0 w : World} {s : Nat} {x : Int} (h : CW w0 s w) : CW w0 s (w.setCell ⟨s, 0, none⟩ (.int .i64 x)) := by
  obtain ⟨y, hy⟩ := h.c
  exact ⟨⟨x, by simpa using hy.set 0 (.int .i64 x)⟩, h.o.set1⟩
theorem CW.drew {w0 w : World} {s : Nat} (h : CW w0 s w) : CW w0 s w.drew := ⟨h.c, h.o.drew⟩
def O2Post (w0 : World) (s a b : Nat) (e : Ending) (w' : World) : Prop := (∃ x y : Nat, ((x = a ∧ y = b) ∨ (x = b ∧ y = a)) ∧ e = .returned (.tuple #[.int .i64 x, .int .i64 y])) ∧ CW w0 s w'
def MdPost (w0 : World) (s a b c : Nat) (e : Ending) (w' : World) : Prop := (∃ x : Nat, (x = a ∨ x = b ∨ x = c) ∧ e = .returned (.int .i64 x)) ∧ CW w0 s w'
end Sou
set_option maxRecDepth 100000 in
set_option maxHeartbeats 4000000 in
theorem order2_u {w : World} {g n cap a b s : Nat} {d : Array Int} {tl : List Value} (h : UR w g d tl) (hn : d.size = n) (ha : a < n) (hb : b < n) (hs : Ct w s) :
    Calls Try.prog 62 #[.slice (some ⟨g, 0, none⟩) n cap, .int .i64 (a : Int), .int .i64 (b : Int), .pointer (some ⟨s, 0, none⟩)] w (O2Post w s a b) := by
  have HC : Hid (CW w s w) := Lib.hid ⟨hs, Only.refl _ _⟩
  obtain ⟨x, hx⟩ := hs
  have xs : w.cell? ⟨s, 0, none⟩ = some (.int .i64 x) := by rw [hx.cell 0]; rfl
  have fs := hx.frozen
  have x0 := h.cell (i := a) (by omega)
  have x1 := h.cell (i := b) (by omega)
  have b0 : (a : Int) < (n : Int) := by omega
  have b1 : (b : Int) < (n : Int) := by omega
  have c0 : (0 : Int) ≤ (a : Int) := by omega
  have c1 : (0 : Int) ≤ (b : Int) := by omega
  clear h hn ha hb hx
  generalize d[a]! = y0 at *
  generalize d[b]! = y1 at *
  go_enter Try.func62, Try.ntmps62
  cases hl : decide (y1 < y0) with
  | true =>
    have HLT := Lib.hid hl
    clear hl
    go_upto_region 1 with fail
    go_quiet ((go_at_call 51; exact Calls.quiet_of_same (less_t HLT.out _)))
    have xs : (w.drewN nq).cell? ⟨s, 0, none⟩ = some (.int .i64 x) := xs
    have fs : ∀ o, (w.drewN nq).frozen? ⟨s, o, none⟩ = false := fs
    have HC2 := Lib.hid (fun y => (HC.out.drewN nq).set (x := y))
    clear x0 x1 HC
    generalize w.drewN nq = wx at *
    go_wp2_with fail
    go_ret2
    exact ⟨⟨b, a, .inr ⟨rfl, rfl⟩, rfl⟩, HC2.out _⟩
  | false =>
    have HLT := Lib.hid hl
    clear hl
    go_upto_region 1 with fail
    go_quiet ((go_at_call 51; exact Calls.quiet_of_same (less_t HLT.out _)))
    go_wp2_with fail
    go_ret2
    exact ⟨⟨a, b, .inl ⟨rfl, rfl⟩, rfl⟩, HC.out.drewN _⟩
set_option maxRecDepth 100000 in
set_option maxHeartbeats 4000000 in
theorem median_u {w : World} {g n cap a b c s : Nat} {d : Array Int} {tl : List Value} (h : UR w g d tl) (hn : d.size = n) (ha : a < n) (hb : b < n) (hc : c < n) (hs : Ct w s) (hne : g ≠ s) :
    Calls Try.prog 60 #[.slice (some ⟨g, 0, none⟩) n cap, .int .i64 (a : Int), .int .i64 (b : Int), .int .i64 (c : Int), .pointer (some ⟨s, 0, none⟩)] w (MdPost w s a b c) := by
  have H2 : Hid (∀ w1 x y, CW w s w1 → x < n → y < n → Calls Try.prog 62 #[.slice (some ⟨g, 0, none⟩) n cap, .int .i64 ((x : Nat) : Int), .int .i64 ((y : Nat) : Int), .pointer (some ⟨s, 0, none⟩)] w1 (O2Post w1 s x y)) :=
    Lib.hid fun w1 x y hw hx hy => order2_u (hw.ur h hne) hn hx hy hw.c
  have HC : Hid (CW w s w) := Lib.hid ⟨hs, Only.refl _ _⟩
  have HB := Lib.hid (And.intro ha (And.intro hb hc))
  clear h hn ha hb hc hs hne
  obtain ⟨A, hA⟩ : ∃ A, A = a := ⟨_, rfl⟩
  go_enter Try.func60, Try.ntmps60
  go_upto_region 1 with fail
  go_cut [1, 2] (fun u v wc => ∃ x y : Nat, ((x = a ∧ y = b) ∨ (x = b ∧ y = a)) ∧ u = .int .i64 x ∧ v = .int .i64 y ∧ CW w s wc)
  case first =>
    have HCALL := Lib.hid (H2.out w a b HC.out HB.out.1 HB.out.2.1)
    clear H2 HC HB
    go_wp2_with (go_at_call 62; ((with_reducible refine HCALL.out.mono ?_); rintro e w' ⟨⟨x, y, hxy, rfl⟩, hw⟩))
    go_meet
    exact ⟨x, y, hxy, rfl, rfl, hw⟩
  case rest =>
    clear HC
    obtain ⟨x, y, hxy, rfl, rfl, hw⟩ := hcut
    have HW := Lib.hid hw
    have HB2 : Hid (x < n ∧ y < n ∧ c < n) := Lib.hid (by have := HB.out; omega)
    have HXY := Lib.hid hxy
    clear hw hxy HB hA
    go_upto_region 2 with fail
    go_cut [2, 3] (fun u v wc => ∃ y2 z2 : Nat, ((y2 = y ∧ z2 = c) ∨ (y2 = c ∧ z2 = y)) ∧ u = .int .i64 y2 ∧ v = .int .i64 z2 ∧ CW w s wc)
    case first =>
      have HCALL := Lib.hid (H2.out wc y c HW.out HB2.out.2.1 HB2.out.2.2)
      clear H2 HB2
      go_wp2_with (go_at_call 62; ((with_reducible refine HCALL.out.mono ?_); rintro e w' ⟨⟨x, y, hxy, rfl⟩, hw⟩))
      go_meet
      exact ⟨x, y, hxy, rfl, rfl, HW.out.then hw⟩
    case rest =>
      clear HW
      obtain ⟨y2, z2, hyz, rfl, rfl, hw⟩ := hcut
      have HW := Lib.hid hw
      have HB3 : Hid (x < n ∧ y2 < n) := Lib.hid (by have := HB2.out; omega)
      have HYZ := Lib.hid hyz
      clear hw hyz HB2
      go_upto_region 3 with fail
      have HCALL := Lib.hid (H2.out _ x y2 HW.out HB3.out.1 HB3.out.2)
      clear H2 HB3
      go_wp2_with (go_at_call 62; ((with_reducible refine HCALL.out.mono ?_); rintro e w' ⟨⟨x4, y4, hxy, rfl⟩, hw⟩))
      go_ret
      exact ⟨⟨y4, by have := HXY.out; have := HYZ.out; omega, rfl⟩, HW.out.then hw⟩
set_option maxRecDepth 100000 in
set_option maxHeartbeats 4000000 in
theorem medianAdj_u {w : World} {g n cap a s : Nat} {d : Array Int} {tl : List Value} (h : UR w g d tl) (hn : d.size = n) (ha : 1 ≤ a) (ha2 : a + 1 < n) (hs : Ct w s) (hne : g ≠ s) (hn2 : n ≤ 1000000) :
    Calls Try.prog 59 #[.slice (some ⟨g, 0, none⟩) n cap, .int .i64 (a : Int), .pointer (some ⟨s, 0, none⟩)] w (MdPost w s (a - 1) a (a + 1)) := by
  have HCALL := Lib.hid (median_u (cap := cap) (a := a - 1) (b := a) (c := a + 1) h hn (by omega) (by omega) (by omega) hs hne)
  have e1 : IntKind.i64.wrap ((a : Int) + 1) = ((a + 1 : Nat) : Int) := by rw [IntKind.wrap_i64]; omega
  have e2 : IntKind.i64.wrap ((a : Int) - 1) = ((a - 1 : Nat) : Int) := by rw [IntKind.wrap_i64]; omega
  clear h hn ha ha2 hs hne
  generalize a + 1 = c at *
  generalize a - 1 = b at *
  go_enter Try.func59, Try.ntmps59
  go_wp2_with (go_at_call 60; ((with_reducible refine HCALL.out.mono ?_); rintro e w' ⟨⟨x, hx, rfl⟩, hw⟩))
  go_ret
  exact ⟨⟨x, hx, rfl⟩, hw⟩
end Go.Proofs.Ytfjadphgjjlhiaa
