
/- The law 'CodeApart' at every two programs. No condition. -/
import Derived.Test.YtbpakckiglgjfaaCodeHa
import Derived.Test.YtbpakckiglgjfaaCodeLa
import Derived.Test.YtbpakckiglgjfaaCodeTa
import Derived.Test.YtbpakckiglgjfaaCodeXa
namespace Go.Proofs.Ytbpakckiglgjfaa
open Go.RowKit Cd Wire
set_option linter.unusedVariables false
/-- Both programs lie in blocks b and b + 1. -/
structure TwoW (W : World) (x y : Value) (l m : List FunV) (w : World) : Prop where
  t1 : Blk w W.heap.size 24 #[x]
  t2 : Blk w (W.heap.size + 1) 24 #[y]
  a : FunsAt w x l
  b : FunsAt w y m
  bel : Below W.heap.size W w
theorem TwoW.step {W : World} {x y : Value} {l m : List FunV} {w w' : World} (h : TwoW W x y l m w) (k : Below w.heap.size w w') : TwoW W x y l m w' := ⟨h.t1.below k, h.t2.below k, h.a.below k, h.b.below k, h.bel.step k⟩
theorem TwoW.cells {W : World} {x y : Value} {l m : List FunV} {w : World} (h : TwoW W x y l m w) : w.cell? ⟨W.heap.size, 0, none⟩ = some x ∧ w.cell? ⟨W.heap.size + 1, 0, none⟩ = some y := ⟨h.t1.cell 0, h.t2.cell 0⟩
set_option maxRecDepth 100000 in
set_option maxHeartbeats 8000000 in
theorem capart_run {l m : List FunV} {W : World} {x y : Value} (hx : FunsAt W x l) (hy : FunsAt W y m) (ol : OkP l) (om : OkP m) :
    Calls Try.prog 8 #[.agg #[x], .agg #[y]] W fun e w' => e = .returned (.bool true) ∧ Below W.heap.size W w' := by
  have HT : Hid (TwoW W x y l m ((W.alloc (.cells #[x] 24)).alloc (.cells #[y] 24))) := Lib.hid ⟨(Blk.new _ _ _).alloc _, Blk.new2 _ _ _ _, (hx.alloc _).alloc _, (hy.alloc _).alloc _, ((Below.refl _ W).alloc (Nat.le_refl _) _).alloc (by simp) _⟩
  obtain ⟨p1, c1, rfl⟩ := hx.slice
  obtain ⟨p2, c2, rfl⟩ := hy.slice
  clear hx hy
  have HHA := Lib.hid (fun w (h : FunsAt w (.slice p1 l.length c1) l) => heavy_any h)
  have HHB := Lib.hid (fun w (h : FunsAt w (.slice p2 m.length c2) m) => heavy_any h)
  have HEA : Hid True := Lib.hid trivial
  have HEB : Hid True := Lib.hid trivial
  have HS : Hid True := Lib.hid trivial
  have OL := Lib.hid ol
  have OM := Lib.hid om
  clear ol om
  cases ha : heavyB l with
  | true =>
    rw [ha] at HHA
    clear ha
    generalize l.length = n1 at *
    generalize m.length = n2 at *
    as_aux_lemma =>
      go_enter Try.func8, Try.ntmps8
      go_wp2_with (first | (go_at_call 10; ((with_reducible refine (calive_any _).mono ?_); rintro e w9 ⟨rfl, b9⟩; have HT := Lib.hid (HT.out.step b9))) | (go_at_call 9; (first | ((with_reducible refine (HHA.out _ HT.out.a).mono ?_); rintro e w1 ⟨rfl, b1⟩; have HT := Lib.hid (HT.out.step b1); obtain ⟨x0, y0⟩ := HT.out.cells; clear b1) | ((with_reducible refine (HHB.out _ HT.out.b).mono ?_); rintro e w2 ⟨rfl, b1⟩; have HT := Lib.hid (HT.out.step b1); obtain ⟨x0, y0⟩ := HT.out.cells; clear b1))) | (go_at_call 11; (first | ((with_reducible refine (HEA.out _ HT.out.a).mono ?_); rintro e w3 ⟨rfl, b1⟩; have HT := Lib.hid (HT.out.step b1); obtain ⟨x0, y0⟩ := HT.out.cells; clear b1) | ((with_reducible refine (HEB.out _ HT.out.b).mono ?_); rintro e w4 ⟨rfl, b1⟩; have HT := Lib.hid (HT.out.step b1); obtain ⟨x0, y0⟩ := HT.out.cells; clear b1))) | (go_at_call 17; ((with_reducible refine (HS.out _ HT.out.a HT.out.b).mono ?_); rintro e w5 ⟨rfl, b1⟩; have HT := Lib.hid (HT.out.step b1); obtain ⟨x0, y0⟩ := HT.out.cells; clear b1)))
      go_ret
      exact ⟨rfl, HT.out.bel⟩
  | false =>
    rw [ha] at HHA
    have LA := Lib.hid (heavy_lim ha)
    clear ha
    cases hb : heavyB m with
    | true =>
      rw [hb] at HHB
      clear hb
      generalize l.length = n1 at *
      generalize m.length = n2 at *
      as_aux_lemma =>
        go_enter Try.func8, Try.ntmps8
        go_wp2_with (first | (go_at_call 10; ((with_reducible refine (calive_any _).mono ?_); rintro e w9 ⟨rfl, b9⟩; have HT := Lib.hid (HT.out.step b9))) | (go_at_call 9; (first | ((with_reducible refine (HHA.out _ HT.out.a).mono ?_); rintro e w1 ⟨rfl, b1⟩; have HT := Lib.hid (HT.out.step b1); obtain ⟨x0, y0⟩ := HT.out.cells; clear b1) | ((with_reducible refine (HHB.out _ HT.out.b).mono ?_); rintro e w2 ⟨rfl, b1⟩; have HT := Lib.hid (HT.out.step b1); obtain ⟨x0, y0⟩ := HT.out.cells; clear b1))) | (go_at_call 11; (first | ((with_reducible refine (HEA.out _ HT.out.a).mono ?_); rintro e w3 ⟨rfl, b1⟩; have HT := Lib.hid (HT.out.step b1); obtain ⟨x0, y0⟩ := HT.out.cells; clear b1) | ((with_reducible refine (HEB.out _ HT.out.b).mono ?_); rintro e w4 ⟨rfl, b1⟩; have HT := Lib.hid (HT.out.step b1); obtain ⟨x0, y0⟩ := HT.out.cells; clear b1))) | (go_at_call 17; ((with_reducible refine (HS.out _ HT.out.a HT.out.b).mono ?_); rintro e w5 ⟨rfl, b1⟩; have HT := Lib.hid (HT.out.step b1); obtain ⟨x0, y0⟩ := HT.out.cells; clear b1)))
        go_ret
        exact ⟨rfl, HT.out.bel⟩
    | false =>
      rw [hb] at HHB
      have LB := Lib.hid (heavy_lim hb)
      clear hb HEA HEB HS
      have HEA := Lib.hid (fun w (h : FunsAt w (.slice p1 l.length c1) l) => enc_c h LA.out OL.out rfl rfl)
      have HEB := Lib.hid (fun w (h : FunsAt w (.slice p2 m.length c2) m) => enc_c h LB.out OM.out rfl rfl)
      have HS := Lib.hid (fun w (h : FunsAt w (.slice p1 l.length c1) l) (k : FunsAt w (.slice p2 m.length c2) m) => rsame_any h k LA.out)
      have HI := Lib.hid (fun h1 h2 => prog_inj (a := l) (b := m) h1 h2 OL.out OM.out)
      clear LA LB OL OM
      generalize encV l = s1 at *
      generalize encV m = s2 at *
      generalize encC l = k1 at *
      generalize encC m = k2 at *
      by_cases h1 : k1 = 0
      · subst h1
        by_cases h2 : k2 = 0
        · subst h2
          have hi := HI.out rfl rfl
          clear HI
          by_cases hs : s1 = s2
          · have hlm := decide_eq_true (hi.1 hs)
            rw [hlm] at HS
            have hst := str_of hs
            clear hi hlm hs
            generalize l.length = n1 at *
            generalize m.length = n2 at *
            as_aux_lemma =>
              go_enter Try.func8, Try.ntmps8
              go_wp2_with (first | (go_at_call 10; ((with_reducible refine (calive_any _).mono ?_); rintro e w9 ⟨rfl, b9⟩; have HT := Lib.hid (HT.out.step b9))) | (go_at_call 9; (first | ((with_reducible refine (HHA.out _ HT.out.a).mono ?_); rintro e w1 ⟨rfl, b1⟩; have HT := Lib.hid (HT.out.step b1); obtain ⟨x0, y0⟩ := HT.out.cells; clear b1) | ((with_reducible refine (HHB.out _ HT.out.b).mono ?_); rintro e w2 ⟨rfl, b1⟩; have HT := Lib.hid (HT.out.step b1); obtain ⟨x0, y0⟩ := HT.out.cells; clear b1))) | (go_at_call 11; (first | ((with_reducible refine (HEA.out _ HT.out.a).mono ?_); rintro e w3 ⟨rfl, b1⟩; have HT := Lib.hid (HT.out.step b1); obtain ⟨x0, y0⟩ := HT.out.cells; clear b1) | ((with_reducible refine (HEB.out _ HT.out.b).mono ?_); rintro e w4 ⟨rfl, b1⟩; have HT := Lib.hid (HT.out.step b1); obtain ⟨x0, y0⟩ := HT.out.cells; clear b1))) | (go_at_call 17; ((with_reducible refine (HS.out _ HT.out.a HT.out.b).mono ?_); rintro e w5 ⟨rfl, b1⟩; have HT := Lib.hid (HT.out.step b1); obtain ⟨x0, y0⟩ := HT.out.cells; clear b1)))
              go_ret
              exact ⟨rfl, HT.out.bel⟩
          · have hlm := decide_eq_false (fun e => hs (hi.2 e))
            rw [hlm] at HS
            have hst := str_ne hs
            clear hi hlm hs
            generalize l.length = n1 at *
            generalize m.length = n2 at *
            as_aux_lemma =>
              go_enter Try.func8, Try.ntmps8
              go_wp2_with (first | (go_at_call 10; ((with_reducible refine (calive_any _).mono ?_); rintro e w9 ⟨rfl, b9⟩; have HT := Lib.hid (HT.out.step b9))) | (go_at_call 9; (first | ((with_reducible refine (HHA.out _ HT.out.a).mono ?_); rintro e w1 ⟨rfl, b1⟩; have HT := Lib.hid (HT.out.step b1); obtain ⟨x0, y0⟩ := HT.out.cells; clear b1) | ((with_reducible refine (HHB.out _ HT.out.b).mono ?_); rintro e w2 ⟨rfl, b1⟩; have HT := Lib.hid (HT.out.step b1); obtain ⟨x0, y0⟩ := HT.out.cells; clear b1))) | (go_at_call 11; (first | ((with_reducible refine (HEA.out _ HT.out.a).mono ?_); rintro e w3 ⟨rfl, b1⟩; have HT := Lib.hid (HT.out.step b1); obtain ⟨x0, y0⟩ := HT.out.cells; clear b1) | ((with_reducible refine (HEB.out _ HT.out.b).mono ?_); rintro e w4 ⟨rfl, b1⟩; have HT := Lib.hid (HT.out.step b1); obtain ⟨x0, y0⟩ := HT.out.cells; clear b1))) | (go_at_call 17; ((with_reducible refine (HS.out _ HT.out.a HT.out.b).mono ?_); rintro e w5 ⟨rfl, b1⟩; have HT := Lib.hid (HT.out.step b1); obtain ⟨x0, y0⟩ := HT.out.cells; clear b1)))
              go_ret
              exact ⟨rfl, HT.out.bel⟩
        · have h2' : (k2 == 0) = false := by simpa using h2
          clear HI h2
          generalize l.length = n1 at *
          generalize m.length = n2 at *
          as_aux_lemma =>
            go_enter Try.func8, Try.ntmps8
            go_wp2_with (first | (go_at_call 10; ((with_reducible refine (calive_any _).mono ?_); rintro e w9 ⟨rfl, b9⟩; have HT := Lib.hid (HT.out.step b9))) | (go_at_call 9; (first | ((with_reducible refine (HHA.out _ HT.out.a).mono ?_); rintro e w1 ⟨rfl, b1⟩; have HT := Lib.hid (HT.out.step b1); obtain ⟨x0, y0⟩ := HT.out.cells; clear b1) | ((with_reducible refine (HHB.out _ HT.out.b).mono ?_); rintro e w2 ⟨rfl, b1⟩; have HT := Lib.hid (HT.out.step b1); obtain ⟨x0, y0⟩ := HT.out.cells; clear b1))) | (go_at_call 11; (first | ((with_reducible refine (HEA.out _ HT.out.a).mono ?_); rintro e w3 ⟨rfl, b1⟩; have HT := Lib.hid (HT.out.step b1); obtain ⟨x0, y0⟩ := HT.out.cells; clear b1) | ((with_reducible refine (HEB.out _ HT.out.b).mono ?_); rintro e w4 ⟨rfl, b1⟩; have HT := Lib.hid (HT.out.step b1); obtain ⟨x0, y0⟩ := HT.out.cells; clear b1))) | (go_at_call 17; ((with_reducible refine (HS.out _ HT.out.a HT.out.b).mono ?_); rintro e w5 ⟨rfl, b1⟩; have HT := Lib.hid (HT.out.step b1); obtain ⟨x0, y0⟩ := HT.out.cells; clear b1)))
            go_ret
            exact ⟨rfl, HT.out.bel⟩
      · have h1' : (k1 == 0) = false := by simpa using h1
        clear HI h1
        generalize l.length = n1 at *
        generalize m.length = n2 at *
        as_aux_lemma =>
          go_enter Try.func8, Try.ntmps8
          go_wp2_with (first | (go_at_call 10; ((with_reducible refine (calive_any _).mono ?_); rintro e w9 ⟨rfl, b9⟩; have HT := Lib.hid (HT.out.step b9))) | (go_at_call 9; (first | ((with_reducible refine (HHA.out _ HT.out.a).mono ?_); rintro e w1 ⟨rfl, b1⟩; have HT := Lib.hid (HT.out.step b1); obtain ⟨x0, y0⟩ := HT.out.cells; clear b1) | ((with_reducible refine (HHB.out _ HT.out.b).mono ?_); rintro e w2 ⟨rfl, b1⟩; have HT := Lib.hid (HT.out.step b1); obtain ⟨x0, y0⟩ := HT.out.cells; clear b1))) | (go_at_call 11; (first | ((with_reducible refine (HEA.out _ HT.out.a).mono ?_); rintro e w3 ⟨rfl, b1⟩; have HT := Lib.hid (HT.out.step b1); obtain ⟨x0, y0⟩ := HT.out.cells; clear b1) | ((with_reducible refine (HEB.out _ HT.out.b).mono ?_); rintro e w4 ⟨rfl, b1⟩; have HT := Lib.hid (HT.out.step b1); obtain ⟨x0, y0⟩ := HT.out.cells; clear b1))) | (go_at_call 17; ((with_reducible refine (HS.out _ HT.out.a HT.out.b).mono ?_); rintro e w5 ⟨rfl, b1⟩; have HT := Lib.hid (HT.out.step b1); obtain ⟨x0, y0⟩ := HT.out.cells; clear b1)))
          go_ret
          exact ⟨rfl, HT.out.bel⟩
set_option maxRecDepth 100000 in
theorem capart_open {H : Type} {enc : TypeId × Value → H} {W : World} {base : Nat} {held : Bool} {r : Reach} {b0 b1 : Nat} {d1 d2 : DataW H} {ps1 ps2 : List MemPlace} {x y : Value}
    (hval1 : Value.okWide Try.prog W r b0 24 x) (hd1 : DataW.Trod enc Try.prog W base (fun _ => true) held 24 x d1 ps1) (_ : ∀ x ∈ ps1, x.block < W.heap.size)
    (hval2 : Value.okWide Try.prog W r b1 24 y) (hd2 : DataW.Trod enc Try.prog W base (fun _ => true) held 24 y d2 ps2) (_ : ∀ x ∈ ps2, x.block < W.heap.size) :
    Calls Try.prog 8 #[x, y] W fun e w' => e = .returned (.bool true) ∧ Below W.heap.size W w' := by
  obtain ⟨u, l, rfl, hv, ho⟩ := open_prog hval1 hd1
  obtain ⟨u2, m, rfl, hv2, ho2⟩ := open_prog hval2 hd2
  exact capart_run hv hv2 ho ho2
end Go.Proofs.Ytbpakckiglgjfaa
