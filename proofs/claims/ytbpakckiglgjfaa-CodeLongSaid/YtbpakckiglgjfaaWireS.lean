
/- The walks of the document's reader of bricks, second part. No condition but that numbers fit their kinds. -/
import Derived.Test.YtbpakckiglgjfaaWireR
namespace Go.Proofs.Ytbpakckiglgjfaa
open Go.RowKit Wire
set_option linter.unusedVariables false
theorem uC_max (s : ByteArray) : uC s 18446744073709551615 = 0 := by
  unfold uC; rw [if_neg]; have := (xI_U64 s).2; omega
theorem num0_bad {s : ByteArray} {e : Int} (h : ¬ (e = 0 ∧ (rdS s).2.2 = 0)) (c : Int) : numV s e c = 0 ∧ numS s e c = s ∧ numE s e c = numE s e 0 ∧ numE s e 0 ≠ 0 := by
  refine ⟨?_, ?_, ?_, ?_⟩
  · unfold numV; rw [if_neg]; exact fun hh => h ⟨hh.1, hh.2.1⟩
  · unfold numS; rw [if_neg]; exact fun hh => h ⟨hh.1, hh.2.1⟩
  · unfold numE
    by_cases he : e = 0
    · rw [if_pos he, if_pos he, if_neg (fun hr => h ⟨he, hr⟩), if_neg (fun hr => h ⟨he, hr⟩)]
    · rw [if_neg he, if_neg he]
  · unfold numE
    by_cases he : e = 0
    · rw [if_pos he, if_neg (fun hr => h ⟨he, hr⟩)]
      intro hh; exact h ⟨he, by omega⟩
    · rw [if_neg he]; exact he
theorem num0_ok {s : ByteArray} (h : (rdS s).2.2 = 0) : numV s 0 0 = xI s ∧ numS s 0 0 = tl s (rdS s).2.1 ∧ numE s 0 0 = 0 := by
  refine ⟨by unfold numV; rw [if_pos ⟨rfl, h, rfl⟩]; rfl, by unfold numS; rw [if_pos ⟨rfl, h, rfl⟩], by unfold numE; rw [if_pos rfl, if_pos h]⟩
theorem numc {s : ByteArray} (h : (rdS s).2.2 = 0) {c : Int} (hc : c ≠ 0) : numV s 0 c = 0 ∧ numS s 0 c = s ∧ numE s 0 c = c := by
  refine ⟨by unfold numV; rw [if_neg (fun hh => hc hh.2.2)], by unfold numS; rw [if_neg (fun hh => hc hh.2.2)], by unfold numE; rw [if_pos rfl, if_pos h]⟩
theorem rmax {b : Nat} {s : ByteArray} {e0 : Int} {w : World} (h : RR w b s e0) :
    Calls Try.prog 38 #[.pointer (some ⟨b, 0, none⟩), .int .u64 18446744073709551615] w (RNumPost b w (numV s e0 0) (numS s e0 0) (numE s e0 0)) := by
  have := ruintm_any h 18446744073709551615; rw [uC_max] at this; exact this
theorem cC_cases (s : ByteArray) (most : Int) : ((most < 0 ∨ most < xI s) ∧ cC s most = 4) ∨ (0 ≤ most ∧ xI s ≤ most ∧ s.size - nI s < xI s ∧ cC s most = 10) ∨ (0 ≤ most ∧ xI s ≤ most ∧ xI s ≤ s.size - nI s ∧ cC s most = 0) := by
  unfold cC cntC
  by_cases h1 : most < 0 ∨ most < xI s
  · exact .inl ⟨h1, by rw [if_pos h1]⟩
  · by_cases h2 : (s.size : Int) - nI s < xI s
    · exact .inr (.inl ⟨by omega, by omega, h2, by rw [if_neg h1, if_pos h2]⟩)
    · exact .inr (.inr ⟨by omega, by omega, by omega, by rw [if_neg h1, if_neg h2]⟩)
set_option maxHeartbeats 1000000 in
theorem rcount_any {b : Nat} {s : ByteArray} {e0 : Int} {w : World} (h : RR w b s e0) (most : Int) (hm : I64 most) :
    Calls Try.prog 39 #[.pointer (some ⟨b, 0, none⟩), .int .i64 most] w (RIntPost b w (numV s e0 (cC s most)) (numS s e0 (cC s most)) (numE s e0 (cC s most))) := by
  have HH := Lib.hid h
  have c0 := h.c0
  have c1 := h.c1
  have HM := Lib.hid (rmax h)
  have hm0 := hm.1
  have hm1 := hm.2
  have hsz := h.sz
  unfold maxLen at hsz
  clear h hm
  by_cases hk : e0 = 0 ∧ (rdS s).2.2 = 0
  · obtain ⟨rfl, hr⟩ := hk
    have h0 := num0_ok hr
    have hle := rd_le hr
    have htl := tl_len s (rdS s).2.1 hle
    have hx := xI_U64 s
    have hx0 := hx.1
    have hx1 := hx.2
    have hc := cC_cases s most
    have hni : nI s = ((rdS s).2.1 : Nat) := rfl
    rw [hni] at hc
    generalize cC s most = c at *
    rcases hc with ⟨hc, rfl⟩ | ⟨q1, q2, q3, rfl⟩ | ⟨q1, q2, q3, rfl⟩
    · have hr0 := numc hr (c := 4) (by decide)
      rw [h0.1, h0.2.1, h0.2.2] at HM
      rw [hr0.1, hr0.2.1, hr0.2.2]
      have hc' : most < 0 ∨ (0 ≤ most ∧ most < xI s) := by omega
      generalize xI s = x at *
      generalize tl s (rdS s).2.1 = s1 at *
      clear hr0 h0 hc hr hx hni
      rcases hc' with hc | ⟨hc, hc2⟩
      · go_enter Try.func39, Try.ntmps39
        go_wp2_with (go_at_call 38; ((with_reducible refine HM.out.mono ?_); rintro e w1 ⟨rfl, h1, o1⟩; have H1 := Lib.hid h1; have d0 := h1.c0; have d1 := h1.c1; have hf1 : ∀ o, w1.frozen? ⟨b, o, none⟩ = false := h1.frozen; clear h1))
        go_ret
        exact ⟨rfl, (H1.out.setS s HH.out.sz).setE 4, o1.set1.set1⟩
      · go_enter Try.func39, Try.ntmps39
        go_wp2_with (go_at_call 38; ((with_reducible refine HM.out.mono ?_); rintro e w1 ⟨rfl, h1, o1⟩; have H1 := Lib.hid h1; have d0 := h1.c0; have d1 := h1.c1; have hf1 : ∀ o, w1.frozen? ⟨b, o, none⟩ = false := h1.frozen; clear h1))
        go_ret
        exact ⟨rfl, (H1.out.setS s HH.out.sz).setE 4, o1.set1.set1⟩
    · have hr0 := numc hr (c := 10) (by decide)
      rw [h0.1, h0.2.1, h0.2.2] at HM
      rw [hr0.1, hr0.2.1, hr0.2.2]
      generalize xI s = x at *
      generalize tl s (rdS s).2.1 = s1 at *
      have q3' : (s1.size : Int) < x := by omega
      clear hr0 h0 hr hx hni
      go_enter Try.func39, Try.ntmps39
      go_wp2_with (go_at_call 38; ((with_reducible refine HM.out.mono ?_); rintro e w1 ⟨rfl, h1, o1⟩; have H1 := Lib.hid h1; have d0 := h1.c0; have d1 := h1.c1; have hf1 : ∀ o, w1.frozen? ⟨b, o, none⟩ = false := h1.frozen; clear h1))
      go_ret
      exact ⟨rfl, (H1.out.setS s HH.out.sz).setE 10, o1.set1.set1⟩
    · rw [h0.1, h0.2.1, h0.2.2] at HM ⊢
      generalize xI s = x at *
      generalize tl s (rdS s).2.1 = s1 at *
      have q3' : x ≤ (s1.size : Int) := by omega
      clear h0 hr hx hni
      go_enter Try.func39, Try.ntmps39
      go_wp2_with (go_at_call 38; ((with_reducible refine HM.out.mono ?_); rintro e w1 ⟨rfl, h1, o1⟩; have H1 := Lib.hid h1; have d0 := h1.c0; have d1 := h1.c1; have hf1 : ∀ o, w1.frozen? ⟨b, o, none⟩ = false := h1.frozen; clear h1))
      go_ret
      exact ⟨rfl, H1.out, o1⟩
  · have h0 := num0_bad hk 0
    have ht := num0_bad hk (cC s most)
    rw [ht.1, ht.2.1, ht.2.2.1]
    rw [h0.1, h0.2.1] at HM
    have hne : (numE s e0 0 != 0) = true := by simpa using h0.2.2.2
    clear h0 ht hk
    generalize numE s e0 0 = e1 at *
    go_enter Try.func39, Try.ntmps39
    go_wp2_with (go_at_call 38; ((with_reducible refine HM.out.mono ?_); rintro e w1 ⟨rfl, h1, o1⟩; have H1 := Lib.hid h1; have d0 := h1.c0; have d1 := h1.c1; have hf1 : ∀ o, w1.frozen? ⟨b, o, none⟩ = false := h1.frozen; clear h1))
    go_ret
    exact ⟨rfl, H1.out, o1⟩
theorem tl_zero (s : ByteArray) : tl s 0 = s := by
  apply ba_eq; unfold tl; simp
set_option maxHeartbeats 1000000 in
theorem rend_any {b : Nat} {s : ByteArray} {e0 : Int} {w : World} (h : RR w b s e0) : Calls Try.prog 41 #[.pointer (some ⟨b, 0, none⟩)] w (RIntPost b w (endE s e0) s (endE s e0)) := by
  have HH := Lib.hid h
  have c0 := h.c0
  have c1 := h.c1
  have hf : ∀ o, w.frozen? ⟨b, o, none⟩ = false := h.frozen
  clear h
  by_cases he : e0 = 0
  · subst he
    by_cases hs : s.size = 0
    · have := empty_of hs
      subst this
      have e1 : endE ⟨#[]⟩ 0 = 0 := by unfold endE; rw [if_neg (by simp [ByteArray.size])]
      rw [e1]
      clear hs e1
      go_enter Try.func41, Try.ntmps41
      go_wp2
      go_ret
      exact ⟨rfl, HH.out, Only.refl _ _⟩
    · have e1 : endE s 0 = 8 := by unfold endE; rw [if_pos ⟨rfl, hs⟩]
      rw [e1]
      have hne := ne_empty hs
      clear hs e1
      go_enter Try.func41, Try.ntmps41
      go_wp2
      go_ret
      exact ⟨rfl, HH.out.setE 8, (Only.refl _ _).set1⟩
  · have e1 : endE s e0 = e0 := by unfold endE; rw [if_neg (fun h => he h.1)]
    rw [e1]
    have he1 : (e0 == 0) = false := by simpa using he
    clear he e1
    go_enter Try.func41, Try.ntmps41
    go_wp2
    go_ret
    exact ⟨rfl, HH.out, Only.refl _ _⟩
end Go.Proofs.Ytbpakckiglgjfaa
