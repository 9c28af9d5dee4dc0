/- The walks of the document's reader of bricks, second part. No condition but that numbers fit their kinds. -/
import Derived.Test.YtppkfpphefonoaaWireR
namespace Go.Proofs.Ytppkfpphefonoaa
open Go.RowKit Wire
set_option linter.unusedVariables false
theorem uC_max (s : ByteArray) : uC s 18446744073709551615 = 0 := by
  unfold uC; rw [if_neg]; have := (xI_U64 s).2; omega
theorem num0_bad {s : ByteArray} {e : Int} (h : ¬ (e = 0 ∧ (rdS s).2.2 = 0)) (c : Int) : numV s e c = 0 ∧ numS s e c = s ∧ numE s e c = numE s e 0 ∧ numE s e 0 ≠ 0 := by
  refine ⟨?_, ?_, ?_, ?_⟩
  · unfold numV; rw [if_neg]; exact fun hh => h ⟨hh.1, hh.2.1⟩
  · unfold numS; rw [if_neg]; exact fun hh => h ⟨hh.1, hh.2.1⟩
  · unfold numE
    by_cases he : e = 0
    · rw [if_pos he, if_pos he, if_neg (fun hr => h ⟨he, hr⟩), if_neg (fun hr => h ⟨he, hr⟩)]
    · rw [if_neg he, if_neg he]
  · unfold numE
    by_cases he : e = 0
    · rw [if_pos he, if_neg (fun hr => h ⟨he, hr⟩)]
      intro hh; exact h ⟨he, by omega⟩
    · rw [if_neg he]; exact he
theorem num0_ok {s : ByteArray} (h : (rdS s).2.2 = 0) : numV s 0 0 = xI s ∧ numS s 0 0 = tl s (rdS s).2.1 ∧ numE s 0 0 = 0 := by
  refine ⟨by unfold numV; rw [if_pos ⟨rfl, h, rfl⟩]; rfl, by unfold numS; rw [if_pos ⟨rfl, h, rfl⟩], by unfold numE; rw [if_pos rfl, if_pos h]⟩
theorem numc {s : ByteArray} (h : (rdS s).2.2 = 0) {c : Int} (hc : c ≠ 0) : numV s 0 c = 0 ∧ numS s 0 c = s ∧ numE s 0 c = c := by
  refine ⟨by unfold numV; rw [if_neg (fun hh => hc hh.2.2)], by unfold numS; rw [if_neg (fun hh => hc hh.2.2)], by unfold numE; rw [if_pos rfl, if_pos h]⟩
theorem rmax {b : Nat} {s : ByteArray} {e0 : Int} {w : World} (h : RR w b s e0) :
    Calls Try.prog 41 #[.pointer (some ⟨b, 0, none⟩), .int .u64 18446744073709551615] w (RNumPost b w (numV s e0 0) (numS s e0 0) (numE s e0 0)) := by
  have := ruintm_any h 18446744073709551615; rw [uC_max] at this; exact this
set_option maxRecDepth 100000 in
set_option maxHeartbeats 1000000 in
theorem rtag_any {b : Nat} {s : ByteArray} {e0 : Int} {w : World} (h : RR w b s e0) {n : Nat} {xs : Nat → Int} {v : Value} (hv : Slic w v n fun i => .int .u64 (xs i)) (hn : n < 1099511627776) (hb : ∀ g off cap, v = .slice (some ⟨g, off, none⟩) n cap → 0 < n → g ≠ b) :
    Calls Try.prog 49 #[.pointer (some ⟨b, 0, none⟩), v] w (RNumPost b w (numV s e0 (tC s xs n)) (numS s e0 (tC s xs n)) (numE s e0 (tC s xs n))) := by
  have HH := Lib.hid h
  have c0 := h.c0
  have c1 := h.c1
  have HM := Lib.hid (rmax h)
  obtain ⟨p, cap, rfl, hS⟩ := hv
  clear h
  by_cases hk : e0 = 0 ∧ (rdS s).2.2 = 0
  · obtain ⟨rfl, hr⟩ := hk
    have h0 := num0_ok hr
    rw [h0.1, h0.2.1, h0.2.2] at HM
    have HS := Lib.hid hS
    have HB := Lib.hid hb
    clear hS hb h0
    have hx := xI_U64 s
    go_enter Try.func49, Try.ntmps49
    go_wp2_with (go_at_call 41; ((with_reducible refine HM.out.mono ?_); rintro e w1 ⟨rfl, h1, o1⟩; have H1 := Lib.hid h1; have d0 := h1.c0; have d1 := h1.c1; have hf1 : ∀ o, w1.frozen? ⟨b, o, none⟩ = false := h1.frozen; clear h1))
    go_loopw [7] (fun u wr => (∃ i : Nat, i ≤ n ∧ u = .int .i64 i ∧ has xs i (xI s) = false) ∧ wr = w1) (fun u _ => ((n : Int) - intOf u).toNat)
    case atStart => exact ⟨⟨0, by omega, rfl, rfl⟩, rfl⟩
    case round =>
      obtain ⟨⟨k, hk1, rfl, hno⟩, rfl⟩ := hrel
      by_cases hk : k < n
      · obtain ⟨g0, off, rfl, hg, hx0⟩ := HS.out (by omega)
        have x0 : wr.cell? ⟨g0, off + k, none⟩ = some (.int .u64 (xs k)) := o1.cellq (hx0 k hk) (HB.out g0 off cap rfl (by omega))
        clear hx0
        by_cases he : xs k = xI s
        · have hb : (xs k == xI s) = true := by simpa using he
          have hh : has xs n (xI s) = true := has_of hk he
          have ht : tC s xs n = 0 := by unfold tC; rw [if_pos hh]
          have hr0 := num0_ok hr
          clear he
          go_wp2
          go_ret
          exact ⟨by rw [ht, hr0.1]; rfl, by rw [ht, hr0.2.1, hr0.2.2]; exact H1.out, o1⟩
        · have hb : (xs k == xI s) = false := by simpa using he
          have hs : has xs (k + 1) (xI s) = false := by rw [has_succ, hno]; simpa using he
          clear he
          go_wp2
          go_roundw
          case rel => exact ⟨⟨k + 1, by omega, rfl, hs⟩, by trivial⟩
          case measure => simp [intOf]; omega
      · have : k = n := by omega
        subst this
        have ht : tC s xs k = 8 := by unfold tC; rw [if_neg (by simp [hno])]
        have hr0 := numc hr (c := 8) (by decide)
        go_wp2
        go_ret
        exact ⟨by rw [ht, hr0.1]; rfl, by rw [ht, hr0.2.1, hr0.2.2]; exact (H1.out.setS s HH.out.sz).setE 8, o1.set1.set1⟩
  · have h0 := num0_bad hk 0
    have ht := num0_bad hk (tC s xs n)
    rw [ht.1, ht.2.1, ht.2.2.1]
    rw [h0.1, h0.2.1] at HM
    have hne : (numE s e0 0 != 0) = true := by simpa using h0.2.2.2
    clear hS hb h0 ht hk
    generalize numE s e0 0 = e1 at *
    go_enter Try.func49, Try.ntmps49
    go_wp2_with (go_at_call 41; ((with_reducible refine HM.out.mono ?_); rintro e w1 ⟨rfl, h1, o1⟩; have H1 := Lib.hid h1; have d0 := h1.c0; have d1 := h1.c1; have hf1 : ∀ o, w1.frozen? ⟨b, o, none⟩ = false := h1.frozen; clear h1))
    go_ret
    exact ⟨rfl, H1.out, o1⟩
set_option maxHeartbeats 1000000 in
theorem rbool_any {b : Nat} {s : ByteArray} {e0 : Int} {w : World} (h : RR w b s e0) :
    Calls Try.prog 45 #[.pointer (some ⟨b, 0, none⟩)] w (RBoolPost b w (numV s e0 (bC s) == 1) (numS s e0 (bC s)) (numE s e0 (bC s))) := by
  have hlt := h.blk.lt
  have hv : Slic (w.alloc (.cells #[.int .u64 0, .int .u64 1] 29)) (.slice (some ⟨w.heap.size, 0, none⟩) 2 2) 2 (fun i => .int .u64 (xs01 i)) := slic2 w _ _ _ _ rfl rfl
  have HN := Lib.hid (rtag_any (h.alloc (.cells #[.int .u64 0, .int .u64 1] 29)) hv (by omega) (fun g off cap e _ => by injection e with e1; injection e1 with e2; injection e2 with e3; omega))
  clear h hv
  go_enter Try.func45, Try.ntmps45
  go_wp2_with (go_at_call 49; ((with_reducible refine HN.out.mono ?_); rintro e w' ⟨rfl, hP, hO⟩))
  go_ret
  exact ⟨rfl, hP, ((Only.refl _ _).alloc _).trans hO⟩
theorem cC_cases (s : ByteArray) (most : Int) : ((most < 0 ∨ most < xI s) ∧ cC s most = 4) ∨ (0 ≤ most ∧ xI s ≤ most ∧ s.size - nI s < xI s ∧ cC s most = 10) ∨ (0 ≤ most ∧ xI s ≤ most ∧ xI s ≤ s.size - nI s ∧ cC s most = 0) := by
  unfold cC cntC
  by_cases h1 : most < 0 ∨ most < xI s
  · exact .inl ⟨h1, by rw [if_pos h1]⟩
  · by_cases h2 : (s.size : Int) - nI s < xI s
    · exact .inr (.inl ⟨by omega, by omega, h2, by rw [if_neg h1, if_pos h2]⟩)
    · exact .inr (.inr ⟨by omega, by omega, by omega, by rw [if_neg h1, if_neg h2]⟩)
set_option maxHeartbeats 1000000 in
theorem rcount_any {b : Nat} {s : ByteArray} {e0 : Int} {w : World} (h : RR w b s e0) (most : Int) (hm : I64 most) :
    Calls Try.prog 47 #[.pointer (some ⟨b, 0, none⟩), .int .i64 most] w (RIntPost b w (numV s e0 (cC s most)) (numS s e0 (cC s most)) (numE s e0 (cC s most))) := by
  have HH := Lib.hid h
  have c0 := h.c0
  have c1 := h.c1
  have HM := Lib.hid (rmax h)
  have hm0 := hm.1
  have hm1 := hm.2
  have hsz := h.sz
  unfold maxLen at hsz
  clear h hm
  by_cases hk : e0 = 0 ∧ (rdS s).2.2 = 0
  · obtain ⟨rfl, hr⟩ := hk
    have h0 := num0_ok hr
    have hle := rd_le hr
    have htl := tl_len s (rdS s).2.1 hle
    have hx := xI_U64 s
    have hx0 := hx.1
    have hx1 := hx.2
    have hc := cC_cases s most
    have hni : nI s = ((rdS s).2.1 : Nat) := rfl
    rw [hni] at hc
    generalize cC s most = c at *
    rcases hc with ⟨hc, rfl⟩ | ⟨q1, q2, q3, rfl⟩ | ⟨q1, q2, q3, rfl⟩
    · have hr0 := numc hr (c := 4) (by decide)
      rw [h0.1, h0.2.1, h0.2.2] at HM
      rw [hr0.1, hr0.2.1, hr0.2.2]
      have hc' : most < 0 ∨ (0 ≤ most ∧ most < xI s) := by omega
      generalize xI s = x at *
      generalize tl s (rdS s).2.1 = s1 at *
      clear hr0 h0 hc hr hx hni
      rcases hc' with hc | ⟨hc, hc2⟩
      · go_enter Try.func47, Try.ntmps47
        go_wp2_with (go_at_call 41; ((with_reducible refine HM.out.mono ?_); rintro e w1 ⟨rfl, h1, o1⟩; have H1 := Lib.hid h1; have d0 := h1.c0; have d1 := h1.c1; have hf1 : ∀ o, w1.frozen? ⟨b, o, none⟩ = false := h1.frozen; clear h1))
        go_ret
        exact ⟨rfl, (H1.out.setS s HH.out.sz).setE 4, o1.set1.set1⟩
      · go_enter Try.func47, Try.ntmps47
        go_wp2_with (go_at_call 41; ((with_reducible refine HM.out.mono ?_); rintro e w1 ⟨rfl, h1, o1⟩; have H1 := Lib.hid h1; have d0 := h1.c0; have d1 := h1.c1; have hf1 : ∀ o, w1.frozen? ⟨b, o, none⟩ = false := h1.frozen; clear h1))
        go_ret
        exact ⟨rfl, (H1.out.setS s HH.out.sz).setE 4, o1.set1.set1⟩
    · have hr0 := numc hr (c := 10) (by decide)
      rw [h0.1, h0.2.1, h0.2.2] at HM
      rw [hr0.1, hr0.2.1, hr0.2.2]
      generalize xI s = x at *
      generalize tl s (rdS s).2.1 = s1 at *
      have q3' : (s1.size : Int) < x := by omega
      clear hr0 h0 hr hx hni
      go_enter Try.func47, Try.ntmps47
      go_wp2_with (go_at_call 41; ((with_reducible refine HM.out.mono ?_); rintro e w1 ⟨rfl, h1, o1⟩; have H1 := Lib.hid h1; have d0 := h1.c0; have d1 := h1.c1; have hf1 : ∀ o, w1.frozen? ⟨b, o, none⟩ = false := h1.frozen; clear h1))
      go_ret
      exact ⟨rfl, (H1.out.setS s HH.out.sz).setE 10, o1.set1.set1⟩
    · rw [h0.1, h0.2.1, h0.2.2] at HM ⊢
      generalize xI s = x at *
      generalize tl s (rdS s).2.1 = s1 at *
      have q3' : x ≤ (s1.size : Int) := by omega
      clear h0 hr hx hni
      go_enter Try.func47, Try.ntmps47
      go_wp2_with (go_at_call 41; ((with_reducible refine HM.out.mono ?_); rintro e w1 ⟨rfl, h1, o1⟩; have H1 := Lib.hid h1; have d0 := h1.c0; have d1 := h1.c1; have hf1 : ∀ o, w1.frozen? ⟨b, o, none⟩ = false := h1.frozen; clear h1))
      go_ret
      exact ⟨rfl, H1.out, o1⟩
  · have h0 := num0_bad hk 0
    have ht := num0_bad hk (cC s most)
    rw [ht.1, ht.2.1, ht.2.2.1]
    rw [h0.1, h0.2.1] at HM
    have hne : (numE s e0 0 != 0) = true := by simpa using h0.2.2.2
    clear h0 ht hk
    generalize numE s e0 0 = e1 at *
    go_enter Try.func47, Try.ntmps47
    go_wp2_with (go_at_call 41; ((with_reducible refine HM.out.mono ?_); rintro e w1 ⟨rfl, h1, o1⟩; have H1 := Lib.hid h1; have d0 := h1.c0; have d1 := h1.c1; have hf1 : ∀ o, w1.frozen? ⟨b, o, none⟩ = false := h1.frozen; clear h1))
    go_ret
    exact ⟨rfl, H1.out, o1⟩
theorem tl_zero (s : ByteArray) : tl s 0 = s := by
  apply ba_eq; unfold tl; simp
set_option maxHeartbeats 1000000 in
theorem rtext_any {b : Nat} {s : ByteArray} {e0 : Int} {w : World} (h : RR w b s e0) (most : Int) (hm : I64 most) :
    Calls Try.prog 43 #[.pointer (some ⟨b, 0, none⟩), .int .i64 most] w (RTextPost b w (txV s e0 most) (txS s e0 most) (txE s e0 most)) := by
  have HN := Lib.hid (rcount_any h most hm)
  have hr := cnt_range (s := s) (e := e0) hm
  have hr1 := hr.1
  have hfit := cnt_fit (s := s) (e := e0) (most := most)
  have hS : txS s e0 most = tl (numS s e0 (cC s most)) (numV s e0 (cC s most)).toNat := by
    unfold txS
    split
    · rfl
    · rename_i he
      rw [numV_zero he]
      exact (tl_zero _).symm
  rw [hS]
  unfold txV txE
  clear h hm hr hS
  generalize numV s e0 (cC s most) = x at *
  generalize numS s e0 (cC s most) = s1 at *
  generalize numE s e0 (cC s most) = e1 at *
  obtain ⟨n, rfl⟩ := Int.eq_ofNat_of_zero_le hr1
  simp only [Int.toNat_natCast] at *
  go_enter Try.func43, Try.ntmps43
  go_wp2_with (go_at_call 47; ((with_reducible refine HN.out.mono ?_); rintro e w1 ⟨rfl, h1, o1⟩; have H1 := Lib.hid h1; have d0 := h1.c0; have d1 := h1.c1; have hsz := h1.sz; unfold maxLen at hsz; have hf1 : ∀ o, w1.frozen? ⟨b, o, none⟩ = false := h1.frozen; clear h1))
  go_ret
  exact ⟨rfl, H1.out.setS _ (Nat.le_trans (tl_size s1 _) H1.out.sz), o1.set1⟩
set_option maxHeartbeats 1000000 in
theorem rend_any {b : Nat} {s : ByteArray} {e0 : Int} {w : World} (h : RR w b s e0) : Calls Try.prog 50 #[.pointer (some ⟨b, 0, none⟩)] w (RIntPost b w (endE s e0) s (endE s e0)) := by
  have HH := Lib.hid h
  have c0 := h.c0
  have c1 := h.c1
  have hf : ∀ o, w.frozen? ⟨b, o, none⟩ = false := h.frozen
  clear h
  by_cases he : e0 = 0
  · subst he
    by_cases hs : s.size = 0
    · have := empty_of hs
      subst this
      have e1 : endE ⟨#[]⟩ 0 = 0 := by unfold endE; rw [if_neg (by simp [ByteArray.size])]
      rw [e1]
      clear hs e1
      go_enter Try.func50, Try.ntmps50
      go_wp2
      go_ret
      exact ⟨rfl, HH.out, Only.refl _ _⟩
    · have e1 : endE s 0 = 8 := by unfold endE; rw [if_pos ⟨rfl, hs⟩]
      rw [e1]
      have hne := ne_empty hs
      clear hs e1
      go_enter Try.func50, Try.ntmps50
      go_wp2
      go_ret
      exact ⟨rfl, HH.out.setE 8, (Only.refl _ _).set1⟩
  · have e1 : endE s e0 = e0 := by unfold endE; rw [if_neg (fun h => he h.1)]
    rw [e1]
    have he1 : (e0 == 0) = false := by simpa using he
    clear he e1
    go_enter Try.func50, Try.ntmps50
    go_wp2
    go_ret
    exact ⟨rfl, HH.out, Only.refl _ _⟩
end Go.Proofs.Ytppkfpphefonoaa
