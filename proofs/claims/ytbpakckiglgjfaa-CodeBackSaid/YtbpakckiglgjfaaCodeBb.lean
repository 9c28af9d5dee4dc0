
/- The law 'CodeBack' at every program and every bytes. No condition. -/
import Derived.Test.YtbpakckiglgjfaaCodeHa
import Derived.Test.YtbpakckiglgjfaaCodeLa
import Derived.Test.YtbpakckiglgjfaaCodeBa
import Derived.Test.YtbpakckiglgjfaaCodeXa
namespace Go.Proofs.Ytbpakckiglgjfaa
open Go.RowKit Cd Wire
set_option linter.unusedVariables false
structure BkW (W : World) (x : Value) (l : List FunV) (w : World) : Prop where
  t : Blk w W.heap.size 24 #[x]
  a : FunsAt w x l
  bel : Below W.heap.size W w
theorem BkW.step {W : World} {x : Value} {l : List FunV} {w w' : World} (h : BkW W x l w) (k : Below w.heap.size w w') : BkW W x l w' := ⟨h.t.below k, h.a.below k, h.bel.step k⟩
theorem BkW.alloc {W : World} {x : Value} {l : List FunV} {w : World} (h : BkW W x l w) (o : Obj) : BkW W x l (w.alloc o) := h.step ((Below.refl _ _).alloc (Nat.le_refl _) o)
theorem BkW.cell {W : World} {x : Value} {l : List FunV} {w : World} (h : BkW W x l w) : w.cell? ⟨W.heap.size, 0, none⟩ = some x := h.t.cell 0
theorem BkW.celln {W : World} {x : Value} {l : List FunV} {w : World} (h : BkW W x l w) (o : Obj) : (w.alloc o).cell? ⟨W.heap.size, 0, none⟩ = some x := (h.alloc o).cell
theorem mayB_lim {l : List FunV} (h : mayB l = true) : Lim l := by
  obtain ⟨h1, h2⟩ := mayB_of h
  exact ⟨by omega, fun f hf => by have := (funB_of (h2 f hf)).2.2.1; omega⟩
/-- What a formed program's bytes are read as, alone and with one more behind. -/
theorem enc_read {l : List FunV} (h : encC l = 0) (ho : OkP l) : dec (encV l) = (l, 0) ∧ (encV l).size ≤ 16384 ∧ dec (encV l ++ ⟨#[0]⟩) = if (encV l).size < 16384 then ([], 8) else ([], 4) := by
  unfold encC at h
  cases hm : mayB l with
  | false => rw [hm] at h; simp at h
  | true =>
    rw [hm] at h
    simp only [if_true] at h
    by_cases hs : 16384 < (progS l).size
    · rw [if_pos hs] at h; omega
    · have e : encV l = progS l := by unfold encV; rw [hm, if_pos rfl, if_neg hs]
      rw [e]
      refine ⟨dec_prog hm ho (by omega), by omega, ?_⟩
      by_cases h2 : (progS l).size < 16384
      · rw [if_pos h2, dec_app hm ho ⟨#[0]⟩ (by rw [ByteArray.size_append]; show _ + 1 ≤ _; omega), if_pos (by decide)]
      · rw [if_neg h2]
        unfold dec
        rw [if_pos (by rw [ByteArray.size_append]; show _ < _ + 1; omega)]
set_option maxRecDepth 100000 in
set_option maxHeartbeats 8000000 in
theorem cback_run {l : List FunV} {W : World} {x : Value} (hx : FunsAt W x l) (ol : OkP l) (s : ByteArray) :
    Calls Try.prog 7 #[.agg #[x], .string s] W fun e w' => e = .returned (.bool true) ∧ Below W.heap.size W w' := by
  have HT : Hid (BkW W x l (W.alloc (.cells #[x] 24))) := Lib.hid ⟨Blk.new _ _ _, hx.alloc _, (Below.refl _ W).alloc (Nat.le_refl _) _⟩
  obtain ⟨p1, c1, rfl⟩ := hx.slice
  clear hx
  have HHA := Lib.hid (fun w (h : FunsAt w (.slice p1 l.length c1) l) => heavy_any h)
  have OL := Lib.hid ol
  clear ol
  cases ha : heavyB l with
  | true =>
    rw [ha] at HHA
    clear ha
    generalize l.length = n1 at *
    as_aux_lemma =>
      go_enter Try.func7, Try.ntmps7
      go_wp2_with (first | (go_at_call 10; ((with_reducible refine (calive_any _).mono ?_); rintro e w9 ⟨rfl, b9⟩; (first | (have HB := Lib.hid (HB.out.step b9)) | (have HB := Lib.hid ((HB.out.alloc HB.out.size _).step b9)) | (have HT := Lib.hid (HT.out.step b9))))) | (go_at_call 9; ((with_reducible refine (HHA.out _ HT.out.a).mono ?_); rintro e w1 ⟨rfl, b1⟩; have HT := Lib.hid (HT.out.step b1); have x0 := HT.out.cell; clear b1)))
      go_ret
      exact ⟨rfl, HT.out.bel⟩
  | false =>
    rw [ha] at HHA
    have LA := Lib.hid (heavy_lim ha)
    clear ha
    by_cases hs : 4096 < s.size
    · have hs' : (4096 : Int) < (s.size : Int) := by omega
      clear hs
      generalize l.length = n1 at *
      as_aux_lemma =>
        go_enter Try.func7, Try.ntmps7
        go_wp2_with (first | (go_at_call 10; ((with_reducible refine (calive_any _).mono ?_); rintro e w9 ⟨rfl, b9⟩; (first | (have HB := Lib.hid (HB.out.step b9)) | (have HB := Lib.hid ((HB.out.alloc HB.out.size _).step b9)) | (have HT := Lib.hid (HT.out.step b9))))) | (go_at_call 9; ((with_reducible refine (HHA.out _ HT.out.a).mono ?_); rintro e w1 ⟨rfl, b1⟩; have HT := Lib.hid (HT.out.step b1); have x0 := HT.out.cell; clear b1)))
        go_ret
        exact ⟨rfl, HT.out.bel⟩
    · have hs' : (s.size : Int) ≤ 4096 := by omega
      clear hs
      have HEA := Lib.hid (fun w (h : FunsAt w (.slice p1 l.length c1) l) => enc_c h LA.out OL.out rfl rfl)
      by_cases hk : encC l = 0
      · obtain ⟨r1, r2, r3⟩ := enc_read hk OL.out
        rw [hk] at HEA
        clear hk
        have HD1 := Lib.hid (fun w => dec_c (W := w) r1)
        have HS := Lib.hid (fun w v (h : FunsAt w (.slice p1 l.length c1) l) (k : FunsAt w v l) => rsame_t h k LA.out)
        clear LA OL r1
        have hz : (((encV l).size : Nat) : Int) ≤ 16384 := by omega
        by_cases hz2 : (encV l).size < 16384
        · rw [if_pos hz2] at r3
          have HD2 := Lib.hid (fun w => dec_c (W := w) r3)
          clear r3 r2 hz2
          generalize encV l = s1 at *
          generalize l.length = n1 at *
          go_enter Try.func7, Try.ntmps7
          go_upto_if 28 with (first | (go_at_call 9; ((with_reducible refine (HHA.out _ HT.out.a).mono ?_); rintro e w1 ⟨rfl, b1⟩; have HT := Lib.hid (HT.out.step b1); have x0 := HT.out.cell; clear b1)) | (go_at_call 11; ((with_reducible refine (HEA.out _ HT.out.a).mono ?_); rintro e w3 ⟨rfl, b1⟩; have HT := Lib.hid (HT.out.step b1); have x0 := HT.out.cell; clear b1)))
          go_cut [] (fun wc => Below W.heap.size W wc)
          case first =>
            as_aux_lemma =>
            go_wp2_with (first | (go_at_call 15; (first | ((with_reducible refine (HD1.out _).mono ?_); rintro e w5 ⟨v5, rfl, hq, b1⟩; obtain ⟨p5, c5, rfl⟩ := hq.slice; have HT := Lib.hid (HT.out.step b1); have HQ := Lib.hid hq; clear b1 hq; generalize l.length = n5 at *) | ((with_reducible refine (HD2.out _).mono ?_); rintro e w6 ⟨v6, rfl, hq6, b1⟩; obtain ⟨p6, c6, rfl⟩ := hq6.slice; have HT := Lib.hid ((HT.out.alloc _).step b1); have HU := Lib.hid ((Blk.new w5 24 #[.slice p5 n5 c5]).below b1); have HQ := Lib.hid ((HQ.out.alloc _).below b1); have x1 := HT.out.celln; have u1 := (fun o => (HU.out.alloc o).cell 0); (try simp only [List.getElem?_toArray, List.getElem?_cons_zero] at u1); clear b1 hq6))) | (go_at_call 17; ((with_reducible refine (HS.out _ _ (HT.out.a.alloc _) (HQ.out.alloc _)).mono ?_); rintro e w7 ⟨rfl, b1⟩; have HT := Lib.hid ((HT.out.alloc _).step b1); clear b1)))
            all_goals go_meet
            all_goals exact HT.out.bel
          case rest =>
            clear HT HHA HEA HD1 HD2 HS hz x0
            have HB := Lib.hid hcut
            clear hcut
            rcases hd : dec s with ⟨m, c3⟩
            have HD3 := Lib.hid (fun w => dec_c (W := w) hd)
            by_cases h3 : c3 = 0
            · subst h3
              have hb := dec_back (s := s) (by rw [hd])
              rw [hd] at hb
              have HE3 := Lib.hid (fun w v (h : FunsAt w v m) => enc_c h (mayB_lim hb.1) hb.2.1 hb.2.2.2 hb.2.2.1)
              have HM3 := Lib.hid (fun w v (h : FunsAt w v m) => may_c h (mayB_lim hb.1) hb.2.1 hb.1)
              have hst := str_of (rfl : s = s)
              clear hb hd
              as_aux_lemma =>
              go_wp2_with (first | (go_at_call 10; ((with_reducible refine (calive_any _).mono ?_); rintro e w9 ⟨rfl, b9⟩; (first | (have HB := Lib.hid (HB.out.step b9)) | (have HB := Lib.hid ((HB.out.alloc HB.out.size _).step b9)) | (have HT := Lib.hid (HT.out.step b9))))) | (go_at_call 15; ((with_reducible refine (HD3.out _).mono ?_); rintro e w8 ⟨v8, rfl, hq, b1⟩; obtain ⟨p8, c8, rfl⟩ := hq.slice; have HB := Lib.hid (HB.out.step b1); have HQ := Lib.hid hq; clear b1 hq; generalize m.length = n8 at *)) | (go_at_call 11; ((with_reducible refine (HE3.out _ _ (HQ.out.alloc _)).mono ?_); rintro e w10 ⟨rfl, b1⟩; have HU := Lib.hid ((Blk.new w8 24 #[.slice p8 n8 c8]).below b1); have HQ := Lib.hid ((HQ.out.alloc _).below b1); have HB := Lib.hid ((HB.out.alloc HB.out.size _).step b1); have u0 := HU.out.cell 0; (try simp only [List.getElem?_toArray, List.getElem?_cons_zero] at u0); clear b1)) | (go_at_call 13; ((with_reducible refine (HM3.out _ _ HQ.out).mono ?_); rintro e w11 ⟨rfl, b1⟩; have HB := Lib.hid (HB.out.step b1); clear b1)))
              go_ret
              exact ⟨rfl, HB.out⟩
            · have h3' : (c3 == 0) = false := by simpa using h3
              clear h3 hd
              as_aux_lemma =>
              go_wp2_with (first | (go_at_call 10; ((with_reducible refine (calive_any _).mono ?_); rintro e w9 ⟨rfl, b9⟩; (first | (have HB := Lib.hid (HB.out.step b9)) | (have HB := Lib.hid ((HB.out.alloc HB.out.size _).step b9)) | (have HT := Lib.hid (HT.out.step b9))))) | (go_at_call 15; ((with_reducible refine (HD3.out _).mono ?_); rintro e w8 ⟨v8, rfl, hq, b1⟩; obtain ⟨p8, c8, rfl⟩ := hq.slice; have HB := Lib.hid (HB.out.step b1); have HQ := Lib.hid hq; clear b1 hq; generalize m.length = n8 at *)))
              go_ret
              exact ⟨rfl, HB.out⟩
        · rw [if_neg hz2] at r3
          have HD2 := Lib.hid (fun w => dec_c (W := w) r3)
          have hz3 : (16384 : Int) ≤ (((encV l).size : Nat) : Int) := by omega
          clear r3 r2 hz2
          generalize encV l = s1 at *
          generalize l.length = n1 at *
          go_enter Try.func7, Try.ntmps7
          go_upto_if 28 with (first | (go_at_call 9; ((with_reducible refine (HHA.out _ HT.out.a).mono ?_); rintro e w1 ⟨rfl, b1⟩; have HT := Lib.hid (HT.out.step b1); have x0 := HT.out.cell; clear b1)) | (go_at_call 11; ((with_reducible refine (HEA.out _ HT.out.a).mono ?_); rintro e w3 ⟨rfl, b1⟩; have HT := Lib.hid (HT.out.step b1); have x0 := HT.out.cell; clear b1)))
          go_cut [] (fun wc => Below W.heap.size W wc)
          case first =>
            as_aux_lemma =>
            go_wp2_with (first | (go_at_call 15; (first | ((with_reducible refine (HD1.out _).mono ?_); rintro e w5 ⟨v5, rfl, hq, b1⟩; obtain ⟨p5, c5, rfl⟩ := hq.slice; have HT := Lib.hid (HT.out.step b1); have HQ := Lib.hid hq; clear b1 hq; generalize l.length = n5 at *) | ((with_reducible refine (HD2.out _).mono ?_); rintro e w6 ⟨v6, rfl, hq6, b1⟩; obtain ⟨p6, c6, rfl⟩ := hq6.slice; have HT := Lib.hid ((HT.out.alloc _).step b1); have HU := Lib.hid ((Blk.new w5 24 #[.slice p5 n5 c5]).below b1); have HQ := Lib.hid ((HQ.out.alloc _).below b1); have x1 := HT.out.celln; have u1 := (fun o => (HU.out.alloc o).cell 0); (try simp only [List.getElem?_toArray, List.getElem?_cons_zero] at u1); clear b1 hq6))) | (go_at_call 17; ((with_reducible refine (HS.out _ _ (HT.out.a.alloc _) (HQ.out.alloc _)).mono ?_); rintro e w7 ⟨rfl, b1⟩; have HT := Lib.hid ((HT.out.alloc _).step b1); clear b1)))
            all_goals go_meet
            all_goals exact HT.out.bel
          case rest =>
            clear HT HHA HEA HD1 HD2 HS hz hz3 x0
            have HB := Lib.hid hcut
            clear hcut
            rcases hd : dec s with ⟨m, c3⟩
            have HD3 := Lib.hid (fun w => dec_c (W := w) hd)
            by_cases h3 : c3 = 0
            · subst h3
              have hb := dec_back (s := s) (by rw [hd])
              rw [hd] at hb
              have HE3 := Lib.hid (fun w v (h : FunsAt w v m) => enc_c h (mayB_lim hb.1) hb.2.1 hb.2.2.2 hb.2.2.1)
              have HM3 := Lib.hid (fun w v (h : FunsAt w v m) => may_c h (mayB_lim hb.1) hb.2.1 hb.1)
              have hst := str_of (rfl : s = s)
              clear hb hd
              as_aux_lemma =>
              go_wp2_with (first | (go_at_call 10; ((with_reducible refine (calive_any _).mono ?_); rintro e w9 ⟨rfl, b9⟩; (first | (have HB := Lib.hid (HB.out.step b9)) | (have HB := Lib.hid ((HB.out.alloc HB.out.size _).step b9)) | (have HT := Lib.hid (HT.out.step b9))))) | (go_at_call 15; ((with_reducible refine (HD3.out _).mono ?_); rintro e w8 ⟨v8, rfl, hq, b1⟩; obtain ⟨p8, c8, rfl⟩ := hq.slice; have HB := Lib.hid (HB.out.step b1); have HQ := Lib.hid hq; clear b1 hq; generalize m.length = n8 at *)) | (go_at_call 11; ((with_reducible refine (HE3.out _ _ (HQ.out.alloc _)).mono ?_); rintro e w10 ⟨rfl, b1⟩; have HU := Lib.hid ((Blk.new w8 24 #[.slice p8 n8 c8]).below b1); have HQ := Lib.hid ((HQ.out.alloc _).below b1); have HB := Lib.hid ((HB.out.alloc HB.out.size _).step b1); have u0 := HU.out.cell 0; (try simp only [List.getElem?_toArray, List.getElem?_cons_zero] at u0); clear b1)) | (go_at_call 13; ((with_reducible refine (HM3.out _ _ HQ.out).mono ?_); rintro e w11 ⟨rfl, b1⟩; have HB := Lib.hid (HB.out.step b1); clear b1)))
              go_ret
              exact ⟨rfl, HB.out⟩
            · have h3' : (c3 == 0) = false := by simpa using h3
              clear h3 hd
              as_aux_lemma =>
              go_wp2_with (first | (go_at_call 10; ((with_reducible refine (calive_any _).mono ?_); rintro e w9 ⟨rfl, b9⟩; (first | (have HB := Lib.hid (HB.out.step b9)) | (have HB := Lib.hid ((HB.out.alloc HB.out.size _).step b9)) | (have HT := Lib.hid (HT.out.step b9))))) | (go_at_call 15; ((with_reducible refine (HD3.out _).mono ?_); rintro e w8 ⟨v8, rfl, hq, b1⟩; obtain ⟨p8, c8, rfl⟩ := hq.slice; have HB := Lib.hid (HB.out.step b1); have HQ := Lib.hid hq; clear b1 hq; generalize m.length = n8 at *)))
              go_ret
              exact ⟨rfl, HB.out⟩
      · have hk' : (encC l == 0) = false := by simpa using hk
        clear hk LA OL
        generalize encV l = s1 at *
        generalize encC l = k1 at *
        generalize l.length = n1 at *
        go_enter Try.func7, Try.ntmps7
        go_upto_if 28 with (first | (go_at_call 9; ((with_reducible refine (HHA.out _ HT.out.a).mono ?_); rintro e w1 ⟨rfl, b1⟩; have HT := Lib.hid (HT.out.step b1); have x0 := HT.out.cell; clear b1)) | (go_at_call 11; ((with_reducible refine (HEA.out _ HT.out.a).mono ?_); rintro e w3 ⟨rfl, b1⟩; have HT := Lib.hid (HT.out.step b1); have x0 := HT.out.cell; clear b1)))
        go_cut [] (fun wc => Below W.heap.size W wc)
        case first =>
          as_aux_lemma =>
          go_wp2_with fail
          all_goals go_meet
          all_goals exact HT.out.bel
        case rest =>
          clear HT HHA HEA hk' x0
          have HB := Lib.hid hcut
          clear hcut
          rcases hd : dec s with ⟨m, c3⟩
          have HD3 := Lib.hid (fun w => dec_c (W := w) hd)
          by_cases h3 : c3 = 0
          · subst h3
            have hb := dec_back (s := s) (by rw [hd])
            rw [hd] at hb
            have HE3 := Lib.hid (fun w v (h : FunsAt w v m) => enc_c h (mayB_lim hb.1) hb.2.1 hb.2.2.2 hb.2.2.1)
            have HM3 := Lib.hid (fun w v (h : FunsAt w v m) => may_c h (mayB_lim hb.1) hb.2.1 hb.1)
            have hst := str_of (rfl : s = s)
            clear hb hd
            as_aux_lemma =>
            go_wp2_with (first | (go_at_call 10; ((with_reducible refine (calive_any _).mono ?_); rintro e w9 ⟨rfl, b9⟩; (first | (have HB := Lib.hid (HB.out.step b9)) | (have HB := Lib.hid ((HB.out.alloc HB.out.size _).step b9)) | (have HT := Lib.hid (HT.out.step b9))))) | (go_at_call 15; ((with_reducible refine (HD3.out _).mono ?_); rintro e w8 ⟨v8, rfl, hq, b1⟩; obtain ⟨p8, c8, rfl⟩ := hq.slice; have HB := Lib.hid (HB.out.step b1); have HQ := Lib.hid hq; clear b1 hq; generalize m.length = n8 at *)) | (go_at_call 11; ((with_reducible refine (HE3.out _ _ (HQ.out.alloc _)).mono ?_); rintro e w10 ⟨rfl, b1⟩; have HU := Lib.hid ((Blk.new w8 24 #[.slice p8 n8 c8]).below b1); have HQ := Lib.hid ((HQ.out.alloc _).below b1); have HB := Lib.hid ((HB.out.alloc HB.out.size _).step b1); have u0 := HU.out.cell 0; (try simp only [List.getElem?_toArray, List.getElem?_cons_zero] at u0); clear b1)) | (go_at_call 13; ((with_reducible refine (HM3.out _ _ HQ.out).mono ?_); rintro e w11 ⟨rfl, b1⟩; have HB := Lib.hid (HB.out.step b1); clear b1)))
            go_ret
            exact ⟨rfl, HB.out⟩
          · have h3' : (c3 == 0) = false := by simpa using h3
            clear h3 hd
            as_aux_lemma =>
            go_wp2_with (first | (go_at_call 10; ((with_reducible refine (calive_any _).mono ?_); rintro e w9 ⟨rfl, b9⟩; (first | (have HB := Lib.hid (HB.out.step b9)) | (have HB := Lib.hid ((HB.out.alloc HB.out.size _).step b9)) | (have HT := Lib.hid (HT.out.step b9))))) | (go_at_call 15; ((with_reducible refine (HD3.out _).mono ?_); rintro e w8 ⟨v8, rfl, hq, b1⟩; obtain ⟨p8, c8, rfl⟩ := hq.slice; have HB := Lib.hid (HB.out.step b1); have HQ := Lib.hid hq; clear b1 hq; generalize m.length = n8 at *)))
            go_ret
            exact ⟨rfl, HB.out⟩
set_option maxRecDepth 100000 in
theorem cback_open {H : Type} {enc : TypeId × Value → H} {W : World} {base : Nat} {held : Bool} {r : Reach} {b0 : Nat} {d1 : DataW H} {ps1 : List MemPlace} {x : Value} {Q : Prop} (s : ByteArray)
    (hval1 : Value.okWide Try.prog W r b0 24 x) (hd1 : DataW.Trod enc Try.prog W base (fun _ => true) held 24 x d1 ps1) (_ : ∀ x ∈ ps1, x.block < W.heap.size) (_ : Q) :
    Calls Try.prog 7 #[x, .string s] W fun e w' => e = .returned (.bool true) ∧ Below W.heap.size W w' := by
  obtain ⟨u, l, rfl, hv, ho⟩ := open_prog hval1 hd1
  exact cback_run hv ho s
end Go.Proofs.Ytbpakckiglgjfaa
