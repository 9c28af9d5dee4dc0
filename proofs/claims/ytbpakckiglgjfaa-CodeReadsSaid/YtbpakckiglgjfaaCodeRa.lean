
/- The law 'CodeReads' at every bytes. No condition. -/
import Derived.Test.YtbpakckiglgjfaaCodeLa
import Derived.Test.YtbpakckiglgjfaaCodeBa
import Derived.Test.YtbpakckiglgjfaaCodeFa
namespace Go.Proofs.Ytbpakckiglgjfaa
open Go.RowKit Cd Wire
set_option linter.unusedVariables false
theorem mayB_lim {l : List FunV} (h : mayB l = true) : Lim l := by
  obtain ⟨h1, h2⟩ := mayB_of h
  exact ⟨by omega, fun f hf => by have := (funB_of (h2 f hf)).2.2.1; omega⟩
theorem dec_nil (s : ByteArray) : (dec s).1 = [] ∨ (dec s).2 = 0 := by
  unfold dec
  split
  · exact .inl rfl
  · split
    · exact .inl rfl
    · split
      · exact .inl rfl
      · cases funL (cV 16 (uS 18446744073709551615 ⟨s, 0⟩)).toNat [] (cS 16 (uS 18446744073709551615 ⟨s, 0⟩)) with
        | none => exact .inl rfl
        | some x =>
          obtain ⟨fs, r⟩ := x
          show (if endE r.s r.e ≠ 0 then (([] : List FunV), (8 : Int)) else (fs, 0)).1 = [] ∨ (if endE r.s r.e ≠ 0 then (([] : List FunV), (8 : Int)) else (fs, 0)).2 = 0
          split
          · exact .inl rfl
          · exact .inr rfl
theorem dec_lim (s : ByteArray) : Lim (dec s).1 := by
  rcases dec_nil s with h | h
  · rw [h]; exact ⟨by decide, fun f hf => by simp at hf⟩
  · exact mayB_lim (dec_back h).1
theorem rdec_c {s : ByteArray} {W : World} {l : List FunV} {c : Int} (h : dec s = (l, c)) : Calls Try.prog 16 #[.string s] W fun e w' => ∃ v, e = .returned (.tuple #[.agg #[v], .int .i64 c]) ∧ FunsAt w' v l ∧ Below W.heap.size W w' :=
  (rdecode_any s W).mono fun e w' ⟨v, l', c', h1, h2, h3, h4, h5⟩ => ⟨v, by rw [h1, h3, rdec_eq, h], by rw [h2, rdec_eq, h] at h4; exact h4, h5⟩
set_option maxRecDepth 100000 in
set_option maxHeartbeats 8000000 in
theorem creads_run {Q : Prop} (s : ByteArray) (_ : Q) (W : World) : Calls Try.prog 4 #[.string s] W fun e w' => e = .returned (.bool true) ∧ Below W.heap.size W w' := by
  by_cases hs : 4096 < s.size
  · have hs' : (4096 : Int) < (s.size : Int) := by omega
    clear hs
    as_aux_lemma =>
    go_enter Try.func4, Try.ntmps4
    go_wp2_with (go_at_call 10; ((with_reducible refine (calive_any _).mono ?_); rintro e w9 ⟨rfl, b9⟩))
    go_ret
    exact ⟨rfl, b9⟩
  · have hs' : (s.size : Int) ≤ 4096 := by omega
    clear hs
    have LA := Lib.hid (dec_lim s)
    rcases hd : dec s with ⟨l, c⟩
    rw [hd] at LA
    have HD1 := Lib.hid (fun w => dec_c (W := w) hd)
    have HD2 := Lib.hid (fun w => rdec_c (W := w) hd)
    have HS := Lib.hid (fun w v u (h : FunsAt w v l) (k : FunsAt w u l) => rsame_t h k LA.out)
    clear hd LA
    as_aux_lemma =>
    go_enter Try.func4, Try.ntmps4
    go_wp2_with (first | (go_at_call 10; ((with_reducible refine (calive_any _).mono ?_); rintro e w9 ⟨rfl, b9⟩)) | (go_at_call 15; ((with_reducible refine (HD1.out _).mono ?_); rintro e w1 ⟨v1, rfl, hq, b1⟩; obtain ⟨p1, c1, rfl⟩ := hq.slice; have HB := Lib.hid b1; have HQ := Lib.hid hq; clear b1 hq)) | (go_at_call 16; ((with_reducible refine (HD2.out _).mono ?_); rintro e w2 ⟨v2, rfl, hq, b2⟩; obtain ⟨p2, c2, rfl⟩ := hq.slice; have HB := Lib.hid ((HB.out.alloc HB.out.size _).step b2); have HU := Lib.hid ((Blk.new w1 24 #[.slice p1 l.length c1]).below b2); have HQ := Lib.hid ((HQ.out.alloc _).below b2); have HQ2 := Lib.hid hq; have u1 := (fun o => (HU.out.alloc o).cell 0); (try simp only [List.getElem?_toArray, List.getElem?_cons_zero] at u1); clear b2 hq)) | (go_at_call 17; ((with_reducible refine (HS.out _ _ _ (HQ.out.alloc _) (HQ2.out.alloc _)).mono ?_); rintro e w7 ⟨rfl, b1⟩; have HB := Lib.hid ((HB.out.alloc HB.out.size _).step b1); clear b1)))
    go_ret
    exact ⟨rfl, HB.out.step b9⟩
end Go.Proofs.Ytbpakckiglgjfaa
