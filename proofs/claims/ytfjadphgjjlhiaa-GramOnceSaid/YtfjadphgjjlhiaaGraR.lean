
/- The walk of the document's net's Send. No condition but that the rows are not too long. -/
import Derived.Test.YtfjadphgjjlhiaaGraQ
namespace Go.Proofs.Ytfjadphgjjlhiaa
open Go.RowKit Go.Maps Gr Sok
set_option linter.unusedVariables false
set_option linter.unusedSimpArgs false
/-- The document's net's block turns, and rows of its kinds. -/
def OnR (B r : Nat) (w w' : World) : Prop := Only (fun k => k = r ∨ (B ≤ k ∧ ∃ cur T, w.heap[k]? = some (.cells cur T (0, 0)) ∧ (T = 33 ∨ T = 59))) w w'
section
variable {w w' w1 w2 : World} {B r : Nat} {vL vC : Value} {last : Int} {L : List G} {Cs : List (Int × Int)}
theorem OnR.refl (B r : Nat) (w : World) : OnR B r w w := Only.refl _ _
theorem OnR.trans (h1 : OnR B r w w1) (h2 : OnR B r w1 w2) : OnR B r w w2 := by
  refine ⟨h2.os.trans h1.os, h2.tape.trans h1.tape, h2.output.trans h1.output, Nat.le_trans h1.size h2.size, fun k hk hS => ?_⟩
  have e1 := h1.block k hk hS
  rw [h2.block k (Nat.lt_of_lt_of_le hk h1.size) ?_, e1]
  rintro (h | ⟨hb, cur, T, hc, hT⟩)
  · exact hS (.inl h)
  · exact hS (.inr ⟨hb, cur, T, by rw [← e1]; exact hc, hT⟩)
theorem OnR.of_r (h : Only (· = r) w w') : OnR B r w w' := h.mono fun k _ e => .inl e
theorem OnR.of_below (h : Below w.heap.size w w') : OnR B r w w' := Only.of_below h
theorem OnR.below (h : OnR B r w w') {B0 : Nat} (h0 : B0 ≤ w.heap.size) (h1 : B0 ≤ B) (h2 : B0 ≤ r) : Below B0 w w' := Only.below h h0 fun k hk => by
  rcases hk with h | ⟨h, _⟩ <;> omega
theorem RW.setLast (h : RW w B r vL vC last L Cs) (x : Int) : RW (w.setCell ⟨r, 0, none⟩ (.int .u64 x)) B r vL vC x L Cs := by
  have o := (Only.refl (· = r) w).set1 (o := 0) (v := .int .u64 x)
  exact ⟨h.blk.set 0 _, owns_only h.row o (owns_ne h.row h.blk (by decide)), owns_only h.cuts o (owns_ne h.cuts h.blk (by decide)), h.ge⟩
theorem OnR.undrew (h : OnR B r w.drew w') : OnR B r w w' := ⟨h.os, h.tape, h.output, h.size, h.block⟩
theorem RW.drew (h : RW w B r vL vC last L Cs) : RW w.drew B r vL vC last L Cs := ⟨h.blk, h.row, h.cuts, h.ge⟩
/-- A message more. -/
theorem RW.app (h : RW w B r vL vC last L Cs) {g : G} {v5 : Value} (h5 : w1.ownsRow B 33 4 v5 (L.length + 1) (rowsG L ++ gcells g)) (o5 : Only (fun k => vL.ownBlock = some k) w w1) :
    Blk w1 r 45 #[.int .u64 last, vL, vC] ∧ RW (w1.setCell ⟨r, 1, none⟩ v5) B r v5 vC last (L ++ [g]) Cs ∧ OnR B r w (w1.setCell ⟨r, 1, none⟩ v5) := by
  have hr : ¬ vL.ownBlock = some r := fun e => owns_ne h.row h.blk (by decide) r e rfl
  have b1 := h.blk.only o5 hr
  have c1 : w1.ownsRow B 59 2 vC Cs.length (rowsC Cs) := owns_only h.cuts o5 fun k hk hs => by
    obtain ⟨cur, e1, _⟩ := owns_type h.cuts hk
    obtain ⟨cur2, e2, _⟩ := owns_type h.row hs
    rw [e1] at e2
    injection e2 with e2
    injection e2 with _ e2
    revert e2; decide
  have oS := (Only.refl (· = r) w1).set1 (o := 1) (v := v5)
  refine ⟨b1, ⟨b1.set 1 _, ?_, owns_only c1 oS (owns_ne c1 b1 (by decide)), h.ge⟩, ?_⟩
  · have e : rowsG (L ++ [g]) = rowsG L ++ gcells g := by unfold rowsG; rw [List.flatMap_append]; simp
    rw [e, List.length_append]
    exact owns_only h5 oS (owns_ne h5 b1 (by decide))
  · refine OnR.trans (w1 := w1) (o5.mono fun k _ hk => ?_) (OnR.of_r oS)
    obtain ⟨cur, e1, hb, _⟩ := owns_type h.row hk
    exact .inr ⟨hb, cur, _, e1, .inl rfl⟩
def RsR1 (m : Nat) (tos : List Int) (w : World) (u : Value) (wr : World) : Prop := ∃ i : Nat, u = .int .i64 i ∧ i ≤ m ∧ (tos.take i).any bad = false ∧ wr = w
def RsR2 (w : World) (B r m : Nat) (vC : Value) (last fr : Int) (tx : ByteArray) (tos : List Int) (L : List G) (Cs : List (Int × Int)) (u : Value) (wr : World) : Prop :=
  ∃ (i : Nat) (vL : Value), u = .int .i64 i ∧ i ≤ m ∧ RW wr B r vL vC (last + i) (L ++ laid last fr tx tos i) Cs ∧ OnR B r w wr
/-- What the document's Send leaves. -/
def RsP (w : World) (B r : Nat) (vL vC : Value) (last fr : Int) (tx : ByteArray) (tos : List Int) (L : List G) (Cs : List (Int × Int)) (k : Int) (e : Ending) (w' : World) : Prop :=
  e = .returned (.tuple #[.int .i64 (if k = 0 then (tos.length : Int) else 0), .int .i64 k]) ∧ (k ≠ 0 → w' = w) ∧ (k = 0 → ∃ vL', RW w' B r vL' vC (last + tos.length) (L ++ laid last fr tx tos tos.length) Cs ∧ OnR B r w w')
set_option maxRecDepth 100000 in
set_option maxHeartbeats 2000000 in
theorem rsend_any (h : RW w B r vL vC last L Cs) (hL : L.length ≤ 4096) {fr : Int} {tx : ByteArray} {p : Option Addr} {m cap : Nat} {tos : List Int} (ht : Pl w p tos) (hm : tos.length = m) (hmx : m ≤ 100000)
    (hlt : tos ≠ [] → ∀ g o, p = some ⟨g, o, none⟩ → g < w.heap.size ∧ g < B) (h0 : 0 ≤ last) (hl : last + m ≤ 4611686018427387904) {k : Int} (hk : sc ((fr :: tos).any bad) tx.size m L.length = k) :
    Calls Try.prog 15 #[.pointer (some ⟨r, 0, none⟩), .int .i64 fr, .string tx, .slice p m cap] w (RsP w B r vL vC last fr tx tos L Cs k) := by
  have HR := Lib.hid h
  have HT := Lib.hid ht
  have HM := Lib.hid (And.intro hm hmx)
  have HL := Lib.hid (And.intro hL (And.intro h0 hl))
  have HLT := Lib.hid hlt
  have HK := Lib.hid hk
  clear h ht hm hmx hL h0 hl hlt hk
  go_enter Try.func15, Try.ntmps15
  go_upto_block 0 with fail
  go_cut [10] (fun u wc => tos.any bad = false ∧ wc = w)
  case first =>
    go_wp2_with fail
    go_loopw [10] (fun u wr => RsR1 m tos w u wr) (fun u _ => ((m : Int) - intOf u).toNat)
    case atStart => exact ⟨0, rfl, Nat.zero_le _, rfl, rfl⟩
    case round =>
      obtain ⟨i, rfl, hi, hnone, rfl⟩ := hrel
      have HI := Lib.hid (And.intro hi hnone)
      clear hi hnone
      by_cases him : i < m
      · have him' : (i : Int) < (m : Int) := by omega
        have hi0 : (0 : Int) ≤ (i : Int) := by omega
        have hil : i < tos.length := by have := HM.out; omega
        obtain ⟨g, o, rfl, hc⟩ : ∃ g o, p = some ⟨g, o, none⟩ ∧ ∀ i, i < tos.length → wr.cell? ⟨g, o + i, none⟩ = some (.int .i64 tos[i]!) := by
          rcases HT.out with h0 | h1
          · rw [h0] at hil; simp at hil
          · exact h1
        have x0 := hc i hil
        have HLN := Lib.hid (And.intro him hil)
        have HTK : Hid ((tos.take (i + 1)).any bad = bad tos[i]!) := Lib.hid (by rw [List.take_succ_eq_append_getElem hil, List.any_append, HI.out.2, getElem!_pos tos i hil]; simp)
        have HMEM : Hid (bad tos[i]! = true → (fr :: tos).any bad = true) := Lib.hid fun hb => by
          rw [List.any_cons, Bool.or_eq_true]; right
          rw [List.any_eq_true]
          exact ⟨tos[i]!, by rw [getElem!_pos tos i hil]; exact List.getElem_mem _, hb⟩
        have HPL := Lib.hid (place_any tos[i]! wr)
        have HE : Hid (wrap64 ((i : Int) + 1) = ((i + 1 : Nat) : Int)) := Lib.hid (Sou.w64n rfl (by have := HM.out; omega))
        clear hc him hil
        generalize tos[i]! = t at *
        cases hb : bad t with
        | true =>
          have HK2 : Hid (k = 2) := Lib.hid (by rw [← HK.out, HMEM.out hb]; rfl)
          rw [hb] at HPL
          clear hb HMEM HTK
          go_wp2_with (go_at_call 32; ((with_reducible refine HPL.out.mono ?_); rintro e w5 ⟨rfl, rfl⟩))
          go_ret2
          have := HK2.out
          subst this
          exact ⟨rfl, fun _ => rfl, fun h => absurd h (by decide)⟩
        | false =>
          have HT2 : Hid ((tos.take (i + 1)).any bad = false) := Lib.hid (by rw [HTK.out, hb])
          rw [hb] at HPL
          clear hb HMEM HTK
          go_wp2_with (go_at_call 32; ((with_reducible refine HPL.out.mono ?_); rintro e w5 ⟨rfl, rfl⟩))
          have HZ : Hid (RsR1 m tos w5 (.int .i64 ((i + 1 : Nat) : Int)) w5) := Lib.hid ⟨i + 1, rfl, HLN.out.1, HT2.out, rfl⟩
          go_roundw
          case rel => rw [HE.out]; exact HZ.out
          case measure => have := HLN.out; rw [HE.out]; simp [intOf]; omega
      · have him' : ¬ (i : Int) < (m : Int) := by omega
        have HX : Hid (tos.any bad = false) := Lib.hid (by have := HI.out.2; rwa [List.take_of_length_le (by have := HM.out; omega)] at this)
        clear him
        go_wp2_with fail
        go_meet
        exact ⟨HX.out, rfl⟩
  case rest =>
    obtain ⟨hnb, rfl⟩ := hcut
    have HNB := Lib.hid hnb
    clear hnb
    have HPF := Lib.hid (place_any fr wc)
    cases hbf : bad fr with
    | true =>
      have HK2 : Hid (k = 2) := Lib.hid (by rw [← HK.out, List.any_cons, hbf]; rfl)
      rw [hbf] at HPF
      clear hbf
      go_wp2_with (go_at_call 32; ((with_reducible refine HPF.out.mono ?_); rintro e w5 ⟨rfl, rfl⟩))
      go_ret2
      have := HK2.out
      subst this
      exact ⟨rfl, fun _ => rfl, fun h => absurd h (by decide)⟩
    | false =>
      rw [hbf] at HPF
      have HKB : Hid (sc false tx.size m L.length = k) := Lib.hid (by rw [← HK.out, List.any_cons, hbf, HNB.out]; rfl)
      clear hbf
      have c1 := HR.out.c1
      obtain ⟨⟨pL, cL, rfl⟩, ⟨pC, cC, rfl⟩⟩ := HR.out.slices
      by_cases hsz : 16384 < tx.size
      · have hsz' : (16384 : Int) < (tx.size : Int) := by omega
        have HK2 : Hid (k = 4) := Lib.hid (by rw [← HKB.out]; unfold sc; simp [hsz])
        clear hsz
        go_wp2_with (go_at_call 32; ((with_reducible refine HPF.out.mono ?_); rintro e w5 ⟨rfl, rfl⟩))
        go_ret2
        have := HK2.out
        subst this
        exact ⟨rfl, fun _ => rfl, fun h => absurd h (by decide)⟩
      · have hsz' : ¬ (16384 : Int) < (tx.size : Int) := by omega
        have es : IntKind.i64.wrap (4096 - (L.length : Int)) = 4096 - (L.length : Int) := by have := HL.out; rw [IntKind.wrap_i64]; omega
        by_cases hfull : 4096 < m + L.length
        · have hfull' : (4096 : Int) - (L.length : Int) < (m : Int) := by omega
          have HK2 : Hid (k = 6) := Lib.hid (by rw [← HKB.out]; unfold sc; simp [hsz, hfull])
          clear hsz hfull
          go_wp2_with (go_at_call 32; ((with_reducible refine HPF.out.mono ?_); rintro e w5 ⟨rfl, rfl⟩))
          go_ret2
          have := HK2.out
          subst this
          exact ⟨rfl, fun _ => rfl, fun h => absurd h (by decide)⟩
        · have hfull' : ¬ (4096 : Int) - (L.length : Int) < (m : Int) := by omega
          have HK2 : Hid (k = 0) := Lib.hid (by rw [← HKB.out]; unfold sc; simp [hsz, hfull])
          have HF := Lib.hid hfull
          clear hsz hfull
          go_upto_region 12 with (go_at_call 32; ((with_reducible refine HPF.out.mono ?_); rintro e w5 ⟨rfl, rfl⟩))
          have HZ0 : Hid (RsR2 w5 B r m (.slice pC Cs.length cC) last fr tx tos L Cs (.int .i64 0) w5) := Lib.hid ⟨0, _, rfl, Nat.zero_le _, by simpa [laid] using HR.out, OnR.refl _ _ _⟩
          clear hsz' hfull' es c1 HPF HKB HNB
          go_wp2_with fail
          go_loopw [11] (fun u wr => RsR2 w5 B r m (.slice pC Cs.length cC) last fr tx tos L Cs u wr) (fun u _ => ((m : Int) - intOf u).toNat)
          case atStart => exact HZ0.out
          case round =>
            clear HZ0
            obtain ⟨i, vL, rfl, hi, hn, ho⟩ := hrel
            have HN := Lib.hid hn
            have HO := Lib.hid ho
            have HI := Lib.hid hi
            clear hi hn ho
            by_cases him : i < m
            · have him' : (i : Int) < (m : Int) := by omega
              have hi0 : (0 : Int) ≤ (i : Int) := by omega
              have hil : i < tos.length := by have := HM.out; omega
              obtain ⟨g, o, rfl, hc⟩ : ∃ g o, p = some ⟨g, o, none⟩ ∧ ∀ i, i < tos.length → w5.cell? ⟨g, o + i, none⟩ = some (.int .i64 tos[i]!) := by
                rcases HT.out with h0 | h1
                · rw [h0] at hil; simp at hil
                · exact h1
              have hgl := HLT.out (by intro e; rw [e] at hil; simp at hil) g o rfl
              have x0 : wr.cell? ⟨g, o + i, none⟩ = some (.int .i64 tos[i]!) := by
                have hge := HR.out.ge
                rw [← hc i hil]
                refine World.cell?_of_block (HO.out.block g hgl.1 ?_)
                rintro (e | ⟨e, _⟩) <;> omega
              have hgr : ¬ g = r := by have := HR.out.ge; omega
              have hrs : r < wr.heap.size := HN.out.blk.lt
              have HLS := Lib.hid (laid_succ last fr tx tos i)
              have HLN := Lib.hid him
              have HE : Hid (wrap64 ((i : Int) + 1) = ((i + 1 : Nat) : Int)) := Lib.hid (Sou.w64n rfl (by have := HM.out; omega))
              clear hc him hil hgl
              generalize tos[i]! = t at *
              have c0 := HN.out.c0
              have f0 := HN.out.blk.frozen 0
              have eu : IntKind.u64.wrap (last + i + 1) = last + i + 1 := by have := HL.out; have := HLN.out; rw [IntKind.wrap_u64]; omega
              have HN2 := Lib.hid (HN.out.setLast (last + i + 1))
              have HO2 : Hid (OnR B r wr (wr.setCell ⟨r, 0, none⟩ (.int .u64 (last + i + 1)))) := Lib.hid (OnR.of_r ((Only.refl (· = r) wr).set1))
              have HLEN : Hid ((L ++ laid last fr tx tos i).length < 2147483648) := Lib.hid (by rw [List.length_append]; unfold laid; simp; have := HL.out; have := HM.out; have := HLN.out; omega)
              go_upto_region 16 with fail
              have x1 : (wr.setCell ⟨r, 0, none⟩ (.int .u64 (last + i + 1))).cell? ⟨g, o + i, none⟩ = some (.int .i64 t) := by
                rw [← x0]; exact World.cell?_of_block (Below.heap_setCell _ _ _ _ hgr)
              clear x0 eu c0 f0 hrs
              generalize wr.setCell ⟨r, 0, none⟩ (.int .u64 (last + i + 1)) = X at *
              have HFIN : Hid (∀ vL' wz, RW wz B r vL' (.slice pC Cs.length cC) (last + i + 1) (L ++ laid last fr tx tos i ++ [⟨last + i + 1, fr, t, tx⟩]) Cs → OnR B r X.drew wz → RsR2 w5 B r m (.slice pC Cs.length cC) last fr tx tos L Cs (.int .i64 ((i + 1 : Nat) : Int)) wz) := Lib.hid fun vL' wz hR hO => ⟨i + 1, vL', rfl, HLN.out, by
                rw [HLS.out, ← List.append_assoc, show last + ((i + 1 : Nat) : Int) = last + i + 1 by omega]; exact hR, HO.out.trans (HO2.out.trans (OnR.undrew hO))⟩
              clear HN HLS HO HO2
              generalize L ++ laid last fr tx tos i = LL at *
              generalize last + (i : Int) + 1 = qq at *
              have c0 := HN2.out.c0
              have c1 := HN2.out.c1
              obtain ⟨⟨pv, cv, rfl⟩, _⟩ := HN2.out.slices
              have HN3 := Lib.hid HN2.out.drew
              have c1n : ∀ o, (X.alloc o).cell? ⟨r, 1, none⟩ = some (.slice pv LL.length cv) := fun o => (HN2.out.alloc o).c1
              go_region_law (refine step_append_row2 (ys := gcells ⟨qq, fr, t, tx⟩) (by rfl) (by rfl) (by rfl) (by rfl) Try.underlying36 info_gram rfl rfl rfl (by decide) (by decide) HN3.out.row HLEN.out (by have := HN3.out.ge; have := HN3.out.blk.lt; omega) (by first | rfl | simp) ?_; intro v5 w6 h6 o6; obtain ⟨p6, c6, rfl⟩ := owns_slice h6; obtain ⟨b6, hr6, on6⟩ := HN3.out.app h6 o6; have HR6 := Lib.hid hr6; have HON6 := Lib.hid on6; have d1 : w6.cell? ⟨r, 1, none⟩ = some (.slice pv LL.length cv) := (by rw [b6.cell 1]; rfl); have f1 := b6.frozen 1; clear h6 o6 b6 hr6 on6)
              all_goals (go_wp2_with fail; go_roundw)
              all_goals first
                | (case rel => first | exact HFIN.out _ _ HR6.out HON6.out | (rw [HE.out]; exact HFIN.out _ _ HR6.out HON6.out))
                | (case measure => have := HLN.out; first | (simp [intOf]; omega) | (rw [HE.out]; simp [intOf]; omega))
                | skip
            · have him' : ¬ (i : Int) < (m : Int) := by omega
              obtain rfl : i = m := by have := HI.out; omega
              clear him
              go_wp2_with fail
              go_ret2
              have := HK2.out
              subst this
              have hmm := HM.out.1
              exact ⟨by rw [if_pos rfl, hmm]; rfl, fun h => absurd rfl h, fun _ => ⟨_, by rw [hmm]; exact HN.out, HO.out⟩⟩
end
end Go.Proofs.Ytfjadphgjjlhiaa
