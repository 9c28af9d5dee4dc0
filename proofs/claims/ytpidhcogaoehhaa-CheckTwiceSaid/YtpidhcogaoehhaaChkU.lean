import Derived.Test.YtpidhcogaoehhaaChkQ
import Derived.Test.YtpidhcogaoehhaaMgk
import Derived.Sort.OwnSorted

/- The walk of the program's 'Reaches'. No condition but that rows are not too long and numbers fit their kinds. -/
namespace Go.Proofs.Ytpidhcogaoehhaa
open Go.RowKit Cd Go.Maps
set_option linter.unusedVariables false
set_option linter.unusedSimpArgs false
theorem cnt_rep (n : Nat) : cnt (List.replicate n false) = 0 := by unfold cnt; rw [List.filter_replicate]; rfl
/-- The keys that have come, in the call's own row. -/
def RgRel (W : World) (Mb r n : Nat) (D : DR) (lv : Value) (wr : World) : Prop :=
  ∃ (left : Lit → Bool) (cn : Nat) (g : List Int), wr.ranges Try.prog 3 (plainElem Try.prog 3) Mb r n D left cn ∧ Gath D left g ∧ wr.ownsRow W.heap.size 3 1 lv g.length (g.map (Value.int .i64)) ∧ Below W.heap.size W wr
theorem row_ne_map {w : World} {B size n b N : Nat} {e k : TypeId} {v : Value} {xs : List Value} {R : Value → Option (DataW Unit × List MemPlace)} {D : DR} {P : Program} (h : w.ownsRow B e size v n xs) (hm : w.ownsMap P k R b N D) : some b ≠ v.ownBlock := by
  obtain ⟨es, cl, hb, _⟩ := hm
  intro e1
  obtain ⟨cur, hc, _⟩ := owns_type h e1.symm
  rw [hb] at hc; cases hc
theorem only_grownO {v : Value} {w w' : World} (h : Only (fun k => v.ownBlock = some k) w w') : w.grownBy w' v.ownBlock := ⟨h.os, h.tape, h.output, h.size, fun i hi hne => h.block i hi (fun e => hne e.symm)⟩
theorem below_grownO {W w w' : World} {row : Option Nat} (hb : Below W.heap.size W w) (h : w.grownBy w' row) (hr : ∀ k, row = some k → W.heap.size ≤ k) : Below W.heap.size W w' :=
  hb.trans ⟨h.os, h.tape, h.output, h.size, fun i hi => h.block i (Nat.lt_of_lt_of_le hi hb.size) (fun e => by have := hr i e.symm; omega)⟩
set_option maxRecDepth 100000 in
set_option maxHeartbeats 4000000 in
theorem reach_any {W : World} {x : Value} {l : List FunV} {fn : Int} (hx : FunsAt W x l) (hl : Lim l) (ho : OkP l) : Calls Try.prog 12 #[.agg #[x], .int .i64 fn] W (ReachPost W l fn) := by
  have HV := Lib.hid hx
  have HT := Lib.hid (Blk.new W 24 #[x])
  have HB := Lib.hid ((Below.refl _ W).alloc (Nat.le_refl _) (.cells #[x] 24))
  have HK := Lib.hid (look_any (hx.alloc (.cells #[x] 24)) hl ho)
  obtain ⟨p, cap, rfl⟩ := hx.slice
  clear hx ho
  have hl60 := hl.1
  have HL := Lib.hid hl
  clear hl
  have hmm := @run_makeMap Try.prog
  have hfd : ∀ (c f o : Int) (w : World), (Instr.field 52 (.agg #[.int .i64 c, .int .i64 f, .int .i64 o]) 0).run Try.prog w = .ok (.int .i64 c) w := fun _ _ _ _ => by kernel_rfl
  have hst : ∀ (fn : Fn) (first cap : Array Value) (a : Addr) (m : Mode) (w : World), (store a (.func fn first cap) m).run Try.prog w = stored Try.prog w a (.func fn first cap) m := fun _ _ _ _ _ _ => run_store _ _ _ _ _ rfl
  obtain ⟨c, f0, o0, hE⟩ : ∃ c f0 o0, lookE l = (c, f0, o0) := ⟨_, _, _, rfl⟩
  have HE := Lib.hid hE
  have hnil : (lookE l).1 = c := by rw [hE]
  clear hE
  by_cases hc : c = 0
  · subst hc
    by_cases hf0 : fn < 0
    · have hR : reachX l fn = [] := by unfold reachX; rw [if_neg (by omega)]
      clear hnil
      go_enter Try.func12, Try.ntmps12
      go_wp2_with (go_at_call 18; ((with_reducible refine HK.out.mono ?_); rintro e w1 ⟨c', f', o', rfl, hE, b1⟩; rw [HE.out] at hE; injection hE with g1 g2; subst g1; have HT1 := Lib.hid (HT.out.below b1); have HB1 := Lib.hid (HB.out.step b1); have t0 : w1.cell? ⟨W.heap.size, 0, none⟩ = some (.slice p l.length cap) := HT1.out.cell 0; clear b1 g2))
      go_ret
      exact ⟨_, rfl, by rw [hR]; exact ⟨none, 0, rfl, fun h => by simp at h⟩, HB1.out⟩
    · by_cases hf1 : fn < (l.length : Int)
      · have hfd2 : decide ((l.length : Int) ≤ fn) = false := decide_eq_false (by omega)
        obtain ⟨F, rfl⟩ : ∃ F : Nat, fn = F := ⟨fn.toNat, by omega⟩
        have hfd3 : decide ((F : Int) < 0) = false := decide_eq_false (by omega)
        go_enter Try.func12, Try.ntmps12
        go_upto_region 3 with (go_at_call 18; ((with_reducible refine HK.out.mono ?_); rintro e w1 ⟨c', f', o', rfl, hE, b1⟩; rw [HE.out] at hE; injection hE with g1 g2; subst g1; have HT1 := Lib.hid (HT.out.below b1); have HB1 := Lib.hid (HB.out.step b1); have t0 : w1.cell? ⟨W.heap.size, 0, none⟩ = some (.slice p l.length cap) := HT1.out.cell 0; clear b1 g2))
        have hR : reachX l (F : Int) = (reachL l F).map Int.ofNat := by unfold reachX; rw [if_pos ⟨hnil, by omega, hf1⟩, Int.toNat_natCast]
        have HR := Lib.hid hR
        have hFl : F < l.length := by omega
        have h16 := (lk_form (look_zero HE.out).1).1
        clear hnil hR
        have hz := (look_zero HE.out).2
        have hm1 := World.ownsMap_made w1 Try.prog 3 (plainElem (H := Unit) Try.prog 3)
        have h1b : W.heap.size < w1.heap.size := HT1.out.lt
        go_upto_region 5 with fail
        have b0 : Blk (((w1.alloc (.map #[] 0)).alloc (.cells #[.map (some w1.heap.size)] 55)).alloc (.cells #[.nilFunc] 56)) W.heap.size 24 #[.slice p l.length cap] := ((HT1.out.alloc _).alloc _).alloc _
        have b1 : Blk (((w1.alloc (.map #[] 0)).alloc (.cells #[.map (some w1.heap.size)] 55)).alloc (.cells #[.nilFunc] 56)) (w1.heap.size + 1) 55 #[.map (some w1.heap.size)] := by
          have := (Blk.new (w1.alloc (.map #[] 0)) 55 #[.map (some w1.heap.size)]).alloc (.cells #[.nilFunc] 56); simpa using this
        have b2 : Blk (((w1.alloc (.map #[] 0)).alloc (.cells #[.map (some w1.heap.size)] 55)).alloc (.cells #[.nilFunc] 56)) (w1.heap.size + 1 + 1) 56 #[.nilFunc] := by
          have := Blk.new ((w1.alloc (.map #[] 0)).alloc (.cells #[.map (some w1.heap.size)] 55)) 56 #[.nilFunc]; simpa using this
        have b3 : NM (((w1.alloc (.map #[] 0)).alloc (.cells #[.map (some w1.heap.size)] 55)).alloc (.cells #[.nilFunc] 56)) w1.heap.size 0 (.map []) := (hm1.alloc _).alloc _
        have b4 : Below W.heap.size W (((w1.alloc (.map #[] 0)).alloc (.cells #[.map (some w1.heap.size)] 55)).alloc (.cells #[.nilFunc] 56)) := ((HB1.out.alloc HB1.out.size _).alloc (by simp; omega) _).alloc (by simp; omega) _
        clear hm1 HT1 HB1 t0
        generalize ((w1.alloc (.map #[] 0)).alloc (.cells #[.map (some w1.heap.size)] 55)).alloc (.cells #[.nilFunc] 56) = wB at *
        generalize w1.heap.size = Mb at *
        have z2 : wB.cell? ⟨Mb + 1 + 1, 0, none⟩ = some .nilFunc := b2.cell 0
        have z2f : ∀ o, wB.frozen? ⟨Mb + 1 + 1, o, none⟩ = false := b2.frozen
        have HX : Hid (DsW W (.slice p l.length cap) Mb (Mb + 1) (Mb + 1 + 1) (.map []) 0 (wB.setCell ⟨Mb + 1 + 1, 0, none⟩ (.func (.func 21) #[] #[.pointer (some ⟨W.heap.size, 0, none⟩), .pointer (some ⟨Mb + 1, 0, none⟩), .pointer (some ⟨Mb + 1 + 1, 0, none⟩)]))) := Lib.hid
          ⟨b0.set_ne _ (by show W.heap.size ≠ Mb + 1 + 1; omega), b1.set_ne _ (by show Mb + 1 ≠ Mb + 1 + 1; omega), b2.set 0 _, b3.setCell (by show Mb ≠ Mb + 1 + 1; omega) _, b4.setCell (by show W.heap.size ≤ Mb + 1 + 1; omega) _, ⟨h1b, by omega⟩⟩
        have HS := Lib.hid (search_any (Mb := Mb) (Mc := Mb + 1) (Fc := Mb + 1 + 1) HV.out HL.out hz h16 l.length F (List.replicate l.length false) (.map []) _ (by simp) (by omega) hFl (MetM.zero _) (by rw [cnt_rep]; exact HX.out))
        have y2 : (wB.setCell ⟨Mb + 1 + 1, 0, none⟩ (.func (.func 21) #[] #[.pointer (some ⟨W.heap.size, 0, none⟩), .pointer (some ⟨Mb + 1, 0, none⟩), .pointer (some ⟨Mb + 1 + 1, 0, none⟩)])).cell? ⟨Mb + 1 + 1, 0, none⟩ = some (.func (.func 21) #[] #[.pointer (some ⟨W.heap.size, 0, none⟩), .pointer (some ⟨Mb + 1, 0, none⟩), .pointer (some ⟨Mb + 1 + 1, 0, none⟩)]) := HX.out.t2.cell 0
        clear hz HV b0 b1 b2 b3 b4
        go_upto_region 7 with (go_at_call 21; ((with_reducible refine HS.out.mono ?_); rintro e w2 ⟨rfl, m, D, hE2, hM2, hX2⟩; have HE2 := Lib.hid hE2; have HM2 := Lib.hid hM2; have HX2 := Lib.hid hX2; have y1 : w2.cell? ⟨Mb + 1, 0, none⟩ = some (.map (some Mb)) := hX2.t1.cell 0; clear hE2 hM2 hX2))
        clear z2 z2f y2 HS HX
        have hbel2 := HX2.out.bel
        have HBE2 := Lib.hid hbel2
        clear hbel2
        go_wp2_with (at_range; refine wpList_range_own _ rfl _ 55 rfl 3 3 kdN Try.underlying55 _ Mb (cnt m) D rfl HX2.out.om ?_; intro w3 hR gR szR; have HRg := Lib.hid hR; have GR := Lib.hid (below_grownO HBE2.out gR (fun k hk => by cases hk)); clear hR gR szR)
        simp only [Act.put, List.setIfInBounds_toArray, List.set_cons_succ, List.set_cons_zero]
        have hy0 : RgRel W Mb w2.heap.size (cnt m) D (.slice none 0 0) w3 := ⟨_, _, [], HRg.out, Gath.start D, ⟨rfl, .inl ⟨rfl, rfl⟩⟩, GR.out⟩
        have hr2 : W.heap.size ≤ w2.heap.size := HBE2.out.size
        clear HRg GR y1 HX2 HBE2
        generalize w2.heap.size = r at *
        go_loopw [4] (fun lv wr => RgRel W Mb r (cnt m) D lv wr) (fun lv wr => wr.rangeLeft Mb r)
        case atStart => exact hy0
        case round =>
          clear hy0
          obtain ⟨left, cn, g, hR, hG, hO, hB⟩ := hrel
          obtain ⟨pl, cl, rfl⟩ := owns_slice hO
          have hle := hR.left_eq
          have HRr := Lib.hid hR
          have HG := Lib.hid hG
          have HO := Lib.hid hO
          have HBr := Lib.hid hB
          have HLE := Lib.hid hle
          have hgb := (hG.bound HM2.out).1
          have hml := HE2.out.len
          have hg16 : g.length < 1000 := by omega
          clear hR hG hO hB hle hgb hml
          go_wp2_with (first | (at_next; refine wpList_next_ranges_ii _ rfl _ rfl 3 3 .i64 .i64 kdN Try.underlying3 Try.underlying3 Mb r (cnt m) D left cn rfl HRr.out (fun h0 hl0 => ?done) (fun x c w4 cnt2 hwx hwc hlx hat hr2 hlt2 gr2 szr2 hen => ?more); case' more => (have HO4 := Lib.hid (HO.out.kept gr2 (.inr (fun e => row_ne_iter HO.out HRr.out e.symm))); have HB4 := Lib.hid (below_grownO HBr.out gr2 (fun k hk => by injection hk with hk; omega)); have hs4 := HB4.out.size; have HR4 := Lib.hid hr2; have HG4 := Lib.hid (HG.out.step hlx); have HLT := Lib.hid hlt2; clear hat hwx hwc hlx hr2 hlt2 gr2)) | (at_builtin; refine wpl_append_row2 (ys := [.int .i64 x]) rfl rfl rfl rfl Try.underlying36 info_int rfl rfl rfl (by decide) (by decide) HO4.out (by omega) hs4 (by first | rfl | simp | omega) ?_; intro v5 w5 h5 o5; have HR5 := Lib.hid (HR4.out.kept (only_grownO o5) (row_ne_map HO4.out HR4.out.owns) (row_ne_iter HO4.out HR4.out)); have HB5 := Lib.hid (below_grownO HB4.out (only_grownO o5) (fun k hk => (owns_type HO4.out hk).choose_spec.2.1)); obtain ⟨p5, c5, rfl⟩ := owns_slice h5; have H5 := Lib.hid h5; clear h5 o5) | (go_at_call 22; ((with_reducible refine (sort_own HO.out (by omega)).mono ?_); rintro e w6 ⟨rfl, hO6, hG6⟩; have HO6 := Lib.hid hO6; have HG6 := Lib.hid hG6; clear hO6 hG6)))
          · refine ⟨⟨_, cnt2, g ++ [x], HR5.out, HG4.out, ?_, HB5.out⟩, by rw [HR5.out.left_eq, HLE.out]; exact HLT.out⟩
            rw [List.length_append, List.map_append]
            exact H5.out
          · have hf := HG.out.end HM2.out HE2.out.len HE2.out.all hl0
            have h6 := HO6.out
            rw [hf] at h6
            have hiv := IntsAt.of h6
            rw [← HR.out] at hiv
            have HIV := Lib.hid hiv
            have HB6 := Lib.hid (below_grownO HBr.out HG6.out (fun k hk => (owns_type HO.out hk).choose_spec.2.1))
            clear hf h6 hiv HO6 HG6
            go_ret
            exact ⟨_, rfl, HIV.out, HB6.out⟩
      · have hR : reachX l fn = [] := by unfold reachX; rw [if_neg (by omega)]
        have hf1' : (l.length : Int) ≤ fn := by omega
        have hfd3 : decide (fn < 0) = false := decide_eq_false hf0
        have hfd4 : decide ((l.length : Int) ≤ fn) = true := decide_eq_true hf1'
        clear hnil
        go_enter Try.func12, Try.ntmps12
        go_wp2_with (go_at_call 18; ((with_reducible refine HK.out.mono ?_); rintro e w1 ⟨c', f', o', rfl, hE, b1⟩; rw [HE.out] at hE; injection hE with g1 g2; subst g1; have HT1 := Lib.hid (HT.out.below b1); have HB1 := Lib.hid (HB.out.step b1); have t0 : w1.cell? ⟨W.heap.size, 0, none⟩ = some (.slice p l.length cap) := HT1.out.cell 0; clear b1 g2))
        go_ret
        exact ⟨_, rfl, by rw [hR]; exact ⟨none, 0, rfl, fun h => by simp at h⟩, HB1.out⟩
  · have hR : reachX l fn = [] := by unfold reachX; rw [if_neg (by omega)]
    have hc' : (c == 0) = false := by simpa using hc
    have hcn : (c != 0) = true := by simpa using hc
    have hcm : ¬ c = 0 := hc
    clear hnil hc
    go_enter Try.func12, Try.ntmps12
    go_wp2_with (go_at_call 18; ((with_reducible refine HK.out.mono ?_); rintro e w1 ⟨c', f', o', rfl, hE, b1⟩; rw [HE.out] at hE; injection hE with g1 g2; subst g1; have HT1 := Lib.hid (HT.out.below b1); have HB1 := Lib.hid (HB.out.step b1); have t0 : w1.cell? ⟨W.heap.size, 0, none⟩ = some (.slice p l.length cap) := HT1.out.cell 0; clear b1 g2))
    go_ret
    exact ⟨_, rfl, by rw [hR]; exact ⟨none, 0, rfl, fun h => by simp at h⟩, HB1.out⟩
end Go.Proofs.Ytpidhcogaoehhaa
