import Derived.Test.YtgdgonmhgpflcaaMgk

/- The walk of the document's Called.Take. No condition but that the rows are not too long. -/
namespace Go.Proofs.Ytgdgonmhgpflcaa
open Go.RowKit Go.Maps Wire Rp
set_option linter.unusedVariables false
set_option linter.unusedSimpArgs false
section
variable {w w' w1 : World} {B0 r : Nat} {vP : Value} {l : List PeV}
theorem pF0 (a0 a1 a2 a3 v : Value) : (#[a0, a1, a2, a3] : Array Value).setIfInBounds 0 v = #[v, a1, a2, a3] := rfl
theorem pF1 (a0 a1 a2 a3 v : Value) : (#[a0, a1, a2, a3] : Array Value).setIfInBounds 1 v = #[a0, v, a2, a3] := rfl
theorem pF2 (a0 a1 a2 a3 v : Value) : (#[a0, a1, a2, a3] : Array Value).setIfInBounds 2 v = #[a0, a1, v, a3] := rfl
theorem pF3 (a0 a1 a2 a3 v : Value) : (#[a0, a1, a2, a3] : Array Value).setIfInBounds 3 v = #[a0, a1, a2, v] := rfl
theorem blk_set4 {w : World} {k : Nat} {T : TypeId} {a0 a1 a2 a3 : Value} (h : Blk w k T #[a0, a1, a2, a3]) (b0 b1 b2 b3 : Value) : Blk ((((w.setCell ⟨k, 0, none⟩ b0).setCell ⟨k, 1, none⟩ b1).setCell ⟨k, 2, none⟩ b2).setCell ⟨k, 3, none⟩ b3) k T #[b0, b1, b2, b3] := by
  have h0 := h.set 0 b0
  rw [pF0] at h0
  have h1 := h0.set 1 b1
  rw [pF1] at h1
  have h2 := h1.set 2 b2
  rw [pF2] at h2
  have h3 := h2.set 3 b3
  rwa [pF3] at h3
/-- Turning a block that is no row of its own leaves it. -/
theorem RD.setq {Q : Nat} {A : Array Value} (c : RD w B0 r vP l) (hx : Blk w Q 132 A) (hQ : ∀ k, vP.ownBlock = some k → k ≠ Q) (hB : B0 ≤ Q) (o : Only (· = Q) w w') : RD w' B0 r vP l ∧ OnR B0 r w w' :=
  ⟨c.only o (fun e => by rw [e] at c; exact absurd (blk_ne hx c.blk) (by decide)) (fun g hg e => hQ g hg e) (fun x hm g hg e => by obtain ⟨A', hA, _⟩ := owns_type (c.he x hm) hg; have e' : g = Q := e; subst e'; exact absurd (blk_ne hA hx) (by decide)),
   o.mono fun k _ e => by have e' : k = Q := e; subst e'; exact .inr (.inl ⟨hB, A, hx⟩)⟩
theorem q_onR (c : RD w B0 r vP l) {k : Nat} {T : TypeId} {A : Array Value} (hk : Blk w k T A) (h1 : T ≠ 44) (h2 : T ≠ 132) (h3 : T ≠ 134) (o : OnR B0 r w w') : Blk w' k T A := hk.only o fun e => by
  rcases e with e | ⟨_, A', e⟩ | ⟨_, A', e⟩
  · subst e; exact h1 (blk_ne hk c.blk)
  · exact h2 (blk_ne hk e)
  · exact h3 (blk_ne hk e)
/-- Ahead of what the packet's number decides. -/
def CutD (w : World) (B0 r g Q Q0 n i cap : Nat) (xf inc sq : Int) (body : ByteArray) (x : Pe) (d1 : List Pe) (wc : World) : Prop :=
  ∃ cur v l2, RD wc B0 r (.slice (some ⟨g, 0, none⟩) n cap) l2 ∧ OnR B0 r w wc ∧ Blk wc Q 132 #[.int .i64 xf, .int .u64 cur.inc, .int .u64 cur.floor, v] ∧ Blk wc Q0 24 #[.bool false, .int .u64 inc, .int .u64 sq, .string body] ∧
    (∃ hi : i < l2.length, l2[i] = (cur, v)) ∧ cur.fr = xf ∧ l2.length = n ∧ cur = curPe (some x) xf ⟨false, inc, sq, body⟩ ∧ peV l2 = setPe d1 cur ∧ cur.inc = inc
def RDTakeP (w : World) (B0 r : Nat) (q : (Int × ByteArray × Int) × List Pe) (e : Ending) (w' : World) : Prop := e = .returned (.tuple #[.int .u8 q.1.1, .string q.1.2.1, .int .i64 q.1.2.2]) ∧ ∃ vP' l', RD w' B0 r vP' l' ∧ peV l' = q.2 ∧ OnR B0 r w w'
set_option maxRecDepth 100000 in
set_option maxHeartbeats 4000000 in
theorem rdtake_any (c : RD w B0 r vP l) (hn : l.length ≤ 1000) (hL : ∀ x ∈ l, LB x.1.L) {fr : Int} {p : Pk} :
    Calls Try.prog 19 #[.pointer (some ⟨r, 0, none⟩), .int .i64 fr, pv p] w (RDTakeP w B0 r (takeR (peV l) fr p)) := by
  have HR := Lib.hid (show takeR (peV l) fr p = takeR (peV l) fr p from rfl)
  have HC := Lib.hid (c.alloc (.cells (pcells p) 24))
  have HX := Lib.hid (Blk.new w 24 (pcells p))
  have HPL := Lib.hid (rplace_any fr (w.alloc (.cells (pcells p) 24)))
  have HMY := Lib.hid (rmay_any p (w.alloc (.cells (pcells p) 24)))
  have HBW : Hid (OnR B0 r w (w.alloc (.cells (pcells p) 24))) := Lib.hid (OnR.of_below ((Below.refl _ _).alloc (Nat.le_refl _) _))
  have HN := Lib.hid hn
  have HLA : Hid (∀ x ∈ addV l fr, LB x.1.L) := Lib.hid fun x hx => by
    unfold addV at hx
    split at hx
    · exact hL x hx
    · rcases List.mem_append.1 hx with hx | hx
      · exact hL x hx
      · simp at hx; subst hx; exact LB_nil
  clear c hn HR hL
  by_cases hbad : (placeB fr && mayP p && !p.an) = false
  · have HT : Hid (takeR (peV l) fr p = ((0, ⟨#[]⟩, 2), peV l)) := Lib.hid (by unfold takeR; rw [if_pos hbad])
    cases hpl : placeB fr with
    | false =>
      rw [hpl] at HPL
      clear hbad hpl
      obtain ⟨an, inc, sq, body⟩ := p
      unfold pv pcells at *
      go_enter Try.func19, Try.ntmps19
      go_wp2_with (go_at_call 59; ((with_reducible refine HPL.out.mono ?_); rintro e w9 ⟨rfl, hw9⟩; have hw9 := hw9.symm; subst hw9))
      all_goals (go_ret3; unfold RDTakeP; rw [HT.out]; exact ⟨rfl, _, _, HC.out, rfl, HBW.out⟩)
    | true =>
      rw [hpl] at HPL
      cases hmy : mayP p with
      | false =>
        rw [hmy] at HMY
        clear hbad hpl hmy
        obtain ⟨an, inc, sq, body⟩ := p
        unfold pv pcells at *
        go_enter Try.func19, Try.ntmps19
        go_wp2_with (first | (go_at_call 59; ((with_reducible refine HPL.out.mono ?_); rintro e w9 ⟨rfl, hw9⟩; have hw9 := hw9.symm; subst hw9)) | (go_at_call 13; ((with_reducible refine HMY.out.mono ?_); rintro e w1 ⟨rfl, hb1⟩; have HB1 := Lib.hid hb1; have HX1 := Lib.hid (HX.out.below hb1); have y0 : w1.cell? ⟨w.heap.size, 0, none⟩ = some (.bool _) := (by rw [HX1.out.cell 0]; rfl); clear hb1)))
        all_goals (go_ret3; unfold RDTakeP; rw [HT.out]; exact ⟨rfl, _, _, HC.out.below HB1.out, rfl, HBW.out.step HB1.out⟩)
      | true =>
        rw [hmy] at HMY
        obtain ⟨an, inc, sq, body⟩ := p
        have ha : an = true := by rw [hpl, hmy] at hbad; simpa using hbad
        subst ha
        clear hbad hpl hmy
        unfold pv pcells at *
        go_enter Try.func19, Try.ntmps19
        go_wp2_with (first | (go_at_call 59; ((with_reducible refine HPL.out.mono ?_); rintro e w9 ⟨rfl, hw9⟩; have hw9 := hw9.symm; subst hw9)) | (go_at_call 13; ((with_reducible refine HMY.out.mono ?_); rintro e w1 ⟨rfl, hb1⟩; have HB1 := Lib.hid hb1; have HX1 := Lib.hid (HX.out.below hb1); have y0 : w1.cell? ⟨w.heap.size, 0, none⟩ = some (.bool _) := (by rw [HX1.out.cell 0]; rfl); clear hb1)))
        all_goals (go_ret3; unfold RDTakeP; rw [HT.out]; exact ⟨rfl, _, _, HC.out.below HB1.out, rfl, HBW.out.step HB1.out⟩)
  · have HT : Hid (takeR (peV l) fr p = takeD (addP (peV l) fr) fr p) := Lib.hid (by unfold takeR; rw [if_neg hbad])
    simp only [Bool.not_eq_false, Bool.and_eq_true] at hbad
    obtain ⟨⟨hpl, hmy⟩, han⟩ := hbad
    rw [hpl] at HPL
    rw [hmy] at HMY
    have HPL2 := Lib.hid hpl
    have HMY2 := Lib.hid hmy
    obtain ⟨an, inc, sq, body⟩ := p
    have ha : an = false := by simpa using han
    subst ha
    clear hpl hmy han
    unfold pv pcells at *
    go_enter Try.func19, Try.ntmps19
    go_upto_region 3 with (first | (go_at_call 59; ((with_reducible refine HPL.out.mono ?_); rintro e w9 ⟨rfl, hw9⟩; have hw9 := hw9.symm; subst hw9)) | (go_at_call 13; ((with_reducible refine HMY.out.mono ?_); rintro e w1 ⟨rfl, hb1⟩; have HB1 := Lib.hid hb1; have HX1 := Lib.hid (HX.out.below hb1); have y0 : w1.cell? ⟨w.heap.size, 0, none⟩ = some (.bool _) := (by rw [HX1.out.cell 0]; rfl); clear hb1)))
    have HC1 := Lib.hid (HC.out.below HB1.out)
    have HO1 := Lib.hid (HBW.out.step HB1.out)
    clear HC HX HPL HMY HBW HB1 y0
    generalize w.heap.size = Q0 at *
    have HPE := Lib.hid (peer_any HC1.out (by have := HN.out; omega) fr)
    go_upto_region 4 with (go_at_call 60; go_loud ((with_reducible refine HPE.out.mono ?_); rintro e w2 ⟨i, vP2, rfl, hc, ho, hi, hfr⟩; have HC2 := Lib.hid hc; have HO2 := Lib.hid (HO1.out.trans ho); have HX2 := Lib.hid (q_onR HC1.out HX1.out (by decide) (by decide) (by decide) ho); clear hc ho))
    have HML := Lib.hid (map_add l fr)
    have HNL : Hid ((addV l fr).length ≤ 1001) := Lib.hid (by have := HN.out; unfold addV; split <;> simp <;> omega)
    clear HPE HC1 HO1 HX1
    generalize addV l fr = l1 at *
    have HLK := Lib.hid (look_at HC2.out.dis hi hfr)
    obtain ⟨g, cap, ev, hbg, hg, hgr, hfz, ⟨Ag, hAg⟩, hz⟩ := HC2.out.peer hi
    subst ev
    have hsl := HC2.out.he l1[i] (List.getElem_mem hi)
    obtain ⟨pv, cv, hv⟩ := owns_slice hsl
    have HSL := Lib.hid hsl
    have z0 : w2.cell? ⟨g, i * 4, none⟩ = some (.int .i64 fr) := by rw [← hfr]; exact hz 0 (by decide)
    have z1 : w2.cell? ⟨g, i * 4 + 1, none⟩ = some (.int .u64 l1[i].1.inc) := hz 1 (by decide)
    have z2 : w2.cell? ⟨g, i * 4 + 2, none⟩ = some (.int .u64 l1[i].1.floor) := hz 2 (by decide)
    have z3 : w2.cell? ⟨g, i * 4 + 3, none⟩ = some (.slice pv l1[i].1.L.length cv) := by rw [← hv]; exact hz 3 (by decide)
    have hil : (i : Int) < (l1.length : Int) := by omega
    have hi0 : (0 : Int) ≤ (i : Int) := by omega
    have c0 := HC2.out.c0
    have HI := Lib.hid hi
    have HGB := Lib.hid (And.intro hbg hg)
    have HAG := Lib.hid hAg
    clear hz hsl hbg hAg hgr
    generalize hx : l1[i] = x at *
    have HXE := Lib.hid hx
    have HLX : Hid (LB x.1.L) := Lib.hid (by rw [← hx]; exact HLA.out _ (List.getElem_mem HI.out))
    clear hx
    obtain ⟨⟨xf, xi, xl, xL⟩, xv⟩ := x
    dsimp only at hfr hv z1 z2 z3 HSL HLK HLX
    subst hfr hv
    clear hi
    go_upto_region 5 with fail
    have HXQ : Hid (Blk (w2.alloc (.cells #[.int .i64 xf, .int .u64 xi, .int .u64 xl, .slice pv xL.length cv] 132)) w2.heap.size 132 #[.int .i64 xf, .int .u64 xi, .int .u64 xl, .slice pv xL.length cv]) := Lib.hid (Blk.new _ _ _)
    have HC3 := Lib.hid (HC2.out.alloc (.cells #[.int .i64 xf, .int .u64 xi, .int .u64 xl, .slice pv xL.length cv] 132))
    have HX3 := Lib.hid (HX2.out.alloc (.cells #[.int .i64 xf, .int .u64 xi, .int .u64 xl, .slice pv xL.length cv] 132))
    have HO3 := Lib.hid (HO2.out.step ((Below.refl _ w2).alloc (Nat.le_refl _) (.cells #[.int .i64 xf, .int .u64 xi, .int .u64 xl, .slice pv xL.length cv] 132)))
    have HQ2 : Hid (∀ k, k < w2.heap.size → (w2.alloc (.cells #[.int .i64 xf, .int .u64 xi, .int .u64 xl, .slice pv xL.length cv] 132)).heap[k]? = w2.heap[k]?) := Lib.hid fun k hk => Below.heap_alloc _ _ _ hk
    clear z0 z1 z2 z3 c0 HC2 HX2 HO2 hfz
    generalize w2.alloc (.cells #[.int .i64 xf, .int .u64 xi, .int .u64 xl, .slice pv xL.length cv] 132) = W at *
    generalize w2.heap.size = Q at *
    have y1 : W.cell? ⟨Q0, 1, none⟩ = some (.int .u64 inc) := by rw [HX3.out.cell 1]; rfl
    have y2 : W.cell? ⟨Q0, 2, none⟩ = some (.int .u64 sq) := by rw [HX3.out.cell 2]; rfl
    have x1 : W.cell? ⟨Q, 1, none⟩ = some (.int .u64 xi) := by rw [HXQ.out.cell 1]; rfl
    have x2 : W.cell? ⟨Q, 2, none⟩ = some (.int .u64 xl) := by rw [HXQ.out.cell 2]; rfl
    have x3 : W.cell? ⟨Q, 3, none⟩ = some (.slice pv xL.length cv) := by rw [HXQ.out.cell 3]; rfl
    by_cases hold : inc < xi
    · have HT2 : Hid (takeR (peV l) xf ⟨false, inc, sq, body⟩ = ((4, ⟨#[]⟩, 0), peV l1)) := Lib.hid (by
        rw [HT.out, ← HML.out]
        have hb : ¬ (placeB xf && mayP ⟨false, inc, sq, body⟩ && !(false : Bool)) = false := by rw [HPL2.out, HMY2.out]; simp
        have hc : curPe (some ⟨xf, xi, xl, xL⟩) xf ⟨false, inc, sq, body⟩ = ⟨xf, xi, xl, xL⟩ := by unfold curPe; dsimp only; rw [if_neg (by omega)]
        have hh : hear ⟨xf, xi, xl, xL⟩ ⟨false, inc, sq, body⟩ = ((4, ⟨#[]⟩), ⟨xf, xi, xl, xL⟩) := by unfold hear; rw [if_pos (Or.inl hold)]
        have hs := set_at HC3.out.dis HI.out (y := l1[i]'HI.out) rfl
        rw [List.set_getElem_self] at hs
        have hs2 : peV l1 = setPe (peV l1) ⟨xf, xi, xl, xL⟩ := hs.trans (congrArg (fun z : PeV => setPe (peV l1) z.1) HXE.out)
        unfold takeD
        rw [if_neg hb, HLK.out, hc, hh]
        exact congrArg _ hs2.symm)
      go_wp2_with fail
      go_ret3
      unfold RDTakeP
      rw [HT2.out]
      exact ⟨rfl, _, _, HC3.out, rfl, HO3.out⟩
    · go_upto_if 44 with fail
      go_cut [] (fun wc => CutD w B0 r g Q Q0 l1.length i cap xf inc sq body ⟨xf, xi, xl, xL⟩ (peV l1) wc)
      case first =>
        by_cases hgt : xi < inc
        · have yq := HXQ.out.frozen
          have hfr2 := HC3.out.fz
          have c0 := HC3.out.c0
          have hgf : ∀ o, W.frozen? ⟨g, o, none⟩ = false := by obtain ⟨_, _, ev, _, _, _, h, _⟩ := HC3.out.peer HI.out; injection ev with e1; injection e1 with e1; injection e1 with e1; subst e1; exact h
          have x0 : W.cell? ⟨Q, 0, none⟩ = some (.int .i64 xf) := by rw [HXQ.out.cell 0]; rfl
          go_upto_region 9 with fail
          have HXQ2 := Lib.hid (blk_set4 HXQ.out (.int .i64 xf) (.int .u64 inc) (.int .u64 0) (.slice none 0 0))
          have HQO : Hid (Only (· = Q) W ((((W.setCell ⟨Q, 0, none⟩ (.int .i64 xf)).setCell ⟨Q, 1, none⟩ (.int .u64 inc)).setCell ⟨Q, 2, none⟩ (.int .u64 0)).setCell ⟨Q, 3, none⟩ (.slice none 0 0))) := Lib.hid (((Only.refl _ W).set1.set1).set1).set1
          have HC4 := Lib.hid (HC3.out.setq HXQ.out (fun k hk => by injection hk with hk; have e : g = k := hk; have := HGB.out.2; omega) (by have := HGB.out; omega) HQO.out)
          have HX4 := Lib.hid (HX3.out.only HQO.out (fun e => by have h1 := HX3.out; have e' : Q0 = Q := e; rw [e'] at h1; exact absurd (blk_ne h1 HXQ.out) (by decide)))
          clear x0 x1 x2 x3 y1 y2 yq hfr2 c0 hgf
          generalize (((W.setCell ⟨Q, 0, none⟩ (.int .i64 xf)).setCell ⟨Q, 1, none⟩ (.int .u64 inc)).setCell ⟨Q, 2, none⟩ (.int .u64 0)).setCell ⟨Q, 3, none⟩ (.slice none 0 0) = W2 at *
          have x0 : W2.cell? ⟨Q, 0, none⟩ = some (.int .i64 xf) := by rw [HXQ2.out.cell 0]; rfl
          have x1 : W2.cell? ⟨Q, 1, none⟩ = some (.int .u64 inc) := by rw [HXQ2.out.cell 1]; rfl
          have x2 : W2.cell? ⟨Q, 2, none⟩ = some (.int .u64 0) := by rw [HXQ2.out.cell 2]; rfl
          have x3 : W2.cell? ⟨Q, 3, none⟩ = some (.slice none 0 0) := by rw [HXQ2.out.cell 3]; rfl
          have c0 := HC4.out.1.c0
          have hgf : ∀ o, W2.frozen? ⟨g, o, none⟩ = false := by obtain ⟨_, _, ev, _, _, _, h, _⟩ := HC4.out.1.peer HI.out; injection ev with e1; injection e1 with e1; injection e1 with e1; subst e1; exact h
          have hz : ∀ j, j < 4 → W2.cell? ⟨g, i * 4 + j, none⟩ = (prow (⟨xf, xi, xl, xL⟩, .slice pv xL.length cv))[j]? := by
            obtain ⟨_, _, ev, _, _, _, _, _, h⟩ := HC4.out.1.peer HI.out
            injection ev with e1
            injection e1 with e1
            injection e1 with e1
            subst e1
            intro j hj
            rw [h j hj]
            exact congrArg (fun z : PeV => (prow z)[j]?) HXE.out
          have z0 : W2.cell? ⟨g, i * 4, none⟩ = some (.int .i64 xf) := hz 0 (by decide)
          have z1 : W2.cell? ⟨g, i * 4 + 1, none⟩ = some (.int .u64 xi) := hz 1 (by decide)
          have z2 : W2.cell? ⟨g, i * 4 + 2, none⟩ = some (.int .u64 xl) := hz 2 (by decide)
          have z3 : W2.cell? ⟨g, i * 4 + 3, none⟩ = some (.slice pv xL.length cv) := hz 3 (by decide)
          clear hz
          have hst := HC4.out.1.store HI.out (⟨xf, inc, 0, []⟩, .slice none 0 0) (World.ownsRow_nil _ _ _ _) (congrArg (fun z : PeV => z.1.fr) HXE.out).symm (fun x _ _ k _ e => by cases e)
          have HST := Lib.hid hst
          have hqg : Q ≠ g := by have := HGB.out.2; omega
          have HXQ5 := Lib.hid ((((HXQ2.out.set_ne (p := ⟨g, i * 4, none⟩) (.int .i64 xf) hqg).set_ne (p := ⟨g, i * 4 + 1, none⟩) (.int .u64 inc) hqg).set_ne (p := ⟨g, i * 4 + 2, none⟩) (.int .u64 0) hqg).set_ne (p := ⟨g, i * 4 + 3, none⟩) (.slice none 0 0) hqg)
          have HX5 := Lib.hid (q_onR HC4.out.1 HX4.out (by decide) (by decide) (by decide) hst.2)
          have HST3 : Hid (peV (l1.set i (⟨xf, inc, 0, []⟩, .slice none 0 0)) = setPe (peV l1) ⟨xf, inc, 0, []⟩) := Lib.hid (set_at HC3.out.dis HI.out (congrArg (fun z : PeV => z.1.fr) HXE.out).symm)
          have hcur : (⟨xf, inc, 0, []⟩ : Pe) = curPe (some ⟨xf, xi, xl, xL⟩) xf ⟨false, inc, sq, body⟩ := by unfold curPe; dsimp only; rw [if_pos (by assumption)]
          have HFIN : Hid (CutD w B0 r g Q Q0 l1.length i cap xf inc sq body ⟨xf, xi, xl, xL⟩ (peV l1) ((((W2.setCell ⟨g, i * 4, none⟩ (.int .i64 xf)).setCell ⟨g, i * 4 + 1, none⟩ (.int .u64 inc)).setCell ⟨g, i * 4 + 2, none⟩ (.int .u64 0)).setCell ⟨g, i * 4 + 3, none⟩ (.slice none 0 0)).drew) := Lib.hid
            ⟨⟨xf, inc, 0, []⟩, .slice none 0 0, l1.set i (⟨xf, inc, 0, []⟩, .slice none 0 0), HST.out.1.drew, (HO3.out.trans (HC4.out.2.trans HST.out.2)).step (Below.refl _ _).drew, HXQ5.out.drew, HX5.out.drew, ⟨by rw [List.length_set]; exact HI.out, by rw [List.getElem_set_self]⟩, rfl, by rw [List.length_set], hcur, HST3.out, rfl⟩
          clear hst hqg hcur
          go_region
          go_wp2_with fail
          go_meet
          exact HFIN.out
        · have HT3 : Hid (CutD w B0 r g Q Q0 l1.length i cap xf inc sq body ⟨xf, xi, xl, xL⟩ (peV l1) W) := Lib.hid (by
            refine ⟨⟨xf, xi, xl, xL⟩, _, l1, HC3.out, HO3.out, HXQ.out, HX3.out, ⟨HI.out, HXE.out⟩, rfl, rfl, ?_, ?_, by show xi = inc; omega⟩
            · unfold curPe; dsimp only; rw [if_neg hgt]
            · have hs := set_at HC3.out.dis HI.out (y := l1[i]'HI.out) rfl
              rw [List.set_getElem_self] at hs
              exact hs.trans (congrArg (fun z : PeV => setPe (peV l1) z.1) HXE.out))
          go_wp2_with fail
          go_meet
          exact HT3.out
      case rest =>
        obtain ⟨⟨cf, ci, cl, cL⟩, v, l2, hc, ho, hq, hp, ⟨hi2, hx2⟩, hcf, hlen, hcur, hset, hci⟩ := hcut
        dsimp only at hq hcf hci
        subst hcf hci
        have HTK : Hid (∀ q, hear ⟨cf, ci, cl, cL⟩ ⟨false, ci, sq, body⟩ = q → takeR (peV l) cf ⟨false, ci, sq, body⟩ = ((q.1.1, q.1.2, 0), setPe (peV l1) q.2)) := Lib.hid fun q hq => by
          have hb : ¬ (placeB cf && mayP ⟨false, ci, sq, body⟩ && !(false : Bool)) = false := by rw [HPL2.out, HMY2.out]; simp
          rw [HT.out, ← HML.out]
          unfold takeD
          rw [if_neg hb, HLK.out, ← hcur, hq]
        have HC5 := Lib.hid hc
        have HO5 := Lib.hid ho
        have HQ5 := Lib.hid hq
        have HP5 := Lib.hid hp
        have HX2 := Lib.hid hx2
        have HI2 := Lib.hid hi2
        have HSE := Lib.hid hset
        have HLC : Hid (LB cL) := Lib.hid (by have h := LB_cur (a := cf) (b := xi) (c := xl) (fr := cf) (p := ⟨false, ci, sq, body⟩) HLX.out; rw [← hcur] at h; exact h)
        have HLN := Lib.hid hlen
        clear hc ho hq hp hcur hset x1 x2 x3 y1 y2 hx2
        have y2 : wc.cell? ⟨Q0, 2, none⟩ = some (.int .u64 sq) := by rw [HP5.out.cell 2]; rfl
        have x2 : wc.cell? ⟨Q, 2, none⟩ = some (.int .u64 cl) := by rw [HQ5.out.cell 2]; rfl
        by_cases hfl : sq ≤ cl
        · have HR := Lib.hid (HTK.out ((4, ⟨#[]⟩), ⟨cf, ci, cl, cL⟩) (by unfold hear; rw [if_pos (Or.inr hfl)]))
          go_wp2_with fail
          go_ret3
          unfold RDTakeP
          rw [HR.out]
          exact ⟨rfl, _, _, HC5.out, HSE.out, HO5.out⟩
        · have HMEM : Hid ((⟨cf, ci, cl, cL⟩, v) ∈ l2) := Lib.hid (by have h := List.getElem_mem HI2.out; have e := HX2.out; exact e ▸ h)
          have hsl := HC5.out.he _ HMEM.out
          dsimp only at hsl
          obtain ⟨pw, cw, hv2⟩ := owns_slice hsl
          subst hv2
          have HSL2 := Lib.hid hsl
          have x3 : wc.cell? ⟨Q, 3, none⟩ = some (.slice pw cL.length cw) := by rw [HQ5.out.cell 3]; rfl
          have hsq : 1 ≤ sq ∧ sq ≤ 4611686018427387904 := by
            have h3 := HMY2.out
            unfold mayP at h3
            simp only [Bool.and_eq_true, decide_eq_true_eq] at h3
            exact ⟨h3.2.2.1, h3.2.2.2.1⟩
          have hcu : 1 ≤ ci ∧ ci ≤ 4611686018427387904 := by
            have h3 := HMY2.out
            unfold mayP at h3
            simp only [Bool.and_eq_true, decide_eq_true_eq] at h3
            exact ⟨h3.1, h3.2.1⟩
          have HU := Lib.hid (And.intro hcu hsq)
          have HFL := Lib.hid hfl
          have HHE : Hid (∀ h, lookH cL sq = some h → hear ⟨cf, ci, cl, cL⟩ ⟨false, ci, sq, body⟩ = if h.dn then ((2, pkS ⟨true, ci, h.seq, h.body⟩), ⟨cf, ci, cl, cL⟩) else ((3, ⟨#[]⟩), ⟨cf, ci, cl, cL⟩)) := Lib.hid fun h hh => by
            unfold hear
            rw [if_neg (show ¬ (ci < ci ∨ sq ≤ cl) by have := HFL.out; omega)]
            dsimp only
            rw [hh]
          have HHN : Hid (lookH cL sq = none → hear ⟨cf, ci, cl, cL⟩ ⟨false, ci, sq, body⟩ = if 64 ≤ cntD false cL then ((3, ⟨#[]⟩), ⟨cf, ci, cl, cL⟩) else ((1, ⟨#[]⟩), ⟨cf, ci, cl, cL ++ [⟨sq, false, ⟨#[]⟩⟩]⟩)) := Lib.hid fun hh => by
            unfold hear
            rw [if_neg (show ¬ (ci < ci ∨ sq ≤ cl) by have := HFL.out; omega)]
            dsimp only
            rw [hh]
          clear hsl hsq hcu
          go_upto_region 12 with fail
          clear x2 y2 x3
          go_wp2_with fail
          go_loopw [11, 12] (fun vb u wr => ∃ j : Nat, u = .int .i64 j ∧ j ≤ cL.length ∧ vb = .int .i64 (cntD false (cL.take j) : Nat) ∧ (cL.take j).any (fun h => h.seq == sq) = false ∧ Below wc.heap.size wc wr) (fun _ u _ => ((cL.length : Int) - intOf u).toNat)
          case atStart => exact ⟨0, rfl, Nat.zero_le _, rfl, rfl, Below.refl _ _⟩
          case round =>
            obtain ⟨j, rfl, hj, rfl, hno, hbw⟩ := hrel
            have HCR := Lib.hid (HC5.out.below hbw)
            have HOR := Lib.hid (HO5.out.step hbw)
            have HQR := Lib.hid (HQ5.out.below hbw)
            have HPR := Lib.hid (HP5.out.below hbw)
            have HSR := Lib.hid (owns_below HSL2.out hbw)
            have HBR := Lib.hid hbw
            have x3 : wr.cell? ⟨Q, 3, none⟩ = some (.slice pw cL.length cw) := by rw [HQR.out.cell 3]; rfl
            have y1 : wr.cell? ⟨Q0, 1, none⟩ = some (.int .u64 ci) := by rw [HPR.out.cell 1]; rfl
            have y2 : wr.cell? ⟨Q0, 2, none⟩ = some (.int .u64 sq) := by rw [HPR.out.cell 2]; rfl
            have HNO := Lib.hid hno
            have HJ := Lib.hid hj
            clear hbw hno hj
            by_cases hjl : j < cL.length
            · skip
              obtain ⟨g2, cap2, ev2, _, hg2, hf2, hz2⟩ := owns_cells HSR.out (by omega)
              injection ev2 with ev2 ev3 ev4
              subst ev2 ev4
              have z0 : wr.cell? ⟨g2, j * 3, none⟩ = some (.int .u64 cL[j].seq) := by rw [← show (hcells cL[j])[0]? = some (.int .u64 cL[j].seq) from rfl, ← flat_at hcells 3 (fun _ => rfl) cL j 0 hjl (by decide)]; exact hz2 (j * 3 + 0) (by omega)
              have z1 : wr.cell? ⟨g2, j * 3 + 1, none⟩ = some (.bool cL[j].dn) := by rw [← show (hcells cL[j])[1]? = some (.bool cL[j].dn) from rfl, ← flat_at hcells 3 (fun _ => rfl) cL j 1 hjl (by decide)]; exact hz2 (j * 3 + 1) (by omega)
              have z2 : wr.cell? ⟨g2, j * 3 + 2, none⟩ = some (.string cL[j].body) := by rw [← show (hcells cL[j])[2]? = some (.string cL[j].body) from rfl, ← flat_at hcells 3 (fun _ => rfl) cL j 2 hjl (by decide)]; exact hz2 (j * 3 + 2) (by omega)
              have hjl' : (j : Int) < (cL.length : Int) := by omega
              have hj0 : (0 : Int) ≤ (j : Int) := by omega
              have HCN := Lib.hid (cnt_take hjl)
              have HLA2 := Lib.hid (fun hq : cL[j].seq = sq => HHE.out cL[j] (lookH_at hjl HNO.out hq))
              have HTN : Hid (cL[j].seq ≠ sq → (cL.take (j + 1)).any (fun h => h.seq == sq) = false) := Lib.hid fun hq => by
                rw [List.take_succ_eq_append_getElem hjl, List.any_append, HNO.out]
                simpa using hq
              have HE : Hid (wrap64 ((j : Int) + 1) = ((j + 1 : Nat) : Int)) := Lib.hid (Sou.w64n rfl (by have := HLC.out.1; omega))
              have HBS : Hid (cL[j].body.size ≤ 1048576) := Lib.hid (by have := HLC.out.2.1 _ (List.getElem_mem hjl); unfold hOk at this; omega)
              have HCB : Hid (cntD false (cL.take j) ≤ 100000) := Lib.hid (by have h1 := HLC.out.1; have h2 : cntD false (cL.take j) ≤ (cL.take j).length := List.countP_le_length; rw [List.length_take] at h2; omega)
              have HJL := Lib.hid hjl
              generalize cL[j] = hh at *
              obtain ⟨hs, hd, hb⟩ := hh
              dsimp only at z0 z1 z2 HCN HLA2 HTN HBS
              generalize cntD false (cL.take j) = cn at *
              have HE2 : Hid (wrap64 ((cn : Int) + 1) = ((cn + 1 : Nat) : Int)) := Lib.hid (Sou.w64n rfl (by have := HCB.out; omega))
              clear hz2 hg2 hf2 ev3 hjl
              by_cases hq : hs = sq
              · subst hq
                have hq' : (hs == hs) = true := by simp
                have HH2 := Lib.hid (HLA2.out rfl)
                clear HTN HLA2
                cases hd with
                | true =>
                  simp only [if_true] at HH2
                  have HR := Lib.hid (HTK.out _ HH2.out)
                  go_upto_region 18 with fail
                  refine Reg.wp_text (by kernel_rfl) (by kernel_rfl) ?_
                  go_wp2_with fail
                  refine Reg.fin (by kernel_rfl) ?_
                  go_upto_region 19 with fail
                  have HC6 := Lib.hid (show RD wr.drew _ _ _ _ from HCR.out.drew)
                  have HO6 := Lib.hid (HOR.out.step (Below.refl _ wr).drew)
                  have u1 : wr.drew.cell? ⟨Q0, 1, none⟩ = some (.int .u64 ci) := y1
                  have u2 : wr.drew.cell? ⟨Q0, 2, none⟩ = some (.int .u64 hs) := y2
                  have u3 : wr.drew.cell? ⟨Q, 3, none⟩ = some (.slice (some ⟨g2, 0, none⟩) cL.length cw) := x3
                  have u4 : wr.drew.cell? ⟨g2, j * 3 + 2, none⟩ = some (.string hb) := z2
                  clear y1 y2 x3 z0 z1 z2 HCR HOR HQR HPR HSR HBR
                  generalize wr.drew = W at *
                  have v1 : W.drew.cell? ⟨Q0, 1, none⟩ = some (.int .u64 ci) := u1
                  have v2 : W.drew.cell? ⟨Q0, 2, none⟩ = some (.int .u64 hs) := u2
                  have v3 : W.drew.cell? ⟨Q, 3, none⟩ = some (.slice (some ⟨g2, 0, none⟩) cL.length cw) := u3
                  have v4 : W.drew.cell? ⟨g2, j * 3 + 2, none⟩ = some (.string hb) := u4
                  have HBY := Lib.hid (rbytes_any ⟨true, ci, hs, hb⟩ (by have := HU.out; unfold U64; dsimp only; omega) (by have := HU.out; unfold U64; dsimp only; omega) HBS.out W.drew)
                  unfold Rp.pv Rp.pcells at HBY
                  dsimp only at HBY
                  have HC7 := Lib.hid (show RD W.drew _ _ _ _ from HC6.out.drew)
                  have HO7 := Lib.hid (HO6.out.step (Below.refl _ W).drew)
                  go_region_held3 (fun w' => w'.cell? ⟨Q0, 1, none⟩ = some (.int .u64 ci) ∧ w'.cell? ⟨Q0, 2, none⟩ = some (.int .u64 hs) ∧ w'.cell? ⟨Q, 3, none⟩ = some (.slice (some ⟨g2, 0, none⟩) cL.length cw) ∧ w'.cell? ⟨g2, j * 3 + 2, none⟩ = some (.string hb)) (first | exact ⟨u1, u2, u3, u4⟩ | exact ⟨v1, v2, v3, v4⟩ | exact ⟨s1, s2, s3, s4⟩ | go_keep) ((refine step_call (by rfl) 14 #[.agg #[.bool true, .int .u64 ci, .int .u64 hs, .string hb]] (by simp only [execOp]; go_simp) HBY.out (fun e w' h => ⟨_, h.1⟩) ?_; intro v5 w5 h5; obtain ⟨hv5, hb5⟩ := h5; injection hv5 with hv5; subst hv5; have HC8 := Lib.hid (HC7.out.below hb5); have HO8 := Lib.hid (HO7.out.step hb5); have s1 : w5.cell? ⟨Q0, 1, none⟩ = some (.int .u64 ci) := cell_kept hb5 v1; have s2 : w5.cell? ⟨Q0, 2, none⟩ = some (.int .u64 hs) := cell_kept hb5 v2; have s3 : w5.cell? ⟨Q, 3, none⟩ = some (.slice (some ⟨g2, 0, none⟩) cL.length cw) := cell_kept hb5 v3; have s4 : w5.cell? ⟨g2, j * 3 + 2, none⟩ = some (.string hb) := cell_kept hb5 v4; clear hb5 u1 u2 u3 u4 v1 v2 v3 v4))
                  go_wp2_with fail
                  go_ret3
                  unfold RDTakeP
                  rw [HR.out]
                  exact ⟨rfl, _, _, HC8.out, HSE.out, HO8.out⟩
                | false =>
                  simp only [Bool.false_eq_true, if_false] at HH2
                  have HR := Lib.hid (HTK.out _ HH2.out)
                  go_upto_region 18 with fail
                  refine Reg.wp_text (by kernel_rfl) (by kernel_rfl) ?_
                  go_wp2_with fail
                  refine Reg.fin (by kernel_rfl) ?_
                  go_upto_region 20 with fail
                  refine Reg.wp_text (by kernel_rfl) (by kernel_rfl) ?_
                  go_wp2_with fail
                  refine Reg.fin (by kernel_rfl) ?_
                  go_wp2_with fail
                  go_ret3
                  unfold RDTakeP
                  rw [HR.out]
                  exact ⟨rfl, _, _, (HCR.out.drew).drew, HSE.out, (HOR.out.step (Below.refl _ _).drew).step (Below.refl _ _).drew⟩
              · have hq' : (hs == sq) = false := by simpa using hq
                have HT2 := Lib.hid (HTN.out hq)
                clear HTN HLA2 hq
                cases hd with
                | true =>
                  simp only [if_true, Nat.add_zero] at HCN
                  go_upto_region 18 with fail
                  refine Reg.wp_text (by kernel_rfl) (by kernel_rfl) ?_
                  go_wp2_with fail
                  refine Reg.fin (by kernel_rfl) ?_
                  go_upto_region 20 with fail
                  refine Reg.wp_text (by kernel_rfl) (by kernel_rfl) ?_
                  go_wp2_with fail
                  refine Reg.fin (by kernel_rfl) ?_
                  go_wp2_with fail
                  go_roundw
                  case rel => rw [HE.out]; exact ⟨j + 1, rfl, HJL.out, by rw [HCN.out], HT2.out, HBR.out.drew.drew⟩
                  case measure => have := HJL.out; rw [HE.out]; simp [intOf]; omega
                | false =>
                  simp only [Bool.false_eq_true, if_false] at HCN
                  go_upto_region 18 with fail
                  refine Reg.wp_text (by kernel_rfl) (by kernel_rfl) ?_
                  go_wp2_with fail
                  refine Reg.fin (by kernel_rfl) ?_
                  go_upto_region 20 with fail
                  refine Reg.wp_text (by kernel_rfl) (by kernel_rfl) ?_
                  go_wp2_with fail
                  refine Reg.fin (by kernel_rfl) ?_
                  go_wp2_with fail
                  go_roundw
                  case rel => rw [HE.out, HE2.out]; exact ⟨j + 1, rfl, HJL.out, by rw [HCN.out], HT2.out, HBR.out.drew.drew⟩
                  case measure => have := HJL.out; rw [HE.out]; simp [intOf]; omega
            · skip
              obtain rfl : j = cL.length := by have := HJ.out; omega
              have hjl' : ¬ ((cL.length : Nat) : Int) < (cL.length : Int) := by omega
              have HNN : Hid (lookH cL sq = none) := Lib.hid (lookH_no (by have := HNO.out; rwa [List.take_length] at this))
              rw [List.take_length]
              have HHN2 := Lib.hid (HHN.out HNN.out)
              have HCL : Hid (cL.length ≤ 100000) := Lib.hid HLC.out.1
              by_cases hbz : 64 ≤ cntD false cL
              · have HR := Lib.hid (HTK.out _ (HHN2.out.trans (if_pos hbz)))
                have hbz' : (64 : Int) ≤ ((cntD false cL : Nat) : Int) := by omega
                clear hbz
                generalize cntD false cL = cn at *
                go_wp2_with fail
                go_ret3
                unfold RDTakeP
                rw [HR.out]
                exact ⟨rfl, _, _, HCR.out, HSE.out, HOR.out⟩
              · have HR := Lib.hid (HTK.out _ (HHN2.out.trans (if_neg hbz)))
                have hbz' : ¬ (64 : Int) ≤ ((cntD false cL : Nat) : Int) := by omega
                clear hbz
                generalize cntD false cL = cn at *
                have x3f := HQR.out.frozen
                have HBZ : Hid (B0 ≤ wr.heap.size) := Lib.hid (by have := HCR.out.ge; have := HCR.out.blk.lt; omega)
                clear HHN HHN2 HHE
                go_upto_region 25 with (at_builtin; refine wpl_append_row3 (ys := hcells ⟨sq, false, ⟨#[]⟩⟩) rfl rfl rfl rfl Try.underlying130 info_heard rfl rfl rfl (by decide) (by decide) HSR.out (by have := HCL.out; omega) HBZ.out (by first | rfl | simp) ?_; intro v6 w6 h6 o6 n6; obtain ⟨p6, c6, rfl⟩ := owns_slice h6; have HR6 := Lib.hid h6; have HN6 := Lib.hid n6; have HC6 := Lib.hid (HCR.out.off HMEM.out o6); have HQ6 : Hid (Blk w6 Q 132 #[.int .i64 cf, .int .u64 ci, .int .u64 cl, .slice pw cL.length cw]) := Lib.hid (HQR.out.only o6 (fun e => by obtain ⟨A', hA, _⟩ := owns_type HSR.out e; exact absurd (blk_ne hA HQR.out) (by decide))); have HP6 := Lib.hid (HPR.out.only o6 (fun e => by obtain ⟨A', hA, _⟩ := owns_type HSR.out e; exact absurd (blk_ne hA HPR.out) (by decide))); have d1 : w6.cell? ⟨Q, 3, none⟩ = some (.slice pw cL.length cw) := (by rw [HQ6.out.cell 3]; rfl); have f1 := HQ6.out.frozen 3; clear h6 o6 n6)
                have HQS : Hid (Only (· = Q) w6 (w6.setCell ⟨Q, 3, none⟩ (.slice p6 (cL.length + 1) c6))) := Lib.hid (Only.refl _ w6).set1
                have HQ7 : Hid (Blk (w6.setCell ⟨Q, 3, none⟩ (.slice p6 (cL.length + 1) c6)) Q 132 #[.int .i64 cf, .int .u64 ci, .int .u64 cl, .slice p6 (cL.length + 1) c6]) := Lib.hid (by have := HQ6.out.set 3 (.slice p6 (cL.length + 1) c6); rw [pF3] at this; exact this)
                have HC7 := Lib.hid (HC6.out.1.setq HQ6.out (fun k hk => by injection hk with hk; have e : g = k := hk; have := HGB.out.2; omega) (by have := HGB.out; omega) HQS.out)
                have HR7 := Lib.hid (owns_only HR6.out HQS.out (fun k hk e => by obtain ⟨A', hA, _⟩ := owns_type HR6.out hk; have e' : k = Q := e; subst e'; exact absurd (blk_ne hA HQ6.out) (by decide)))
                clear d1 f1 x3f x3 y1 y2
                generalize w6.setCell ⟨Q, 3, none⟩ (.slice p6 (cL.length + 1) c6) = W7 at *
                have x0 : W7.cell? ⟨Q, 0, none⟩ = some (.int .i64 cf) := by rw [HQ7.out.cell 0]; rfl
                have x1 : W7.cell? ⟨Q, 1, none⟩ = some (.int .u64 ci) := by rw [HQ7.out.cell 1]; rfl
                have x2 : W7.cell? ⟨Q, 2, none⟩ = some (.int .u64 cl) := by rw [HQ7.out.cell 2]; rfl
                have x3 : W7.cell? ⟨Q, 3, none⟩ = some (.slice p6 (cL.length + 1) c6) := by rw [HQ7.out.cell 3]; rfl
                have c0 : W7.cell? ⟨r, 0, none⟩ = some (.slice (some ⟨g, 0, none⟩) l1.length cap) := by rw [HC7.out.1.blk.cell 0]; rfl
                have hil2 : i < l2.length := HI2.out
                have hrow7 := HC7.out.1.row
                obtain ⟨g', cap', ev, _, _, hgf, hz⟩ := owns_cells (show W7.ownsRow B0 132 4 (.slice (some ⟨g, 0, none⟩) l1.length cap) l1.length (rowsP l2) by rw [← HLN.out] at hrow7 ⊢; exact hrow7) (by have := HLN.out; omega)
                injection ev with e1
                injection e1 with e1
                injection e1 with e1
                subst e1
                have hz2 : ∀ k, k < 4 → W7.cell? ⟨g, i * 4 + k, none⟩ = (prow (⟨cf, ci, cl, cL⟩, .slice pw cL.length cw))[k]? := fun k hk => by
                  rw [hz (i * 4 + k) (by have := HLN.out; omega)]
                  exact (flat_at prow 4 (fun _ => rfl) l2 i k hil2 hk).trans (congrArg (fun z : PeV => (prow z)[k]?) HX2.out)
                have z0 : W7.cell? ⟨g, i * 4, none⟩ = some (.int .i64 cf) := hz2 0 (by decide)
                have z1 : W7.cell? ⟨g, i * 4 + 1, none⟩ = some (.int .u64 ci) := hz2 1 (by decide)
                have z2 : W7.cell? ⟨g, i * 4 + 2, none⟩ = some (.int .u64 cl) := hz2 2 (by decide)
                have z3 : W7.cell? ⟨g, i * 4 + 3, none⟩ = some (.slice pw cL.length cw) := hz2 3 (by decide)
                have HAP : Hid (∀ x ∈ l2, x.1.fr ≠ cf → ∀ k, x.2.ownBlock = some k → (Value.slice p6 (cL.length + 1) c6).ownBlock ≠ some k) := Lib.hid fun x hx hf k hk e => by
                  rcases HN6.out k e with e | e
                  · exact HCR.out.apart2 hx HMEM.out hf k hk e
                  · obtain ⟨A', hA, _, h⟩ := owns_type (HCR.out.he x hx) hk
                    omega
                have hst := HC7.out.1.store HLN.out.symm hil2 (⟨cf, ci, cl, cL ++ [⟨sq, false, ⟨#[]⟩⟩]⟩, .slice p6 (cL.length + 1) c6) (by
                  have h := HR7.out
                  have e1 : (cL ++ [(⟨sq, false, ⟨#[]⟩⟩ : He)]).length = cL.length + 1 := by simp
                  have e2 : rowsHe (cL ++ [⟨sq, false, ⟨#[]⟩⟩]) = rowsHe cL ++ hcells ⟨sq, false, ⟨#[]⟩⟩ := by unfold rowsHe; simp
                  dsimp only
                  rw [e1, e2]
                  exact h) (congrArg (fun z : PeV => z.1.fr) HX2.out).symm rfl HAP.out
                have HST := Lib.hid hst
                have HSV : Hid (peV (l2.set i (⟨cf, ci, cl, cL ++ [⟨sq, false, ⟨#[]⟩⟩]⟩, .slice p6 (cL.length + 1) c6)) = setPe (peV l1) ⟨cf, ci, cl, cL ++ [⟨sq, false, ⟨#[]⟩⟩]⟩) := Lib.hid (by
                  have h := set_at (y := (⟨cf, ci, cl, cL ++ [⟨sq, false, ⟨#[]⟩⟩]⟩, .slice p6 (cL.length + 1) c6)) HC5.out.dis hil2 (congrArg (fun z : PeV => z.1.fr) HX2.out).symm
                  rw [HSE.out] at h
                  exact h.trans (setPe_setPe rfl))
                have HFO : Hid (OnR B0 r w _) := Lib.hid (HOR.out.trans (HC6.out.2.trans (HC7.out.2.trans hst.2)))
                clear hst hz hz2 hrow7 HCR HQR HPR HSR HOR HBR hil2
                dsimp only at HST HFO
                go_region
                go_wp2_with fail
                go_ret3
                unfold RDTakeP
                rw [HR.out]
                exact ⟨rfl, _, _, HST.out.1.drew, HSV.out, HFO.out.step (Below.refl _ _).drew⟩
end
end Go.Proofs.Ytgdgonmhgpflcaa
