import Derived.Test.YtlahficmkfgooaaGreatMgf

/- The walk of the program's reader of an op: 'read'. No condition. -/
namespace Go.Proofs.YtlahficmkfgooaaGreat
open Go.RowKit Cd Wire
set_option linter.unusedVariables false
theorem only_undrew {S : Nat → Prop} {w w' : World} (h : Only S w.drew w') : Only S w w' := ⟨h.os, h.tape, h.output, h.size, h.block⟩
/-- Behind j parts: the op in block t, the reader in block b. -/
structure RdW (w : World) (b t : Nat) (r : RS) (j : Nat) (wr : World) : Prop where
  o : Blk wr t 170 (opA (ptF r j))
  p : PR wr b (ptS r j).s (ptS r j).e
  only : Only (· = b) w wr
theorem RdW.grow {w : World} {b t : Nat} {r : RS} {j : Nat} {wr w' : World} (h : RdW w b t r j wr) (hb : Below wr.heap.size wr w') : RdW w b t r j w' := ⟨h.o.below hb, h.p.below hb, h.only.step hb⟩
theorem RdW.alloc {w : World} {b t : Nat} {r : RS} {j : Nat} {wr : World} (h : RdW w b t r j wr) (o : Obj) : RdW w b t r j (wr.alloc o) := h.grow ((Below.refl _ _).alloc (Nat.le_refl _) o)
def RCut (w : World) (b t : Nat) (r : RS) (p q : Value) (wc : World) : Prop := ∃ bp, (∃ kk, p = .bool kk ∧ kk = known (uV 255 r)) ∧ q = .pointer (some ⟨bp, 0, none⟩) ∧ bp ≠ b ∧ bp ≠ t ∧ Blk wc bp 183 #[.bool (kd (uV 255 r)), .bool (ka (uV 255 r)), .bool (kb (uV 255 r)), .bool (kn (uV 255 r))] ∧ RdW w b t r 0 wc
theorem uint_st {b : Nat} {r : RS} {w : World} (h : PR w b r.s r.e) (most : Int) : Calls Tryz.prog 39 #[.pointer (some ⟨b, 0, none⟩), .int .u64 most] w (NumPost b w (uV most r) (uS most r).s (uS most r).e) := puint_any h most
theorem count_st {b : Nat} {r : RS} {w : World} (h : PR w b r.s r.e) (most : Int) (hm : I64 most) : Calls Tryz.prog 38 #[.pointer (some ⟨b, 0, none⟩), .int .i64 most] w (IntPost b w (cV most r) (cS most r).s (cS most r).e) := pcount_any h most hm
theorem int_st {b : Nat} {r : RS} {w : World} (h : PR w b r.s r.e) : Calls Tryz.prog 41 #[.pointer (some ⟨b, 0, none⟩), .int .i64 (-9223372036854775808), .int .i64 9223372036854775807] w (IntPost b w (iV r) (iS r).s (iS r).e) := pint_any h _ _
def RLoop (w w2 : World) (b t : Nat) (r : RS) (u : Value) (wr : World) : Prop := ∃ j : Nat, j ≤ 3 ∧ u = .int .i64 j ∧ RdW w b t r j wr ∧ Only (fun k => k = b ∨ k = t) w2 wr
def PCut7 (w w3 : World) (b t : Nat) (r : RS) (j : Nat) (wc : World) : Prop := RdW w b t r (j + 1) wc ∧ Only (fun k => k = b ∨ k = t) w3 wc
structure TCut (w : World) (b t : Nat) (r : RS) (wc : World) : Prop where
  o : Blk wc t 170 (opA (roV r))
  p : PR wc b (roS r).s (roS r).e
  only : Only (· = b) w wc
def RdPost (w : World) (b : Nat) (r : RS) (e : Ending) (w' : World) : Prop := ∃ o is, e = .returned (.tuple #[.agg (opA o), .bool is]) ∧ o = roV r ∧ is = roB r ∧ PR w' b (roS r).s (roS r).e ∧ Only (· = b) w w'
theorem self_store {w wn : World} {b t : Nat} {s : ByteArray} {e ok od oa ob on : Int} {T : TypeId} (hT : Blk wn t T #[.int .u8 ok, .int .i64 od, .int .i64 oa, .int .i64 ob, .int .i64 on]) (hP : PR wn b s e) (hO : Only (· = b) w wn) (h1 : w.heap.size ≤ t) (h2 : b ≠ t) :
    Blk (((((wn.setCell ⟨t, 0, none⟩ (.int .u8 ok)).setCell ⟨t, 1, none⟩ (.int .i64 od)).setCell ⟨t, 2, none⟩ (.int .i64 oa)).setCell ⟨t, 3, none⟩ (.int .i64 ob)).setCell ⟨t, 4, none⟩ (.int .i64 on)) t T #[.int .u8 ok, .int .i64 od, .int .i64 oa, .int .i64 ob, .int .i64 on] ∧
    PR (((((wn.setCell ⟨t, 0, none⟩ (.int .u8 ok)).setCell ⟨t, 1, none⟩ (.int .i64 od)).setCell ⟨t, 2, none⟩ (.int .i64 oa)).setCell ⟨t, 3, none⟩ (.int .i64 ob)).setCell ⟨t, 4, none⟩ (.int .i64 on)) b s e ∧
    Only (· = b) w (((((wn.setCell ⟨t, 0, none⟩ (.int .u8 ok)).setCell ⟨t, 1, none⟩ (.int .i64 od)).setCell ⟨t, 2, none⟩ (.int .i64 oa)).setCell ⟨t, 3, none⟩ (.int .i64 ob)).setCell ⟨t, 4, none⟩ (.int .i64 on)) :=
  ⟨((((hT.set 0 _).set 1 _).set 2 _).set 3 _).set 4 _, ⟨((((hP.blk.set_ne _ h2).set_ne _ h2).set_ne _ h2).set_ne _ h2).set_ne _ h2, hP.sz⟩,
    ((((hO.setCell (Or.inr h1) _).setCell (Or.inr h1) _).setCell (Or.inr h1) _).setCell (Or.inr h1) _).setCell (Or.inr h1) _⟩
set_option maxRecDepth 100000 in
set_option maxHeartbeats 8000000 in
theorem read_any {b : Nat} {r : RS} {w : World} (h : PR w b r.s r.e) : Calls Tryz.prog 105 #[.pointer (some ⟨b, 0, none⟩)] w (RdPost w b r) := by
  have hbt : b < w.heap.size := h.blk.lt
  have HU : Hid (Calls _ _ _ _ (NumPost b (w.alloc (.cells #[.int .u8 0, .int .i64 0, .int .i64 0, .int .i64 0, .int .i64 0] 170)) (uV 255 r) (uS 255 r).s (uS 255 r).e)) := Lib.hid (puint_any (h.alloc (.cells #[.int .u8 0, .int .i64 0, .int .i64 0, .int .i64 0, .int .i64 0] 170)) 255)
  have hr := uV_range (most := 255) (r := r) (by omega)
  have HT := Lib.hid (Blk.new w 170 #[.int .u8 0, .int .i64 0, .int .i64 0, .int .i64 0, .int .i64 0])
  have HO := Lib.hid ((Only.refl (· = b) w).alloc (.cells #[.int .u8 0, .int .i64 0, .int .i64 0, .int .i64 0, .int .i64 0] 170))
  have ew : IntKind.u8.wrap (uV 255 r) = uV 255 r := by rw [IntKind.wrap_u8]; omega
  have HK := Lib.hid (show U8 (uV 255 r) by unfold U8; omega)
  clear h
  generalize hKK : uV 255 r = K at HU hr ew HK
  clear hr
  have hKK := Lib.hid hKK
  go_enter Tryz.func105, Tryz.ntmps105
  go_upto_region 2 with (go_at_call 39; ((with_reducible refine HU.out.mono ?_); rintro e w1 ⟨rfl, hP, hO⟩; have HT1 := Lib.hid (HT.out.only hO (by omega)); have c0 : w1.cell? ⟨w.heap.size, 0, none⟩ = some (.int .u8 0) := HT1.out.cell 0; have f0 : ∀ o, w1.frozen? ⟨w.heap.size, o, none⟩ = false := HT1.out.frozen; have HP1 := Lib.hid hP; have HO1 := Lib.hid (HO.out.trans hO); clear hP hO))
  have HR0 : RdW w b w.heap.size r 0 (w1.setCell ⟨w.heap.size, 0, none⟩ (.int .u8 K)) := ⟨by show Blk _ _ _ (opA ⟨uV 255 r, 0, 0, 0, 0⟩); rw [hKK.out]; exact HT1.out.set 0 _, ⟨HP1.out.blk.set_ne _ (by simp; omega), HP1.out.sz⟩, HO1.out.setCell (Or.inr (Nat.le_refl _)) _⟩
  have HR := Lib.hid HR0
  clear HU HT HO HT1 HP1 HO1 c0 f0 HR0 ew
  generalize w1.setCell ⟨w.heap.size, 0, none⟩ (.int .u8 K) = wx at *
  go_cut [3, 4] (fun p q wc => RCut w b w.heap.size r p q wc)
  case first => as_aux_lemma =>
    have eo : opA (ptF r 0) = #[.int .u8 K, .int .i64 0, .int .i64 0, .int .i64 0, .int .i64 0] := by show opA ⟨uV 255 r, 0, 0, 0, 0⟩ = _; rw [hKK.out]; rfl
    have hTT := HR.out.o
    rw [eo] at hTT
    have c0 : wx.cell? ⟨w.heap.size, 0, none⟩ = some (.int .u8 K) := hTT.cell 0
    have hlt := hTT.lt
    have HT := Lib.hid hTT
    clear hTT eo
    have htt : w.heap.size ≠ b := by omega
    go_region_with (go_at_call 115; ((with_reducible refine (has_any _).mono ?_); rintro e w9 ⟨bm, rfl, hL, hB0⟩; have hB := below_undrew hB0; clear hB0; have hTp : Blk w9 w.heap.size 170 #[.int .u8 K, .int .i64 0, .int .i64 0, .int .i64 0, .int .i64 0] := (by first | exact HT.out.below hB | exact (HT.out.alloc _).below hB); have z0 : w9.cell? ⟨w.heap.size, 0, none⟩ = some (.int .u8 K) := hTp.cell 0; have z1 : ∀ o, (w9.alloc o).cell? ⟨w.heap.size, 0, none⟩ = some (.int .u8 K) := (fun o => (hTp.alloc o).cell 0); have l0 := hL.ok HK.out; have l1 := fun o => (hL.alloc o).ok HK.out; have HL := Lib.hid hL; (try (have hTq : Blk w9 wx.heap.size 183 #[.bool false, .bool false, .bool false, .bool false] := (Blk.new wx 183 #[.bool false, .bool false, .bool false, .bool false]).below hB; have HTq := Lib.hid hTq; have q0 := hTq.cell 0; have q1 := hTq.cell 1; have q2 := hTq.cell 2; have q3 := hTq.cell 3; have qf : ∀ o, w9.frozen? ⟨wx.heap.size, o, none⟩ = false := hTq.frozen; clear hTq)); have HB := Lib.hid hB; clear hL hB hTp))
    all_goals (go_wp2_with fail; go_meet)
    all_goals first
      | exact ⟨_, ⟨_, rfl, by rw [hKK.out]⟩, rfl, by have := HB.out.size; omega, by have := HB.out.size; omega, by rw [hKK.out]; exact Blk.new _ _ _, HR.out.grow (HB.out.alloc HB.out.size _)⟩
      | exact ⟨_, ⟨_, rfl, by rw [hKK.out]⟩, rfl, by omega, by omega, by rw [hKK.out]; exact (((HTq.out.set 0 _).set 1 _).set 2 _).set 3 _, HR.out.grow (by
          have h1 := ((Below.refl wx.heap.size wx).alloc (Nat.le_refl _) (.cells #[.bool false, .bool false, .bool false, .bool false] 183)).step HB.out
          exact (((h1.setCell (Nat.le_refl _) _).setCell (Nat.le_refl _) _).setCell (Nat.le_refl _) _).setCell (Nat.le_refl _) _)⟩
  case rest =>
    obtain ⟨bp, ⟨kk, rfl, hkk⟩, rfl, hne1, hne2, hP, hR⟩ := hcut
    rw [hKK.out] at hP hkk
    have y0 : wc.cell? ⟨bp, 0, none⟩ = some (.bool (kd K)) := hP.cell 0
    have y1 : wc.cell? ⟨bp, 1, none⟩ = some (.bool (ka K)) := hP.cell 1
    have y2 : wc.cell? ⟨bp, 2, none⟩ = some (.bool (kb K)) := hP.cell 2
    have hlt := hP.lt
    have hlt2 := hR.o.lt
    have HKKK := Lib.hid hkk
    have HR0 : RdW w b w.heap.size r 0 (wc.alloc (.cells #[.bool (kd K), .pointer (some ⟨w.heap.size, 1, none⟩), .bool (ka K), .pointer (some ⟨w.heap.size, 2, none⟩), .bool (kb K), .pointer (some ⟨w.heap.size, 3, none⟩)] 188)) := hR.alloc _
    have HE := Lib.hid (Blk.new wc 188 #[.bool (kd K), .pointer (some ⟨w.heap.size, 1, none⟩), .bool (ka K), .pointer (some ⟨w.heap.size, 2, none⟩), .bool (kb K), .pointer (some ⟨w.heap.size, 3, none⟩)])
    have HP := Lib.hid (hP.alloc (.cells #[.bool (kd K), .pointer (some ⟨w.heap.size, 1, none⟩), .bool (ka K), .pointer (some ⟨w.heap.size, 2, none⟩), .bool (kb K), .pointer (some ⟨w.heap.size, 3, none⟩)] 188))
    clear HR hP hR hkk
    go_wp2_with fail
    have hgb : wc.heap.size ≠ b ∧ wc.heap.size ≠ w.heap.size := by omega
    have hz0 : RLoop w (wc.alloc (.cells #[.bool (kd K), .pointer (some ⟨w.heap.size, 1, none⟩), .bool (ka K), .pointer (some ⟨w.heap.size, 2, none⟩), .bool (kb K), .pointer (some ⟨w.heap.size, 3, none⟩)] 188)) b w.heap.size r (.int .i64 0) (wc.alloc (.cells #[.bool (kd K), .pointer (some ⟨w.heap.size, 1, none⟩), .bool (ka K), .pointer (some ⟨w.heap.size, 2, none⟩), .bool (kb K), .pointer (some ⟨w.heap.size, 3, none⟩)] 188)) := ⟨0, by omega, rfl, HR0, Only.refl _ _⟩
    clear HR0 y0 y1 y2
    generalize wc.alloc (.cells #[.bool (kd K), .pointer (some ⟨w.heap.size, 1, none⟩), .bool (ka K), .pointer (some ⟨w.heap.size, 2, none⟩), .bool (kb K), .pointer (some ⟨w.heap.size, 3, none⟩)] 188) = w2 at *
    generalize wc.heap.size = g at *
    generalize htt : w.heap.size = t at *
    go_loopw [32] (fun u wr => RLoop w w2 b t r u wr) (fun u _ => ((3 : Int) - intOf u).toNat)
    case atStart => exact hz0
    case round =>
      obtain ⟨j, hj1, rfl, hR, ho⟩ := hrel
      clear hz0
      by_cases hj : j < 3
      · have he := HE.out.only ho (by omega)
        have x0 : wr.cell? ⟨g, j * 2, none⟩ = some (.bool (hasE K j)) := by
          rw [he.cell]
          have : j = 0 ∨ j = 1 ∨ j = 2 := by omega
          rcases this with rfl | rfl | rfl <;> rfl
        have x1 : wr.cell? ⟨g, j * 2 + 1, none⟩ = some (.pointer (some ⟨t, j + 1, none⟩)) := by
          rw [he.cell]
          have : j = 0 ∨ j = 1 ∨ j = 2 := by omega
          rcases this with rfl | rfl | rfl <;> rfl
        have HRr := Lib.hid hR
        have HOr := Lib.hid ho
        clear hR ho he
        cases hi : hasE K j with
        | true =>
          rw [hi] at x0
          have hq1 : hasE (uV 255 r) j = true := by rw [hKK.out]; exact hi
          have hS : ptS r (j + 1) = uS 16 (ptS r j) := by show (if hasE (uV 255 r) j = true then _ else _) = _; rw [if_pos hq1]
          have hF : ptF r (j + 1) = setE (ptF r j) j (uV 16 (ptS r j)) := by show (if hasE (uV 255 r) j = true then _ else _) = _; rw [if_pos hq1]
          clear hi hq1
          have hX := uV_range (most := 16) (r := ptS r j) (by omega)
          have HU := Lib.hid (fun w (h : PR w b (ptS r j).s (ptS r j).e) => uint_st (r := ptS r j) h 16)
          obtain ⟨z, hz⟩ : ∃ z, (opA (ptF r j))[j + 1]? = some z := ⟨_, Array.getElem?_eq_getElem (show j + 1 < (opA (ptF r j)).size from by simp [opA]; omega)⟩
          have hset := opA_setE (ptF r j) hj (uV 16 (ptS r j))
          rw [← hF] at hset
          rw [← hS] at HU
          have HSET := Lib.hid hset
          have HZ := Lib.hid hz
          clear hF hset hz
          generalize uV 16 (ptS r j) = x at *
          have ew : IntKind.i64.wrap x = x := by rw [IntKind.wrap_i64]; omega
          have hbl := HRr.out.p.blk.lt
          have htl := HRr.out.o.lt
          have HEE := Lib.hid (Blk.new wr 188 #[.bool true, .pointer (some ⟨t, j + 1, none⟩)])
          clear HP HE
          go_upto_block 1 with fail
          go_cut [] (fun wc => PCut7 w w2 b t r j wc)
          case first => as_aux_lemma =>
            go_upto_region 7 with fail
            clear x0 x1
            go_region_with (go_at_call 39; ((with_reducible refine (HU.out _ (by exact (HRr.out.p.alloc _).drew)).mono ?_); rintro e w9 ⟨rfl, hP9, hO9⟩; have o9 := only_undrew hO9; have hq := HEE.out.only o9 (by omega); have q1 : w9.cell? ⟨wr.heap.size, 1, none⟩ = some (.pointer (some ⟨t, j + 1, none⟩)) := hq.cell 1; have hT9 := (HRr.out.o.alloc (.cells #[.bool true, .pointer (some ⟨t, j + 1, none⟩)] 188)).only o9 (by omega); have q2 : w9.cell? ⟨t, j + 1, none⟩ = some z := (by rw [hT9.cell]; exact HZ.out); have qf : ∀ o, w9.frozen? ⟨t, o, none⟩ = false := hT9.frozen; have HT9 := Lib.hid hT9; have HP9 := Lib.hid hP9; have HO9 := Lib.hid o9; clear hO9 o9 hq hT9 hP9))
            all_goals (go_wp2_with fail; go_meet)
            all_goals exact ⟨⟨by rw [← HSET.out]; exact HT9.out.set _ _, ⟨HP9.out.blk.set_ne _ (by simp; omega), HP9.out.sz⟩, ((HRr.out.only.alloc _).trans HO9.out).setCell (Or.inr (by simp; omega)) _⟩, ((HOr.out.alloc _).trans (HO9.out.mono fun k _ h => Or.inl h)).setCell (Or.inl (Or.inr rfl)) _⟩
          case rest =>
            obtain ⟨hN, hO⟩ := hcut
            have HN := Lib.hid hN
            have HO := Lib.hid hO
            clear hN hO
            go_wp2_with fail
            go_roundw
            case rel => exact ⟨j + 1, by omega, rfl, HN.out, HO.out⟩
            case measure => simp [intOf]; omega
        | false =>
          rw [hi] at x0
          have hq1 : hasE (uV 255 r) j = false := by rw [hKK.out]; exact hi
          have hS : ptS r (j + 1) = ptS r j := by show (if hasE (uV 255 r) j = true then _ else _) = _; rw [hq1]; rfl
          have hF : ptF r (j + 1) = ptF r j := by show (if hasE (uV 255 r) j = true then _ else _) = _; rw [hq1]; rfl
          have HN : RdW w b t r (j + 1) wr := ⟨by rw [hF]; exact HRr.out.o, by rw [hS]; exact HRr.out.p, HRr.out.only⟩
          have HNN := Lib.hid HN
          clear hi hq1 hS hF HN HP HE HRr
          go_wp2_with fail
          go_roundw
          case rel => exact ⟨j + 1, by omega, rfl, HNN.out.alloc _, HOr.out.alloc _⟩
          case measure => simp [intOf]; omega
      · have : j = 3 := by omega
        subst this
        have y3 : wr.cell? ⟨bp, 3, none⟩ = some (.bool (kn K)) := (HP.out.only ho (by omega)).cell 3
        have hbl := hR.p.blk.lt
        have htl := hR.o.lt
        have HRr := Lib.hid hR
        clear hR ho hj hj1 HP HE
        go_upto_if 46 with fail
        go_cut [] (fun wc => TCut w b t r wc)
        case first =>
          cases hk : kn K with
          | true => as_aux_lemma =>
            rw [hk] at y3
            have hq : kn (uV 255 r) = true := by rw [hKK.out]; exact hk
            have e1 : roS r = iS (ptS r 3) := by unfold roS; rw [if_pos hq]
            have e2 : roV r = { ptF r 3 with n := iV (ptS r 3) } := by unfold roV; rw [if_pos hq]
            have HI := Lib.hid (int_st (r := ptS r 3) HRr.out.p)
            rw [← e1] at HI
            clear hk hq e1
            have E2 := Lib.hid e2
            clear e2
            generalize iV (ptS r 3) = x at *
            go_wp2_with (go_at_call 41; ((with_reducible refine HI.out.mono ?_); rintro e w9 ⟨rfl, hP9, hO9⟩; have HP9 := Lib.hid hP9; have HO9 := Lib.hid hO9; have HT9 := Lib.hid (HRr.out.o.only hO9 (by omega)); have c4 : w9.cell? ⟨t, 4, none⟩ = some (.int .i64 (ptF r 3).n) := HT9.out.cell 4; have f4 : ∀ o, w9.frozen? ⟨t, o, none⟩ = false := HT9.out.frozen; clear hP9 hO9))
            all_goals go_meet
            all_goals exact ⟨by rw [E2.out]; exact HT9.out.set 4 _, ⟨HP9.out.blk.set_ne _ (by simp; omega), HP9.out.sz⟩, (HRr.out.only.trans HO9.out).setCell (Or.inr (by simp; omega)) _⟩
          | false => as_aux_lemma =>
            rw [hk] at y3
            have hq : kn (uV 255 r) = false := by rw [hKK.out]; exact hk
            have e1 : roS r = ptS r 3 := by unfold roS; rw [hq]; rfl
            have e2 : roV r = ptF r 3 := by unfold roV; rw [hq]; rfl
            have EE := Lib.hid (And.intro e1 e2)
            clear hk hq e1 e2
            go_wp2_with fail
            all_goals go_meet
            all_goals exact ⟨by rw [EE.out.2]; exact HRr.out.o, by rw [EE.out.1]; exact HRr.out.p, HRr.out.only⟩
        case rest =>
          obtain ⟨hTn, hPn, hOn⟩ := hcut
          have HTn := Lib.hid hTn
          have HPn := Lib.hid hPn
          have HOn := Lib.hid hOn
          clear hTn hPn hOn y3 HRr hbl htl
          go_upto_region 11 with fail
          generalize hwn : wc = wn at *
          have HK3 := Lib.hid HKKK.out
          have hroB : roB r = (kk && ((roS r).e == 0)) := by unfold roB; rw [hKK.out, HKKK.out]
          have HRB := Lib.hid hroB
          clear hroB HKKK HK hlt hlt2 hgb hne1 hne2
          generalize hro : roV r = ro at HTn
          have HRO := Lib.hid hro
          clear hro
          generalize hee : (roS r).e = ee at HPn HRB
          have HER := Lib.hid hee
          clear hee
          obtain ⟨ok, od, oa, ob, on⟩ := ro
          simp only [opA] at HTn
          have q0 := HTn.out.cell 0
          have q1 := HTn.out.cell 1
          have q2 := HTn.out.cell 2
          have q3 := HTn.out.cell 3
          have q4 := HTn.out.cell 4
          simp at q0 q1 q2 q3 q4
          have qf : ∀ o, wn.frozen? ⟨t, o, none⟩ = false := HTn.out.frozen
          have HQ := Lib.hid (self_store HTn.out HPn.out HOn.out (by omega) (by omega))
          cases kk with
          | true =>
            as_aux_lemma =>
            go_region_with (go_at_call 104; ((with_reducible refine (perr_any HPn.out.drew).mono ?_); rintro e w' ⟨rfl, rfl⟩))
            all_goals go_wp2_with fail
            all_goals (try simp only [Exit.inBlock, Exit.then])
            all_goals exact ret_pair (cs := #[.int .u8 ok, .int .i64 od, .int .i64 oa, .int .i64 ob, .int .i64 on]) (T := 170) (g := t) rfl rfl rfl HQ.out.1.drew Tryz.underlying170 rfl (by kernel_rfl) rfl ⟨⟨ok, od, oa, ob, on⟩, _, rfl, HRO.out.symm, HRB.out.symm, by rw [HER.out]; exact HQ.out.2.1.drew, HQ.out.2.2.drew⟩
          | false =>
            as_aux_lemma =>
            go_region
            all_goals go_wp2_with fail
            all_goals (try simp only [Exit.inBlock, Exit.then])
            all_goals exact ret_pair (cs := #[.int .u8 ok, .int .i64 od, .int .i64 oa, .int .i64 ob, .int .i64 on]) (T := 170) (g := t) rfl rfl rfl HQ.out.1.drew Tryz.underlying170 rfl (by kernel_rfl) rfl ⟨⟨ok, od, oa, ob, on⟩, _, rfl, HRO.out.symm, HRB.out.symm, by rw [HER.out]; exact HQ.out.2.1.drew, HQ.out.2.2.drew⟩
end Go.Proofs.YtlahficmkfgooaaGreat
