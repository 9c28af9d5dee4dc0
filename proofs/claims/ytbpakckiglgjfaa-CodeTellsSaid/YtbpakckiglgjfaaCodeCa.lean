
/- The walk of the document's copy of a program: 'Copy'. No condition but that rows are not too long. -/
import Derived.Test.YtbpakckiglgjfaaCodeC
import Derived.Test.YtbpakckiglgjfaaCodeZ
import Derived.Laws.OwnMore
namespace Go.Proofs.Ytbpakckiglgjfaa
open Go.RowKit Cd
set_option linter.unusedVariables false
theorem run_append_own_nil {P : Program} {w : World} (base : Nat) (t ty e : TypeId) (i : TypeInfo) (size : Nat) (ht : P.underlying t = some (.slice e)) (hi : P.info? e = some i)
    (v : Value) (n c : Nat) (xs : List Value) (hown : w.ownsRow base e size v n xs) :
    (Builtin.append_ #[t, t] ty #[v, .slice none 0 c]).run P w = .ok v w := by
  rcases hown.2 with ⟨rfl, rfl⟩ | ⟨g, cap, cur, rfl, _, _, hnc, _⟩
  · simp [Builtin.append_, run_underlying ht, sizeOf, typeInfo, hi, Builtin.lenOf, Builtin.firstCells]
  · simp [Builtin.append_, run_underlying ht, sizeOf, typeInfo, hi, Builtin.lenOf, Builtin.firstCells, hnc, storeCells]
theorem wpl_append_own_nil {P : Program} {w : World} {ops : Array Oper} {rest : List Oper} {o : Oper} {a : Act} {Q : Exit → Act → World → Prop} (hgd : o.guard = none) (s x : Operand) (t : TypeId)
    (ho : o.op = .call { callee := .builtin .append, args := #[s, x], argTypes := #[t, t] })
    (base : Nat) (e : TypeId) (i : TypeInfo) (size : Nat) (ht : P.underlying t = some (.slice e)) (hi : P.info? e = some i)
    (v : Value) (n c : Nat) (xs : List Value) (hs : a.eval s = v) (hown : w.ownsRow base e size v n xs) (hx : a.eval x = .slice none 0 c)
    (h : wpList P ops Q rest (a.put o.dst v) w) : wpList P ops Q (o :: rest) a w := by
  refine wpList_plain hgd fun K hK => ?_
  have hrun := run_append_own_nil (P := P) (w := w) base t o.type e i size ht hi v n c xs hown
  unfold Oper.wp
  simp [execOp, ho, resolve, invoke, builtin, hs, hx, hrun, Result.andThen]
  exact hK _ _ h
/-- Behind i functions. -/
structure RcW (W : World) (l : List FunV) (x : Value) (i : Nat) (v : Value) (wr : World) : Prop where
  t0 : Blk wr W.heap.size 24 #[x]
  t1 : Blk wr (W.heap.size + 1) 24 #[.slice none 0 0]
  t2 : Blk wr (W.heap.size + 2) 24 #[v]
  row : FunsRow wr W.heap.size v (l.take i)
  bel : Below W.heap.size W wr
def RcRel (W : World) (l : List FunV) (x u : Value) (wr : World) : Prop := ∃ i v, i ≤ l.length ∧ u = .int .i64 (i : Nat) ∧ RcW W l x i v wr
/-- The ops' row behind the append: of the call's own, and what else. -/
structure RcB (W wr : World) (f : FunV) (F : Nat) (wc : World) : Prop where
  ex : ∃ p5 c5, Blk wc F 41 #[.int .i64 f.args, .int .i64 f.regs, .slice p5 f.ops.length c5] ∧ wc.ownsRow W.heap.size 43 5 (.slice p5 f.ops.length c5) f.ops.length (rowsO f.ops)
  bel : Below wr.heap.size wr wc
set_option maxRecDepth 100000 in
set_option maxHeartbeats 8000000 in
theorem rcopy_any {l : List FunV} {W : World} {x : Value} (hx : FunsAt W x l) (hl : Lim l) : Calls Try.prog 19 #[.agg #[x]] W (CopyPost W l) := by
  have HV := Lib.hid hx
  have HLL := Lib.hid hl.2
  have hl60 := hl.1
  have HB0 := Lib.hid ((((Below.refl _ W).alloc (Nat.le_refl _) (.cells #[x] 24)).alloc (by simp) (.cells #[.slice none 0 0] 24)).alloc (by simp; omega) (.cells #[.slice none 0 0] 24))
  have HT0 := Lib.hid (((Blk.new W 24 #[x]).alloc (.cells #[.slice none 0 0] 24)).alloc (.cells #[.slice none 0 0] 24))
  have HT1 := Lib.hid ((Blk.new2 W (.cells #[x] 24) 24 #[.slice none 0 0]).alloc (.cells #[.slice none 0 0] 24))
  have HT2 : Hid (Blk (((W.alloc (.cells #[x] 24)).alloc (.cells #[.slice none 0 0] 24)).alloc (.cells #[.slice none 0 0] 24)) (W.heap.size + 2) 24 #[.slice none 0 0]) := Lib.hid (by
    have := Blk.new ((W.alloc (.cells #[x] 24)).alloc (.cells #[.slice none 0 0] 24)) 24 #[.slice none 0 0]
    simpa using this)
  obtain ⟨p, cap, rfl⟩ := hx.slice
  clear hx hl
  obtain ⟨i1, hi1, hi2, hi3, hi4⟩ := info_parts info_op
  have HII := Lib.hid (And.intro hi1 (And.intro hi2 (And.intro hi3 hi4)))
  clear hi1 hi2 hi3 hi4
  go_enter Try.func19, Try.ntmps19
  go_wp2
  have hz0 : RcRel W l (.slice p l.length cap) (.int .i64 0) (((W.alloc (.cells #[.slice p l.length cap] 24)).alloc (.cells #[.slice none 0 0] 24)).alloc (.cells #[.slice none 0 0] 24)) := ⟨0, .slice none 0 0, by omega, rfl, HT0.out, HT1.out, HT2.out, FunsRow.nil _ _, HB0.out⟩
  clear HB0 HT0 HT1 HT2
  generalize ((W.alloc (.cells #[.slice p l.length cap] 24)).alloc (.cells #[.slice none 0 0] 24)).alloc (.cells #[.slice none 0 0] 24) = w0 at *
  go_loopw [4] (fun u wr => RcRel W l (.slice p l.length cap) u wr) (fun u _ => ((l.length : Int) - intOf u).toNat)
  case atStart => exact hz0
  case round =>
    clear hz0
    obtain ⟨i, v, hi1, rfl, hC⟩ := hrel
    have HC := Lib.hid hC
    have z0 : wr.cell? ⟨W.heap.size, 0, none⟩ = some (.slice p l.length cap) := hC.t0.cell 0
    have hlt := hC.t2.lt
    by_cases hi : i < l.length
    · obtain ⟨p', c', e1, hy⟩ := HV.out
      injection e1 with e1 e2 e3
      subst e1 e3
      obtain ⟨g, off, rfl, hg, hy⟩ := hy (by omega)
      obtain ⟨x0, x1, vo, x2, hvo⟩ := hy i hi
      rw [← hC.bel.cell (p := ⟨g, _, none⟩) hg] at x0 x1 x2
      have hvo := hvo.below (hC.bel.mono (B' := W.heap.size) (Nat.le_refl _))
      obtain ⟨pj, cj, rfl⟩ := hvo.slice
      have hgl : g < wr.heap.size := Nat.lt_of_lt_of_le hg hC.bel.size
      have hki : (i : Int) < (l.length : Int) := by omega
      have hki0 : (0 : Int) ≤ (i : Int) := by omega
      have hfl := HLL.out _ (List.getElem_mem hi)
      have htk : l.take (i + 1) = l.take i ++ [l[i]] := by rw [List.take_succ_eq_append_getElem hi]
      have HTK := Lib.hid htk
      have hml : (l.take i).length = i := by rw [List.length_take]; omega
      have HROW := Lib.hid hC.row
      obtain ⟨pv, cv, rfl⟩ := hC.row.slice
      have HVO := Lib.hid hvo
      clear htk hy hvo hC
      generalize l[i] = fa at *
      generalize l.take i = m at *
      have HML := Lib.hid hml
      clear hml
      have HBW := HC.out.bel
      go_upto_block 1 with fail
      go_cut [4] (fun k wc => k = .int .i64 (i : Nat) ∧ ∃ v', RcW W l (.slice (some ⟨g, off, none⟩) l.length cap) (i + 1) v' wc)
      case first =>
        clear HV HLL
        obtain ⟨a0, a1, al⟩ := fa
        simp only at x0 x1 x2 HVO hfl
        have hown : ∀ z, ((wr.alloc (.cells #[.int .i64 a0, .int .i64 a1, z] 41)).alloc (.cells #[] 43)).ownsRow W.heap.size 43 5 (.slice (some ⟨wr.heap.size + 1, 0, none⟩) 0 0) 0 [] :=
          fun z => ⟨rfl, .inr ⟨wr.heap.size + 1, 0, #[], rfl, by omega, Blk.new2 _ _ _ _, Nat.le_refl _, Nat.zero_le _, rfl, rfl⟩⟩
        have hB7 : ∀ z, Below wr.heap.size wr ((wr.alloc (.cells #[.int .i64 a0, .int .i64 a1, z] 41)).alloc (.cells #[] 43)) := fun z => ((Below.refl _ wr).alloc (Nat.le_refl _) _).alloc (by simp) _
        have hF7 := (Blk.new wr 41 #[.int .i64 a0, .int .i64 a1, .slice pj al.length cj]).alloc (.cells #[] 43)
        have HOWN := Lib.hid hown
        have HB7 := Lib.hid hB7
        have HF7 := Lib.hid hF7
        clear hown hB7 hF7
        go_upto_region 6 with fail
        go_cut [] (fun wc => RcB W wr ⟨a0, a1, al⟩ wr.heap.size wc)
        case first =>
          clear x0 x1 x2 z0
          cases pj with
          | none => as_aux_lemma =>
            have h0 : al = [] := by
              obtain ⟨q, cq, e1, hq⟩ := HVO.out
              rcases Nat.eq_zero_or_pos al.length with h | h
              · exact List.eq_nil_of_length_eq_zero h
              · obtain ⟨g', off', e2, _⟩ := hq h
                injection e1 with e1 _ _
                rw [← e1] at e2
                cases e2
            subst h0
            clear HVO
            go_wp2_with (at_builtin; refine wpl_append_own_nil rfl _ _ _ rfl W.heap.size 43 i1 5 Try.underlying39 HII.out.1 _ 0 cj [] rfl (HOWN.out _) rfl ?_)
            all_goals go_meet
            all_goals exact ⟨⟨_, _, (Blk.new wr _ _).alloc _, HOWN.out _⟩, HB7.out _⟩
          | some aj => as_aux_lemma =>
            have hxs := opsAt_xs HVO.out rfl
            have hnews : ∀ j u, (rowsO al)[j]? = some u → ((wr.alloc (.cells #[.int .i64 a0, .int .i64 a1, .slice (some aj) al.length cj] 41)).alloc (.cells #[] 43)).cell? (aj.add j) = some u := by
              intro j u hj
              have hlt : j < (rowsO al).length := (List.getElem?_eq_some_iff.1 hj).1
              obtain ⟨g5, off5, e, hg5, hc⟩ := hxs (by rcases Nat.eq_zero_or_pos al.length with h | h
                                                       · rw [List.eq_nil_of_length_eq_zero h] at hlt; simp [rowsO] at hlt
                                                       · exact h)
              injection e with e
              subst e
              have hadd : (⟨g5, off5, none⟩ : Addr).add j = ⟨g5, off5 + j, none⟩ := by unfold Addr.add; split <;> simp_all
              rw [hadd, (HB7.out _).cell (p := ⟨g5, _, none⟩) hg5]
              exact hc j u hj
            have hrl : (rowsO al).length = al.length * 5 := Lea.flat_len (fun o : OpV => (opA o).toList) 5 (fun o => rfl) al
            have HNEW := Lib.hid hnews
            have HRL := Lib.hid hrl
            clear hnews hxs hrl
            go_wp2_with (at_builtin; refine wpList_append_own _ rfl _ _ _ rfl W.heap.size 43 i1 _ 5 _ Try.underlying39 HII.out.1 HII.out.2.1 HII.out.2.2.1 HII.out.2.2.2 rfl (by decide) _ 0 [] rfl (HOWN.out _) aj al.length cj (rowsO al) rfl HRL.out HNEW.out (rowsO_one al) (by unfold maxLen; omega) (by omega) (by simp; omega) ?_; intro v5 w5 h5 g5 _; rw [Nat.zero_add, List.nil_append] at h5; obtain ⟨p5, c5, rfl⟩ := owns_slice h5; have O5 : Only (· = wr.heap.size + 1) _ w5 := ⟨g5.os, g5.tape, g5.output, g5.size, fun k hk hne => g5.block k hk (by intro h; exact hne (Option.some.inj h))⟩; have HF5 := Lib.hid (HF7.out.only O5 (by omega)); have HB5 := Lib.hid ((HB7.out _).trans (O5.below (B := wr.heap.size) (HB7.out _).size (fun k hk => by omega))); have H5 := Lib.hid h5; have e2 : w5.cell? ⟨wr.heap.size, 2, none⟩ = some (.slice (some aj) al.length cj) := HF5.out.cell 2; have ef : ∀ o, w5.frozen? ⟨wr.heap.size, o, none⟩ = false := HF5.out.frozen; clear h5 g5 O5)
            all_goals go_meet
            all_goals exact ⟨⟨_, _, HF5.out.set 2 _, owns_only H5.out ((Only.refl (· = wr.heap.size) _).set1) (owns_ne H5.out HF5.out (by decide))⟩, HB5.out.setCell (Nat.le_refl _) _⟩
        case rest => as_aux_lemma =>
          obtain ⟨⟨p5, c5, hF6, h6⟩, hb6⟩ := hcut
          obtain ⟨w6, rfl⟩ : ∃ w6, w6 = wc := ⟨_, rfl⟩
          have HF6 := Lib.hid hF6
          have H6 := Lib.hid h6
          have BEL6 := Lib.hid hb6
          clear hF6 h6 hb6 HF7 HOWN HB7
          have HX2 := Lib.hid (HC.out.t2.below BEL6.out)
          have z2 : w6.cell? ⟨W.heap.size + 2, 0, none⟩ = some (.slice pv m.length cv) := HX2.out.cell 0
          have f2 : ∀ o, w6.frozen? ⟨W.heap.size + 2, o, none⟩ = false := HX2.out.frozen
          have d0 : w6.cell? ⟨wr.heap.size, 0, none⟩ = some (.int .i64 a0) := HF6.out.cell 0
          have d1 : w6.cell? ⟨wr.heap.size, 1, none⟩ = some (.int .i64 a1) := HF6.out.cell 1
          have d2 : w6.cell? ⟨wr.heap.size, 2, none⟩ = some (.slice p5 al.length c5) := HF6.out.cell 2
          obtain ⟨vs, hv1, hv2, hv3⟩ := HROW.out.below BEL6.out
          have HV1 := Lib.hid hv1
          have HV2 := Lib.hid hv2
          have HV3 := Lib.hid hv3
          have HX0 := Lib.hid (HC.out.t0.below BEL6.out)
          have HX1 := Lib.hid (HC.out.t1.below BEL6.out)
          have HBq := Lib.hid (HC.out.bel.trans (BEL6.out.mono HC.out.bel.size))
          have hm60 : m.length < 2147483648 := by have := HML.out; omega
          clear hv1 hv2 hv3 HROW HBW x0 x1 x2 z0
          go_wp2_with (at_builtin; refine wpl_append_row2 rfl rfl rfl rfl Try.underlying22 info_fun rfl rfl rfl (by decide) (by decide) HV2.out hm60 HBq.out.size (by first | rfl | simp) ?_; intro v9 w9 h9 o9; have HP0 := Lib.hid (HX0.out.only o9 (fun h => owns_ne HV2.out HX0.out (by decide) _ h rfl)); have HP1 := Lib.hid (HX1.out.only o9 (fun h => owns_ne HV2.out HX1.out (by decide) _ h rfl)); have HP2 := Lib.hid (HX2.out.only o9 (fun h => owns_ne HV2.out HX2.out (by decide) _ h rfl)); have HB9 := Lib.hid (HBq.out.trans (o9.below (B := W.heap.size) HBq.out.size (fun k hk => (owns_type HV2.out hk).choose_spec.2.1))); obtain ⟨p9, c9, rfl⟩ := owns_slice h9; have HROW9 := Lib.hid (FunsRow.snoc (f := ⟨a0, a1, al⟩) HV1.out HV2.out HV3.out H6.out h9 o9); have c9' : w9.cell? ⟨W.heap.size + 2, 0, none⟩ = some (.slice pv m.length cv) := HP2.out.cell 0; have f9 : ∀ o, w9.frozen? ⟨W.heap.size + 2, o, none⟩ = false := HP2.out.frozen; clear h9 o9 z2 d0 d1 d2)
          all_goals go_meet
          all_goals exact ⟨rfl, _, HP0.out.set_ne _ (by show _ ≠ W.heap.size + 2; omega), HP1.out.set_ne _ (by show _ ≠ W.heap.size + 2; omega), HP2.out.set 0 _, by rw [HTK.out]; exact HROW9.out.other ((Only.refl (· = W.heap.size + 2) w9).set1) HP2.out (by decide) (by decide), HB9.out.setCell (by show W.heap.size ≤ W.heap.size + 2; omega) _⟩
      case rest =>
        obtain ⟨rfl, v', hN⟩ := hcut
        have HN := Lib.hid hN
        clear hN
        go_wp2_with fail
        go_roundw
        case rel => exact ⟨i + 1, v', by omega, rfl, HN.out⟩
        case measure => simp [intOf]; omega
    · have : i = l.length := by omega
      subst this
      have hrow := hC.row
      rw [List.take_length] at hrow
      obtain ⟨pv, cv, rfl⟩ := hrow.slice
      have t1 : wr.cell? ⟨W.heap.size + 1, 0, none⟩ = some (.slice none 0 0) := hC.t1.cell 0
      have t2 : wr.cell? ⟨W.heap.size + 2, 0, none⟩ = some (.slice pv l.length cv) := hC.t2.cell 0
      have tf : ∀ o, wr.frozen? ⟨W.heap.size + 1, o, none⟩ = false := hC.t1.frozen
      have HROW := Lib.hid hrow
      clear hC hrow
      go_wp2
      try simp only [Exit.inBlock, Exit.then]
      exact ret_cell (cs := #[.slice pv l.length cv]) (T := 24) rfl rfl (HC.out.t1.set 0 _) Try.underlying24 rfl (by kernel_rfl) rfl
        ⟨_, rfl, HROW.out.other ((Only.refl (· = W.heap.size + 1) wr).set1) HC.out.t1 (by decide) (by decide), HC.out.bel.setCell (by simp) _⟩
end Go.Proofs.Ytbpakckiglgjfaa
