import Derived.Test.YtlahficmkfgooaaGreatChkB
import Derived.Test.YtlahficmkfgooaaGreatMgd
import Derived.Test.YtlahficmkfgooaaGreatMgf

/- The walk of what is the first fault of a program: 'look'; 'May', 'Input'. No condition but that rows are not too long and numbers fit their kinds. -/
namespace Go.Proofs.YtlahficmkfgooaaGreat
open Go.RowKit Cd
set_option linter.unusedVariables false
set_option linter.unusedSimpArgs false
/-- The program in block P0, the result's in P0 + 1. -/
structure LkW (W : World) (x : Value) (wr : World) : Prop where
  t0 : Blk wr W.heap.size 133 #[x]
  t1 : Blk wr (W.heap.size + 1) 174 #[.int .i64 0, .int .i64 0, .int .i64 0]
  bel : Below W.heap.size W wr
theorem LkW.step {W : World} {x : Value} {w w' : World} (h : LkW W x w) (k : Below w.heap.size w w') : LkW W x w' := ⟨h.t0.below k, h.t1.below k, h.bel.step k⟩
theorem LkW.only {W : World} {x : Value} {w w' : World} {b : Nat} (h : LkW W x w) (k : Only (· = b) w w') (hb : W.heap.size + 1 < b) : LkW W x w' := ⟨h.t0.only k (by omega), h.t1.only k (by omega), h.bel.trans (k.below h.bel.size (fun k hk => by omega))⟩
def LkRel (W : World) (l : List FunV) (x u : Value) (wr : World) : Prop := ∃ i : Nat, i ≤ l.length ∧ u = .int .i64 i ∧ (∀ j (hj : j < l.length), j < i → funE l l[j] = none) ∧ LkW W x wr
/-- In a function: it lies in block F, its fault in block F + 1; e: what is wrong so far. -/
structure LkF (W : World) (l : List FunV) (x : Value) (F i : Nat) (f : FunV) (vo : Value) (e op : Int) (wr : World) : Prop where
  lk : LkW W x wr
  f : Blk wr F 168 #[.int .i64 f.args, .int .i64 f.regs, vo]
  x : Blk wr (F + 1) 174 #[.int .i64 e, .int .i64 (i : Nat), .int .i64 op]
theorem LkF.step {W : World} {l : List FunV} {x : Value} {F i : Nat} {f : FunV} {vo : Value} {e op : Int} {w w' : World} (h : LkF W l x F i f vo e op w) (k : Below w.heap.size w w') : LkF W l x F i f vo e op w' := ⟨h.lk.step k, h.f.below k, h.x.below k⟩
/-- Behind k ops: nothing is wrong with the first ones, and if something is wrong it is with the last of these, or with the function itself. -/
def Sofar (l : List FunV) (f : FunV) (k : Nat) (e op : Int) : Prop :=
  (e = 0 ∧ ¬ f.regs < f.args ∧ (∀ j (hj : j < f.ops.length), j < k → opE l f f.ops[j] = 0) ∧ op = ((k - 1 : Nat) : Int)) ∨
  (e = 110 ∧ f.regs < f.args ∧ k = 0 ∧ op = 0) ∨
  (e ≠ 0 ∧ ¬ f.regs < f.args ∧ ∃ (m : Nat) (hm : m < f.ops.length), k = m + 1 ∧ op = (m : Int) ∧ e = opE l f f.ops[m] ∧ ∀ j (hj : j < f.ops.length), j < m → opE l f f.ops[j] = 0)
theorem Sofar.bad {l : List FunV} {f : FunV} {k : Nat} {e op : Int} (h : Sofar l f k e op) (he : e ≠ 0) : ∃ m : Nat, funE l f = some (e, m) ∧ op = (m : Int) := by
  rcases h with ⟨h1, _⟩ | ⟨rfl, h2, _, rfl⟩ | ⟨_, h2, m, hm, _, rfl, rfl, h3⟩
  · exact absurd h1 he
  · exact ⟨0, by unfold funE; rw [if_pos h2], rfl⟩
  · refine ⟨m, ?_, rfl⟩
    unfold funE
    rw [if_neg h2, opsE_at l f f.ops 0 m hm h3 he, Nat.zero_add]
theorem Sofar.good {l : List FunV} {f : FunV} {op : Int} (h : Sofar l f f.ops.length 0 op) : ¬ f.regs < f.args ∧ opsE l f 0 f.ops = none ∧ op = ((f.ops.length - 1 : Nat) : Int) := by
  rcases h with ⟨_, h2, h3, h4⟩ | ⟨h1, _⟩ | ⟨h1, _⟩
  · exact ⟨h2, opsE_none l f f.ops 0 (fun j hj => h3 j hj hj), h4⟩
  · exact absurd h1 (by decide)
  · exact absurd rfl h1
theorem Sofar.ends {l : List FunV} {f : FunV} {op : Int} (h : Sofar l f f.ops.length 0 op) : funE l f = if endsB f.ops = true then none else some (113, f.ops.length - 1) := by
  obtain ⟨h1, h2, _⟩ := h.good
  unfold funE
  rw [if_neg h1, h2]
theorem Sofar.next {l : List FunV} {f : FunV} {k : Nat} {op : Int} (h : Sofar l f k 0 op) (hk : k < f.ops.length) : Sofar l f (k + 1) (opE l f f.ops[k]) (k : Nat) := by
  rcases h with ⟨_, h2, h3, h4⟩ | ⟨h1, _⟩ | ⟨h1, _⟩
  · by_cases he : opE l f f.ops[k] = 0
    · refine .inl ⟨he, h2, fun j hj hlt => ?_, by simp⟩
      rcases Nat.lt_or_ge j k with h | h
      · exact h3 j hj h
      · have : j = k := by omega
        subst this; exact he
    · exact .inr (.inr ⟨he, h2, k, hk, rfl, rfl, rfl, h3⟩)
  · exact absurd h1 (by decide)
  · exact absurd rfl h1
def LkRel2 (W : World) (l : List FunV) (x : Value) (F i : Nat) (f : FunV) (vo : Value) (u : Value) (wr : World) : Prop := ∃ (k : Nat) (e op : Int), k ≤ f.ops.length ∧ u = .int .i64 k ∧ Sofar l f k e op ∧ LkF W l x F i f vo e op wr
theorem LkF.bad {W : World} {l : List FunV} {x : Value} {F i : Nat} {f : FunV} {vo : Value} {e op : Int} {w : World} (h : LkF W l x F i f vo e op w) (hF : W.heap.size + 1 < F) (e' : Int) : LkF W l x F i f vo e' op (w.setCell ⟨F + 1, 0, none⟩ (.int .i64 e')) :=
  ⟨h.lk.only ((Only.refl (· = F + 1) w).set1) (by omega), h.f.set_ne _ (by show F ≠ F + 1; omega), h.x.set 0 _⟩
theorem lk_form {l : List FunV} (h : mayB l = true) : l.length ≤ 16 ∧ ∀ f ∈ l, (0 ≤ f.args ∧ f.args ≤ 16) ∧ (0 ≤ f.regs ∧ f.regs ≤ 16) ∧ f.ops.length ≤ 64 ∧ ∀ o ∈ f.ops, formB o = true := by
  unfold mayB at h
  simp only [Bool.and_eq_true, decide_eq_true_eq, List.all_eq_true] at h
  refine ⟨h.1, fun f hf => ?_⟩
  have := h.2 f hf
  unfold funB regB at this
  simp only [Bool.and_eq_true, decide_eq_true_eq, List.all_eq_true] at this
  exact ⟨this.1.1.1, this.1.1.2, this.1.2, this.2⟩
def LookPost (W : World) (l : List FunV) (e : Ending) (w' : World) : Prop := ∃ (c : Int) (fn op : Nat), e = .returned (.agg #[.int .i64 c, .int .i64 fn, .int .i64 op]) ∧ lookE l = (c, fn, op) ∧ Below W.heap.size W w'
theorem LkF.setOp {W : World} {l : List FunV} {x : Value} {F i : Nat} {f : FunV} {vo : Value} {e op : Int} {w : World} (h : LkF W l x F i f vo e op w) (hF : W.heap.size + 1 < F) (op' : Int) : LkF W l x F i f vo e op' (w.setCell ⟨F + 1, 2, none⟩ (.int .i64 op')) :=
  ⟨h.lk.only ((Only.refl (· = F + 1) w).set1) (by omega), h.f.set_ne _ (by show F ≠ F + 1; omega), h.x.set 2 _⟩
theorem LkF.alloc {W : World} {l : List FunV} {x : Value} {F i : Nat} {f : FunV} {vo : Value} {e op : Int} {w : World} (h : LkF W l x F i f vo e op w) (o : Obj) : LkF W l x F i f vo e op (w.alloc o) := h.step ((Below.refl _ _).alloc (Nat.le_refl _) o)
theorem LkF.only {W : World} {l : List FunV} {x : Value} {F i : Nat} {f : FunV} {vo : Value} {e op e' : Int} {w w' : World} (h : LkF W l x F i f vo e op w) (hF : W.heap.size + 1 < F) (hx : Blk w' (F + 1) 174 #[.int .i64 e', .int .i64 (i : Nat), .int .i64 op]) (ho : Only (· = F + 1) w w') : LkF W l x F i f vo e' op w' :=
  ⟨h.lk.only ho (by omega), h.f.only ho (by omega), hx⟩
set_option maxRecDepth 100000 in
set_option maxHeartbeats 8000000 in
theorem look_any {W : World} {x : Value} {l : List FunV} (hx : FunsAt W x l) (hl : Lim l) (ho : OkP l) : Calls Tryz.prog 106 #[.agg #[x]] W (LookPost W l) := by
  have HV := Lib.hid hx
  have HL0 : Hid (LkW W x ((W.alloc (.cells #[x] 133)).alloc (.cells #[.int .i64 0, .int .i64 0, .int .i64 0] 174))) := Lib.hid ⟨(Blk.new _ _ _).alloc _, Blk.newB _ _ _ _, ((Below.refl _ W).alloc (Nat.le_refl _) _).alloc (by simp) _⟩
  have HM := Lib.hid (may_any ((hx.alloc (.cells #[x] 133)).alloc (.cells #[.int .i64 0, .int .i64 0, .int .i64 0] 174)) hl ho)
  obtain ⟨p, cap, rfl⟩ := hx.slice
  have hlen := hl.1
  have HLI := Lib.hid hl
  have HOK := Lib.hid ho
  clear hx hl ho
  cases hm : mayB l with
  | false =>
    rw [hm] at HM
    have hE : lookE l = (8, 0, 0) := by unfold lookE; rw [if_pos hm]
    clear hm
    as_aux_lemma =>
    go_enter Tryz.func106, Tryz.ntmps106
    go_wp2_with (go_at_call 116; ((with_reducible refine HM.out.mono ?_); rintro e w1 ⟨rfl, b1⟩; have HL1 := Lib.hid (HL0.out.step b1); (have c0 := HL1.out.t1.cell 0; have c1 := HL1.out.t1.cell 1; have c2 := HL1.out.t1.cell 2; simp at c0 c1 c2; have cf := HL1.out.t1.frozen); clear b1))
    try simp only [Exit.inBlock, Exit.then]
    exact ret_cell (cs := #[.int .i64 8, .int .i64 (0 : Nat), .int .i64 (0 : Nat)]) (T := 174) rfl rfl (((HL1.out.t1.set 0 _).set 1 _).set 2 _) Tryz.underlying174 rfl (by kernel_rfl) rfl ⟨_, _, _, rfl, hE, (((HL1.out.bel.setCell (by simp) _).setCell (by simp) _).setCell (by simp) _)⟩
  | true =>
    rw [hm] at HM
    obtain ⟨hm16, hmf⟩ := lk_form hm
    have HMF := Lib.hid hmf
    clear hmf
    by_cases hne : l = []
    · have hE : lookE l = (110, 0, 0) := by unfold lookE; rw [if_neg (by rw [hm]; decide), if_pos hne]
      subst hne
      clear hm HMF HOK HLI
      simp only [List.length_nil] at *
      as_aux_lemma =>
      go_enter Tryz.func106, Tryz.ntmps106
      go_wp2_with (go_at_call 116; ((with_reducible refine HM.out.mono ?_); rintro e w1 ⟨rfl, b1⟩; have HL1 := Lib.hid (HL0.out.step b1); (have c0 := HL1.out.t1.cell 0; have c1 := HL1.out.t1.cell 1; have c2 := HL1.out.t1.cell 2; simp at c0 c1 c2; have cf := HL1.out.t1.frozen); have c00 := HL1.out.t0.cell 0; simp at c00; clear b1))
      try simp only [Exit.inBlock, Exit.then]
      exact ret_cell (cs := #[.int .i64 110, .int .i64 (0 : Nat), .int .i64 (0 : Nat)]) (T := 174) rfl rfl (((HL1.out.t1.set 0 _).set 1 _).set 2 _) Tryz.underlying174 rfl (by kernel_rfl) rfl ⟨_, _, _, rfl, hE, (((HL1.out.bel.setCell (by simp) _).setCell (by simp) _).setCell (by simp) _)⟩
    · have hE0 : lookE l = funsE l 0 l := by unfold lookE; rw [if_neg (by rw [hm]; decide), if_neg hne]
      have hlp : 0 < l.length := List.length_pos_iff.2 hne
      have HE := Lib.hid hE0
      clear hE0 hm hne
      go_enter Tryz.func106, Tryz.ntmps106
      have hlz : ((l.length : Int) == 0) = false := beq_eq_false_iff_ne.2 (by omega)
      go_wp2_with (go_at_call 116; ((with_reducible refine HM.out.mono ?_); rintro e w1 ⟨rfl, b1⟩; have HL1 := Lib.hid (HL0.out.step b1); have c00 : w1.cell? ⟨W.heap.size, 0, none⟩ = some (.slice p l.length cap) := HL1.out.t0.cell 0; clear b1))
      have hz0 : LkRel W l (.slice p l.length cap) (.int .i64 0) w1 := ⟨0, by omega, rfl, fun j hj hlt => by omega, HL1.out⟩
      clear HL0 HM HL1 c00 hlz
      go_loopw [23] (fun u wr => LkRel W l (.slice p l.length cap) u wr) (fun u _ => ((l.length : Int) - intOf u).toNat)
      case atStart => exact hz0
      case round =>
        clear hz0
        obtain ⟨i, hi1, rfl, hno, hL⟩ := hrel
        obtain ⟨wz, rfl⟩ : ∃ wz, wz = wr := ⟨_, rfl⟩
        have HNO := Lib.hid hno
        have HLk := Lib.hid hL
        clear hno
        by_cases hi : i < l.length
        · obtain ⟨p', c', e1, hy⟩ := HV.out
          injection e1 with e1 _ e3
          subst e1 e3
          obtain ⟨g, off, rfl, hg, hy⟩ := hy hlp
          obtain ⟨x0, x1, vo, x2, hvo⟩ := hy i hi
          rw [← hL.bel.cell (p := ⟨g, _, none⟩) hg] at x0 x1 x2
          obtain ⟨pj, cj, rfl⟩ := hvo.slice
          have hki : (i : Int) < (l.length : Int) := by omega
          have hki0 : (0 : Int) ≤ (i : Int) := by omega
          have hfl := HLI.out.2 _ (List.getElem_mem hi)
          have hff := HMF.out _ (List.getElem_mem hi)
          have HVO := Lib.hid hvo
          have hfe := fun e k h => funsE_at l l 0 i hi (fun j hj hlt => HNO.out j hj hlt) e k h
          have hfn : ∀ h : funE l l[i] = none, ∀ j (hj : j < l.length), j < i + 1 → funE l l[j] = none := fun h j hj hlt => by
            rcases Nat.lt_or_ge j i with h2 | h2
            · exact HNO.out j hj h2
            · have : j = i := by omega
              subst this; exact h
          clear hy hvo hL
          generalize l[i] = f at *
          have HFE := Lib.hid hfe
          have HFN := Lib.hid hfn
          have HFF := Lib.hid hff
          clear hfe hfn hff
          have HF2 : Hid (∀ e : Int, LkF W l (.slice (some ⟨g, off, none⟩) l.length cap) wz.heap.size i f (.slice pj f.ops.length cj) e 0 ((wz.alloc (.cells #[.int .i64 f.args, .int .i64 f.regs, .slice pj f.ops.length cj] 168)).alloc (.cells #[.int .i64 e, .int .i64 (i : Nat), .int .i64 0] 174))) := Lib.hid fun e =>
            ⟨HLk.out.step (((Below.refl _ wz).alloc (Nat.le_refl _) _).alloc (by simp) _), (Blk.new wz _ _).alloc _, Blk.newB wz _ _ _⟩
          have hWF : W.heap.size + 1 < wz.heap.size := HLk.out.t1.lt
          have hfa16 := HFF.out.1
          have hfr16 := HFF.out.2.1
          clear HLk
          by_cases ha : f.regs < f.args
          · have ha' : decide (f.args ≤ f.regs) = false := decide_eq_false (by omega)
            have HSF : Hid (Sofar l f 0 110 0) := Lib.hid (.inr (.inl ⟨rfl, ha, rfl, rfl⟩))
            go_wp2_with (go_at_call 117; ((with_reducible refine (must_yes (e := 110) (HF2.out 0).x).mono ?_); rintro e w' ⟨rfl, rfl⟩))
            have hz1 : LkRel2 W l (.slice (some ⟨g, off, none⟩) l.length cap) wz.heap.size i f (.slice pj f.ops.length cj) (.int .i64 0) _ := ⟨0, 110, 0, by omega, rfl, HSF.out, HF2.out 110⟩
            clear HF2 HSF x0 x1 x2 ha ha'
            generalize wz.heap.size = F at *
            go_loopw [39] (fun u wq => LkRel2 W l (.slice (some ⟨g, off, none⟩) l.length cap) F i f (.slice pj f.ops.length cj) u wq) (fun u _ => ((f.ops.length : Int) - intOf u).toNat)
            case atStart => exact hz1
            case round =>
              clear hz1
              obtain ⟨k, e, op, hk1, rfl, hS, hF⟩ := hrel
              have HS := Lib.hid hS
              have HF := Lib.hid hF
              have z0 : wr.cell? ⟨F + 1, 0, none⟩ = some (.int .i64 e) := hF.x.cell 0
              have z1 : wr.cell? ⟨F + 1, 1, none⟩ = some (.int .i64 (i : Nat)) := hF.x.cell 1
              have zf : ∀ o, wr.frozen? ⟨F + 1, o, none⟩ = false := hF.x.frozen
              have y0 : wr.cell? ⟨F, 0, none⟩ = some (.int .i64 f.args) := hF.f.cell 0
              have y1 : wr.cell? ⟨F, 1, none⟩ = some (.int .i64 f.regs) := hF.f.cell 1
              have y2 : wr.cell? ⟨F, 2, none⟩ = some (.slice pj f.ops.length cj) := hF.f.cell 2
              have hFl := hF.x.lt
              by_cases hk : k < f.ops.length
              · obtain ⟨pj', cj', e1, hz⟩ := HVO.out
                injection e1 with e1 _ e3
                subst e1 e3
                obtain ⟨g5, off5, rfl, hg5, hz⟩ := hz (by omega)
                have w0 := hz k hk 0 (by decide)
                have w1 := hz k hk 1 (by decide)
                have w2 := hz k hk 2 (by decide)
                have w3 := hz k hk 3 (by decide)
                have w4 := hz k hk 4 (by decide)
                rw [← hF.lk.bel.cell (p := ⟨g5, _, none⟩) hg5] at w0 w1 w2 w3 w4
                have hform := HFF.out.2.2.2 _ (List.getElem_mem hk)
                have hnx := fun op (h : Sofar l f k 0 op) => h.next hk
                have hkk : (k : Int) < (f.ops.length : Int) := by omega
                have hkk0 : (0 : Int) ≤ (k : Int) := by omega
                have hg5l : g5 < wr.heap.size := Nat.lt_of_lt_of_le hg5 hF.lk.bel.size
                clear hz
                generalize f.ops[k] = o at *
                obtain ⟨ok, od, oa, ob, on⟩ := o
                simp only [opA, List.getElem?_toArray, List.getElem?_cons_zero, List.getElem?_cons_succ, Nat.add_zero] at w0 w1 w2 w3 w4
                by_cases he : e = 0
                · subst he
                  have HNX := Lib.hid (hnx op hS)
                  have HFo := Lib.hid ((HF.out.setOp hWF (k : Nat)).alloc (.cells #[.int .u8 ok, .int .i64 od, .int .i64 oa, .int .i64 ob, .int .i64 on] 170))
                  have HRT : Hid (Calls Tryz.prog 118 #[.pointer (some ⟨F + 1, 0, none⟩), .agg #[.slice (some ⟨g, off, none⟩) l.length cap], .agg #[.int .i64 f.args, .int .i64 f.regs, .slice (some ⟨g5, off5, none⟩) f.ops.length cj], .agg #[.int .u8 ok, .int .i64 od, .int .i64 oa, .int .i64 ob, .int .i64 on]] ((wr.setCell ⟨F + 1, 2, none⟩ (.int .i64 (k : Nat))).alloc (.cells #[.int .u8 ok, .int .i64 od, .int .i64 oa, .int .i64 ob, .int .i64 on] 170)) fun e w' => e = .returned (.tuple #[]) ∧ Blk w' (F + 1) 174 #[.int .i64 (opE l f ⟨ok, od, oa, ob, on⟩), .int .i64 (i : Nat), .int .i64 (k : Nat)] ∧ Only (· = F + 1) ((wr.setCell ⟨F + 1, 2, none⟩ (.int .i64 (k : Nat))).alloc (.cells #[.int .u8 ok, .int .i64 od, .int .i64 oa, .int .i64 ob, .int .i64 on] 170)) w') :=
                    Lib.hid (right_any (o := ⟨ok, od, oa, ob, on⟩) (f := f) HV.out HFo.out.lk.bel HFo.out.x (by omega) rfl hform (fun g hg => (HMF.out g hg).1))
                  have p0 : wr.cell? ⟨W.heap.size, 0, none⟩ = some (.slice (some ⟨g, off, none⟩) l.length cap) := hF.lk.t0.cell 0
                  have p1 : ((wr.setCell ⟨F + 1, 2, none⟩ (.int .i64 (k : Nat))).alloc (.cells #[.int .u8 ok, .int .i64 od, .int .i64 oa, .int .i64 ob, .int .i64 on] 170)).cell? ⟨W.heap.size, 0, none⟩ = some (.slice (some ⟨g, off, none⟩) l.length cap) := HFo.out.lk.t0.cell 0
                  have v0 : ((wr.setCell ⟨F + 1, 2, none⟩ (.int .i64 (k : Nat))).alloc (.cells #[.int .u8 ok, .int .i64 od, .int .i64 oa, .int .i64 ob, .int .i64 on] 170)).cell? ⟨F, 0, none⟩ = some (.int .i64 f.args) := HFo.out.f.cell 0
                  have v1 : ((wr.setCell ⟨F + 1, 2, none⟩ (.int .i64 (k : Nat))).alloc (.cells #[.int .u8 ok, .int .i64 od, .int .i64 oa, .int .i64 ob, .int .i64 on] 170)).cell? ⟨F, 1, none⟩ = some (.int .i64 f.regs) := HFo.out.f.cell 1
                  have v2 : ((wr.setCell ⟨F + 1, 2, none⟩ (.int .i64 (k : Nat))).alloc (.cells #[.int .u8 ok, .int .i64 od, .int .i64 oa, .int .i64 ob, .int .i64 on] 170)).cell? ⟨F, 2, none⟩ = some (.slice (some ⟨g5, off5, none⟩) f.ops.length cj) := HFo.out.f.cell 2
                  have z2 : wr.cell? ⟨F + 1, 2, none⟩ = some (.int .i64 op) := hF.x.cell 2
                  have hpl := hF.lk.t1.lt
                  clear hS hF hnx hform
                  go_wp2_with (go_at_call 118; ((with_reducible refine HRT.out.mono ?_); rintro e w5 ⟨rfl, hb5, ho5⟩; have HF5 := Lib.hid (HFo.out.only hWF hb5 ho5); clear hb5 ho5))
                  go_roundw
                  case rel => exact ⟨k + 1, _, _, by omega, rfl, HNX.out, HF5.out⟩
                  case measure => simp [intOf]; omega
                · have he' : (e == 0) = false := by simpa using he
                  obtain ⟨m, hfe, rfl⟩ := hS.bad he
                  have hE : lookE l = (e, i, m) := by rw [HE.out, HFE.out e m hfe, Nat.zero_add]
                  have z2 : wr.cell? ⟨F + 1, 2, none⟩ = some (.int .i64 (m : Nat)) := hF.x.cell 2
                  have HLK := Lib.hid hF.lk
                  have hpl := hF.lk.t1.lt
                  (have c0 := HLK.out.t1.cell 0; have c1 := HLK.out.t1.cell 1; have c2 := HLK.out.t1.cell 2; simp at c0 c1 c2; have cf := HLK.out.t1.frozen)
                  clear hS hF hnx hform hfe he
                  go_wp2_with fail
                  try simp only [Exit.inBlock, Exit.then]
                  exact ret_cell (cs := #[.int .i64 e, .int .i64 (i : Nat), .int .i64 (m : Nat)]) (T := 174) rfl rfl ((((HLK.out.t1.set 0 _).set 1 _).set 2 _).alloc _) Tryz.underlying174 rfl (by kernel_rfl) rfl ⟨_, _, _, rfl, hE, ((((HLK.out.bel.setCell (by simp) _).setCell (by simp) _).setCell (by simp) _).alloc (by have := HLK.out.bel.size; simp [World.setCell]; omega) _)⟩
              · have : k = f.ops.length := by omega
                subst this
                clear hk hk1 y0 y1
                (have HLK := Lib.hid HF.out.lk; have z0 := HF.out.x.cell 0; have z1 := HF.out.x.cell 1; have z2 := HF.out.x.cell 2; simp at z0 z1 z2; have zf : ∀ o, _ := HF.out.x.frozen; have c0 := HLK.out.t1.cell 0; have c1 := HLK.out.t1.cell 1; have c2 := HLK.out.t1.cell 2; simp at c0 c1 c2; have cf := HLK.out.t1.frozen)
                have hpl := hF.lk.t1.lt
                clear hF
                by_cases he : e = 0
                · subst he
                  have hends := hS.ends
                  have hop := hS.good.2.2
                  have HEN : Hid True := Lib.hid trivial
                  clear hS HS
                  by_cases hn0 : f.ops.length = 0
                  · have hnz : (f.ops.length : Int) ≤ 0 := by omega
                    have hE : lookE l = (113, i, 0) := by
                      rw [HE.out, HFE.out 113 0 (by rw [hends, List.eq_nil_of_length_eq_zero hn0]; rfl), Nat.zero_add]
                    have hop0 : op = ((0 : Nat) : Int) := by rw [hop]; omega
                    subst hop0
                    clear hends hop hn0
                    generalize f.ops.length = n at *
                    as_aux_lemma =>
                    go_wp2_with (go_at_call 117; (first | ((with_reducible refine (must_no HF.out.x (fun _ => rfl)).mono ?_); rintro e w' ⟨rfl, rfl⟩) | ((with_reducible refine (must_no HF.out.x (fun h => absurd h HEN.out)).mono ?_); rintro e w' ⟨rfl, rfl⟩) | ((with_reducible refine (must_yes (e := 113) HF.out.x).mono ?_); rintro e w' ⟨rfl, rfl⟩; have HF := Lib.hid (HF.out.bad hWF 113); (have HLK := Lib.hid HF.out.lk; have z0 := HF.out.x.cell 0; have z1 := HF.out.x.cell 1; have z2 := HF.out.x.cell 2; simp at z0 z1 z2; have zf : ∀ o, _ := HF.out.x.frozen; have c0 := HLK.out.t1.cell 0; have c1 := HLK.out.t1.cell 1; have c2 := HLK.out.t1.cell 2; simp at c0 c1 c2; have cf := HLK.out.t1.frozen))))
                    try simp only [Exit.inBlock, Exit.then]
                    exact ret_cell (cs := #[.int .i64 113, .int .i64 (i : Nat), .int .i64 (0 : Nat)]) (T := 174) rfl rfl (((HLK.out.t1.set 0 _).set 1 _).set 2 _) Tryz.underlying174 rfl (by kernel_rfl) rfl ⟨_, _, _, rfl, hE, (((HLK.out.bel.setCell (by simp) _).setCell (by simp) _).setCell (by simp) _)⟩
                  · obtain ⟨pj', cj', e1, hz0⟩ := HVO.out
                    injection e1 with e1 _ e3
                    subst e1 e3
                    obtain ⟨g5, off5, rfl, hg5, hz⟩ := hz0 (by omega)
                    have w0 := hz (f.ops.length - 1) (by omega) 0 (by decide)
                    rw [← HLK.out.bel.cell (p := ⟨g5, _, none⟩) hg5] at w0
                    have hg5l : g5 < wr.heap.size := Nat.lt_of_lt_of_le hg5 HLK.out.bel.size
                    have hB := endsB_of (l := f.ops) (by omega)
                    simp only [opA, List.getElem?_toArray, List.getElem?_cons_zero, Nat.add_zero] at w0
                    generalize f.ops[f.ops.length - 1].k = K at *
                    have HB := Lib.hid hB
                    have HOPS := Lib.hid hends
                    have HOP := Lib.hid hop
                    clear hz hz0 hB hends hop
                    obtain ⟨N, hN⟩ : ∃ N, f.ops.length = N + 1 := ⟨f.ops.length - 1, by omega⟩
                    generalize f.ops.length = n at *
                    subst hN
                    clear hn0
                    simp only [Nat.add_sub_cancel] at w0 HOP HOPS
                    have hop := HOP.out
                    subst hop
                    by_cases h10 : K = 10
                    · subst h10
                      have hE : funE l f = none := by rw [HOPS.out, HB.out]; rfl
                      go_wp2_with (go_at_call 117; (first | ((with_reducible refine (must_no HF.out.x (fun _ => rfl)).mono ?_); rintro e w' ⟨rfl, rfl⟩) | ((with_reducible refine (must_no HF.out.x (fun h => absurd h HEN.out)).mono ?_); rintro e w' ⟨rfl, rfl⟩) | ((with_reducible refine (must_yes (e := 113) HF.out.x).mono ?_); rintro e w' ⟨rfl, rfl⟩; have HF := Lib.hid (HF.out.bad hWF 113); (have HLK := Lib.hid HF.out.lk; have z0 := HF.out.x.cell 0; have z1 := HF.out.x.cell 1; have z2 := HF.out.x.cell 2; simp at z0 z1 z2; have zf : ∀ o, _ := HF.out.x.frozen; have c0 := HLK.out.t1.cell 0; have c1 := HLK.out.t1.cell 1; have c2 := HLK.out.t1.cell 2; simp at c0 c1 c2; have cf := HLK.out.t1.frozen))))
                      go_roundw
                      case rel => exact ⟨i + 1, by omega, rfl, HFN.out hE, HLK.out⟩
                      case measure => simp [intOf]; omega
                    · have h10' : (K == 10) = false := by simpa using h10
                      by_cases h14 : K = 14
                      · subst h14
                        have hE : funE l f = none := by rw [HOPS.out, HB.out]; rfl
                        go_wp2_with (go_at_call 117; (first | ((with_reducible refine (must_no HF.out.x (fun _ => rfl)).mono ?_); rintro e w' ⟨rfl, rfl⟩) | ((with_reducible refine (must_no HF.out.x (fun h => absurd h HEN.out)).mono ?_); rintro e w' ⟨rfl, rfl⟩) | ((with_reducible refine (must_yes (e := 113) HF.out.x).mono ?_); rintro e w' ⟨rfl, rfl⟩; have HF := Lib.hid (HF.out.bad hWF 113); (have HLK := Lib.hid HF.out.lk; have z0 := HF.out.x.cell 0; have z1 := HF.out.x.cell 1; have z2 := HF.out.x.cell 2; simp at z0 z1 z2; have zf : ∀ o, _ := HF.out.x.frozen; have c0 := HLK.out.t1.cell 0; have c1 := HLK.out.t1.cell 1; have c2 := HLK.out.t1.cell 2; simp at c0 c1 c2; have cf := HLK.out.t1.frozen))))
                        go_roundw
                        case rel => exact ⟨i + 1, by omega, rfl, HFN.out hE, HLK.out⟩
                        case measure => simp [intOf]; omega
                      · have h14' : (K == 14) = false := by simpa using h14
                        have hE : lookE l = (113, i, N) := by
                          rw [HE.out, HFE.out 113 N (by rw [HOPS.out, HB.out, h10', h14']; rfl), Nat.zero_add]
                        clear h10 h14
                        as_aux_lemma =>
                        go_wp2_with (go_at_call 117; (first | ((with_reducible refine (must_no HF.out.x (fun _ => rfl)).mono ?_); rintro e w' ⟨rfl, rfl⟩) | ((with_reducible refine (must_no HF.out.x (fun h => absurd h HEN.out)).mono ?_); rintro e w' ⟨rfl, rfl⟩) | ((with_reducible refine (must_yes (e := 113) HF.out.x).mono ?_); rintro e w' ⟨rfl, rfl⟩; have HF := Lib.hid (HF.out.bad hWF 113); (have HLK := Lib.hid HF.out.lk; have z0 := HF.out.x.cell 0; have z1 := HF.out.x.cell 1; have z2 := HF.out.x.cell 2; simp at z0 z1 z2; have zf : ∀ o, _ := HF.out.x.frozen; have c0 := HLK.out.t1.cell 0; have c1 := HLK.out.t1.cell 1; have c2 := HLK.out.t1.cell 2; simp at c0 c1 c2; have cf := HLK.out.t1.frozen))))
                        try simp only [Exit.inBlock, Exit.then]
                        exact ret_cell (cs := #[.int .i64 113, .int .i64 (i : Nat), .int .i64 (N : Nat)]) (T := 174) rfl rfl (((HLK.out.t1.set 0 _).set 1 _).set 2 _) Tryz.underlying174 rfl (by kernel_rfl) rfl ⟨_, _, _, rfl, hE, (((HLK.out.bel.setCell (by simp) _).setCell (by simp) _).setCell (by simp) _)⟩
                · have he' : (e == 0) = false := by simpa using he
                  obtain ⟨m, hfe, rfl⟩ := hS.bad he
                  have hE : lookE l = (e, i, m) := by rw [HE.out, HFE.out e m hfe, Nat.zero_add]
                  have HEN := Lib.hid he
                  clear hS HS hfe he
                  by_cases hn0 : f.ops.length = 0
                  · have hnz : (f.ops.length : Int) ≤ 0 := by omega
                    clear hn0
                    generalize f.ops.length = n at *
                    as_aux_lemma =>
                    go_wp2_with (go_at_call 117; (first | ((with_reducible refine (must_no HF.out.x (fun _ => rfl)).mono ?_); rintro e w' ⟨rfl, rfl⟩) | ((with_reducible refine (must_no HF.out.x (fun h => absurd h HEN.out)).mono ?_); rintro e w' ⟨rfl, rfl⟩) | ((with_reducible refine (must_yes (e := 113) HF.out.x).mono ?_); rintro e w' ⟨rfl, rfl⟩; have HF := Lib.hid (HF.out.bad hWF 113); (have HLK := Lib.hid HF.out.lk; have z0 := HF.out.x.cell 0; have z1 := HF.out.x.cell 1; have z2 := HF.out.x.cell 2; simp at z0 z1 z2; have zf : ∀ o, _ := HF.out.x.frozen; have c0 := HLK.out.t1.cell 0; have c1 := HLK.out.t1.cell 1; have c2 := HLK.out.t1.cell 2; simp at c0 c1 c2; have cf := HLK.out.t1.frozen))))
                    try simp only [Exit.inBlock, Exit.then]
                    exact ret_cell (cs := #[.int .i64 e, .int .i64 (i : Nat), .int .i64 (m : Nat)]) (T := 174) rfl rfl (((HLK.out.t1.set 0 _).set 1 _).set 2 _) Tryz.underlying174 rfl (by kernel_rfl) rfl ⟨_, _, _, rfl, hE, (((HLK.out.bel.setCell (by simp) _).setCell (by simp) _).setCell (by simp) _)⟩
                  · obtain ⟨pj', cj', e1, hz0⟩ := HVO.out
                    injection e1 with e1 _ e3
                    subst e1 e3
                    obtain ⟨g5, off5, rfl, hg5, hz⟩ := hz0 (by omega)
                    have w0 := hz (f.ops.length - 1) (by omega) 0 (by decide)
                    rw [← HLK.out.bel.cell (p := ⟨g5, _, none⟩) hg5] at w0
                    have hg5l : g5 < wr.heap.size := Nat.lt_of_lt_of_le hg5 HLK.out.bel.size
                    simp only [opA, List.getElem?_toArray, List.getElem?_cons_zero, Nat.add_zero] at w0
                    generalize f.ops[f.ops.length - 1].k = K at *
                    clear hz hz0
                    obtain ⟨N, hN⟩ : ∃ N, f.ops.length = N + 1 := ⟨f.ops.length - 1, by omega⟩
                    generalize f.ops.length = n at *
                    subst hN
                    clear hn0
                    simp only [Nat.add_sub_cancel] at w0
                    by_cases h10 : K = 10
                    · subst h10
                      as_aux_lemma =>
                      go_wp2_with (go_at_call 117; (first | ((with_reducible refine (must_no HF.out.x (fun _ => rfl)).mono ?_); rintro e w' ⟨rfl, rfl⟩) | ((with_reducible refine (must_no HF.out.x (fun h => absurd h HEN.out)).mono ?_); rintro e w' ⟨rfl, rfl⟩) | ((with_reducible refine (must_yes (e := 113) HF.out.x).mono ?_); rintro e w' ⟨rfl, rfl⟩; have HF := Lib.hid (HF.out.bad hWF 113); (have HLK := Lib.hid HF.out.lk; have z0 := HF.out.x.cell 0; have z1 := HF.out.x.cell 1; have z2 := HF.out.x.cell 2; simp at z0 z1 z2; have zf : ∀ o, _ := HF.out.x.frozen; have c0 := HLK.out.t1.cell 0; have c1 := HLK.out.t1.cell 1; have c2 := HLK.out.t1.cell 2; simp at c0 c1 c2; have cf := HLK.out.t1.frozen))))
                      try simp only [Exit.inBlock, Exit.then]
                      exact ret_cell (cs := #[.int .i64 e, .int .i64 (i : Nat), .int .i64 (m : Nat)]) (T := 174) rfl rfl (((HLK.out.t1.set 0 _).set 1 _).set 2 _) Tryz.underlying174 rfl (by kernel_rfl) rfl ⟨_, _, _, rfl, hE, (((HLK.out.bel.setCell (by simp) _).setCell (by simp) _).setCell (by simp) _)⟩
                    · have h10' : (K == 10) = false := by simpa using h10
                      by_cases h14 : K = 14
                      · subst h14
                        as_aux_lemma =>
                        go_wp2_with (go_at_call 117; (first | ((with_reducible refine (must_no HF.out.x (fun _ => rfl)).mono ?_); rintro e w' ⟨rfl, rfl⟩) | ((with_reducible refine (must_no HF.out.x (fun h => absurd h HEN.out)).mono ?_); rintro e w' ⟨rfl, rfl⟩) | ((with_reducible refine (must_yes (e := 113) HF.out.x).mono ?_); rintro e w' ⟨rfl, rfl⟩; have HF := Lib.hid (HF.out.bad hWF 113); (have HLK := Lib.hid HF.out.lk; have z0 := HF.out.x.cell 0; have z1 := HF.out.x.cell 1; have z2 := HF.out.x.cell 2; simp at z0 z1 z2; have zf : ∀ o, _ := HF.out.x.frozen; have c0 := HLK.out.t1.cell 0; have c1 := HLK.out.t1.cell 1; have c2 := HLK.out.t1.cell 2; simp at c0 c1 c2; have cf := HLK.out.t1.frozen))))
                        try simp only [Exit.inBlock, Exit.then]
                        exact ret_cell (cs := #[.int .i64 e, .int .i64 (i : Nat), .int .i64 (m : Nat)]) (T := 174) rfl rfl (((HLK.out.t1.set 0 _).set 1 _).set 2 _) Tryz.underlying174 rfl (by kernel_rfl) rfl ⟨_, _, _, rfl, hE, (((HLK.out.bel.setCell (by simp) _).setCell (by simp) _).setCell (by simp) _)⟩
                      · have h14' : (K == 14) = false := by simpa using h14
                        clear h10 h14
                        as_aux_lemma =>
                        go_wp2_with (go_at_call 117; (first | ((with_reducible refine (must_no HF.out.x (fun _ => rfl)).mono ?_); rintro e w' ⟨rfl, rfl⟩) | ((with_reducible refine (must_no HF.out.x (fun h => absurd h HEN.out)).mono ?_); rintro e w' ⟨rfl, rfl⟩) | ((with_reducible refine (must_yes (e := 113) HF.out.x).mono ?_); rintro e w' ⟨rfl, rfl⟩; have HF := Lib.hid (HF.out.bad hWF 113); (have HLK := Lib.hid HF.out.lk; have z0 := HF.out.x.cell 0; have z1 := HF.out.x.cell 1; have z2 := HF.out.x.cell 2; simp at z0 z1 z2; have zf : ∀ o, _ := HF.out.x.frozen; have c0 := HLK.out.t1.cell 0; have c1 := HLK.out.t1.cell 1; have c2 := HLK.out.t1.cell 2; simp at c0 c1 c2; have cf := HLK.out.t1.frozen))))
                        try simp only [Exit.inBlock, Exit.then]
                        exact ret_cell (cs := #[.int .i64 e, .int .i64 (i : Nat), .int .i64 (m : Nat)]) (T := 174) rfl rfl (((HLK.out.t1.set 0 _).set 1 _).set 2 _) Tryz.underlying174 rfl (by kernel_rfl) rfl ⟨_, _, _, rfl, hE, (((HLK.out.bel.setCell (by simp) _).setCell (by simp) _).setCell (by simp) _)⟩
          · have ha' : decide (f.args ≤ f.regs) = true := decide_eq_true (by omega)
            have HSF : Hid (Sofar l f 0 0 0) := Lib.hid (.inl ⟨rfl, ha, fun j hj hlt => by omega, rfl⟩)
            go_wp2_with (go_at_call 117; ((with_reducible refine (must_no (HF2.out 0).x (fun _ => rfl)).mono ?_); rintro e w' ⟨rfl, rfl⟩))
            have hz1 : LkRel2 W l (.slice (some ⟨g, off, none⟩) l.length cap) wz.heap.size i f (.slice pj f.ops.length cj) (.int .i64 0) _ := ⟨0, 0, 0, by omega, rfl, HSF.out, HF2.out 0⟩
            clear HF2 HSF x0 x1 x2 ha ha'
            generalize wz.heap.size = F at *
            go_loopw [39] (fun u wq => LkRel2 W l (.slice (some ⟨g, off, none⟩) l.length cap) F i f (.slice pj f.ops.length cj) u wq) (fun u _ => ((f.ops.length : Int) - intOf u).toNat)
            case atStart => exact hz1
            case round =>
              clear hz1
              obtain ⟨k, e, op, hk1, rfl, hS, hF⟩ := hrel
              have HS := Lib.hid hS
              have HF := Lib.hid hF
              have z0 : wr.cell? ⟨F + 1, 0, none⟩ = some (.int .i64 e) := hF.x.cell 0
              have z1 : wr.cell? ⟨F + 1, 1, none⟩ = some (.int .i64 (i : Nat)) := hF.x.cell 1
              have zf : ∀ o, wr.frozen? ⟨F + 1, o, none⟩ = false := hF.x.frozen
              have y0 : wr.cell? ⟨F, 0, none⟩ = some (.int .i64 f.args) := hF.f.cell 0
              have y1 : wr.cell? ⟨F, 1, none⟩ = some (.int .i64 f.regs) := hF.f.cell 1
              have y2 : wr.cell? ⟨F, 2, none⟩ = some (.slice pj f.ops.length cj) := hF.f.cell 2
              have hFl := hF.x.lt
              by_cases hk : k < f.ops.length
              · obtain ⟨pj', cj', e1, hz⟩ := HVO.out
                injection e1 with e1 _ e3
                subst e1 e3
                obtain ⟨g5, off5, rfl, hg5, hz⟩ := hz (by omega)
                have w0 := hz k hk 0 (by decide)
                have w1 := hz k hk 1 (by decide)
                have w2 := hz k hk 2 (by decide)
                have w3 := hz k hk 3 (by decide)
                have w4 := hz k hk 4 (by decide)
                rw [← hF.lk.bel.cell (p := ⟨g5, _, none⟩) hg5] at w0 w1 w2 w3 w4
                have hform := HFF.out.2.2.2 _ (List.getElem_mem hk)
                have hnx := fun op (h : Sofar l f k 0 op) => h.next hk
                have hkk : (k : Int) < (f.ops.length : Int) := by omega
                have hkk0 : (0 : Int) ≤ (k : Int) := by omega
                have hg5l : g5 < wr.heap.size := Nat.lt_of_lt_of_le hg5 hF.lk.bel.size
                clear hz
                generalize f.ops[k] = o at *
                obtain ⟨ok, od, oa, ob, on⟩ := o
                simp only [opA, List.getElem?_toArray, List.getElem?_cons_zero, List.getElem?_cons_succ, Nat.add_zero] at w0 w1 w2 w3 w4
                by_cases he : e = 0
                · subst he
                  have HNX := Lib.hid (hnx op hS)
                  have HFo := Lib.hid ((HF.out.setOp hWF (k : Nat)).alloc (.cells #[.int .u8 ok, .int .i64 od, .int .i64 oa, .int .i64 ob, .int .i64 on] 170))
                  have HRT : Hid (Calls Tryz.prog 118 #[.pointer (some ⟨F + 1, 0, none⟩), .agg #[.slice (some ⟨g, off, none⟩) l.length cap], .agg #[.int .i64 f.args, .int .i64 f.regs, .slice (some ⟨g5, off5, none⟩) f.ops.length cj], .agg #[.int .u8 ok, .int .i64 od, .int .i64 oa, .int .i64 ob, .int .i64 on]] ((wr.setCell ⟨F + 1, 2, none⟩ (.int .i64 (k : Nat))).alloc (.cells #[.int .u8 ok, .int .i64 od, .int .i64 oa, .int .i64 ob, .int .i64 on] 170)) fun e w' => e = .returned (.tuple #[]) ∧ Blk w' (F + 1) 174 #[.int .i64 (opE l f ⟨ok, od, oa, ob, on⟩), .int .i64 (i : Nat), .int .i64 (k : Nat)] ∧ Only (· = F + 1) ((wr.setCell ⟨F + 1, 2, none⟩ (.int .i64 (k : Nat))).alloc (.cells #[.int .u8 ok, .int .i64 od, .int .i64 oa, .int .i64 ob, .int .i64 on] 170)) w') :=
                    Lib.hid (right_any (o := ⟨ok, od, oa, ob, on⟩) (f := f) HV.out HFo.out.lk.bel HFo.out.x (by omega) rfl hform (fun g hg => (HMF.out g hg).1))
                  have p0 : wr.cell? ⟨W.heap.size, 0, none⟩ = some (.slice (some ⟨g, off, none⟩) l.length cap) := hF.lk.t0.cell 0
                  have p1 : ((wr.setCell ⟨F + 1, 2, none⟩ (.int .i64 (k : Nat))).alloc (.cells #[.int .u8 ok, .int .i64 od, .int .i64 oa, .int .i64 ob, .int .i64 on] 170)).cell? ⟨W.heap.size, 0, none⟩ = some (.slice (some ⟨g, off, none⟩) l.length cap) := HFo.out.lk.t0.cell 0
                  have v0 : ((wr.setCell ⟨F + 1, 2, none⟩ (.int .i64 (k : Nat))).alloc (.cells #[.int .u8 ok, .int .i64 od, .int .i64 oa, .int .i64 ob, .int .i64 on] 170)).cell? ⟨F, 0, none⟩ = some (.int .i64 f.args) := HFo.out.f.cell 0
                  have v1 : ((wr.setCell ⟨F + 1, 2, none⟩ (.int .i64 (k : Nat))).alloc (.cells #[.int .u8 ok, .int .i64 od, .int .i64 oa, .int .i64 ob, .int .i64 on] 170)).cell? ⟨F, 1, none⟩ = some (.int .i64 f.regs) := HFo.out.f.cell 1
                  have v2 : ((wr.setCell ⟨F + 1, 2, none⟩ (.int .i64 (k : Nat))).alloc (.cells #[.int .u8 ok, .int .i64 od, .int .i64 oa, .int .i64 ob, .int .i64 on] 170)).cell? ⟨F, 2, none⟩ = some (.slice (some ⟨g5, off5, none⟩) f.ops.length cj) := HFo.out.f.cell 2
                  have z2 : wr.cell? ⟨F + 1, 2, none⟩ = some (.int .i64 op) := hF.x.cell 2
                  have hpl := hF.lk.t1.lt
                  clear hS hF hnx hform
                  go_wp2_with (go_at_call 118; ((with_reducible refine HRT.out.mono ?_); rintro e w5 ⟨rfl, hb5, ho5⟩; have HF5 := Lib.hid (HFo.out.only hWF hb5 ho5); clear hb5 ho5))
                  go_roundw
                  case rel => exact ⟨k + 1, _, _, by omega, rfl, HNX.out, HF5.out⟩
                  case measure => simp [intOf]; omega
                · have he' : (e == 0) = false := by simpa using he
                  obtain ⟨m, hfe, rfl⟩ := hS.bad he
                  have hE : lookE l = (e, i, m) := by rw [HE.out, HFE.out e m hfe, Nat.zero_add]
                  have z2 : wr.cell? ⟨F + 1, 2, none⟩ = some (.int .i64 (m : Nat)) := hF.x.cell 2
                  have HLK := Lib.hid hF.lk
                  have hpl := hF.lk.t1.lt
                  (have c0 := HLK.out.t1.cell 0; have c1 := HLK.out.t1.cell 1; have c2 := HLK.out.t1.cell 2; simp at c0 c1 c2; have cf := HLK.out.t1.frozen)
                  clear hS hF hnx hform hfe he
                  go_wp2_with fail
                  try simp only [Exit.inBlock, Exit.then]
                  exact ret_cell (cs := #[.int .i64 e, .int .i64 (i : Nat), .int .i64 (m : Nat)]) (T := 174) rfl rfl ((((HLK.out.t1.set 0 _).set 1 _).set 2 _).alloc _) Tryz.underlying174 rfl (by kernel_rfl) rfl ⟨_, _, _, rfl, hE, ((((HLK.out.bel.setCell (by simp) _).setCell (by simp) _).setCell (by simp) _).alloc (by have := HLK.out.bel.size; simp [World.setCell]; omega) _)⟩
              · have : k = f.ops.length := by omega
                subst this
                clear hk hk1 y0 y1
                (have HLK := Lib.hid HF.out.lk; have z0 := HF.out.x.cell 0; have z1 := HF.out.x.cell 1; have z2 := HF.out.x.cell 2; simp at z0 z1 z2; have zf : ∀ o, _ := HF.out.x.frozen; have c0 := HLK.out.t1.cell 0; have c1 := HLK.out.t1.cell 1; have c2 := HLK.out.t1.cell 2; simp at c0 c1 c2; have cf := HLK.out.t1.frozen)
                have hpl := hF.lk.t1.lt
                clear hF
                by_cases he : e = 0
                · subst he
                  have hends := hS.ends
                  have hop := hS.good.2.2
                  have HEN : Hid True := Lib.hid trivial
                  clear hS HS
                  by_cases hn0 : f.ops.length = 0
                  · have hnz : (f.ops.length : Int) ≤ 0 := by omega
                    have hE : lookE l = (113, i, 0) := by
                      rw [HE.out, HFE.out 113 0 (by rw [hends, List.eq_nil_of_length_eq_zero hn0]; rfl), Nat.zero_add]
                    have hop0 : op = ((0 : Nat) : Int) := by rw [hop]; omega
                    subst hop0
                    clear hends hop hn0
                    generalize f.ops.length = n at *
                    as_aux_lemma =>
                    go_wp2_with (go_at_call 117; (first | ((with_reducible refine (must_no HF.out.x (fun _ => rfl)).mono ?_); rintro e w' ⟨rfl, rfl⟩) | ((with_reducible refine (must_no HF.out.x (fun h => absurd h HEN.out)).mono ?_); rintro e w' ⟨rfl, rfl⟩) | ((with_reducible refine (must_yes (e := 113) HF.out.x).mono ?_); rintro e w' ⟨rfl, rfl⟩; have HF := Lib.hid (HF.out.bad hWF 113); (have HLK := Lib.hid HF.out.lk; have z0 := HF.out.x.cell 0; have z1 := HF.out.x.cell 1; have z2 := HF.out.x.cell 2; simp at z0 z1 z2; have zf : ∀ o, _ := HF.out.x.frozen; have c0 := HLK.out.t1.cell 0; have c1 := HLK.out.t1.cell 1; have c2 := HLK.out.t1.cell 2; simp at c0 c1 c2; have cf := HLK.out.t1.frozen))))
                    try simp only [Exit.inBlock, Exit.then]
                    exact ret_cell (cs := #[.int .i64 113, .int .i64 (i : Nat), .int .i64 (0 : Nat)]) (T := 174) rfl rfl (((HLK.out.t1.set 0 _).set 1 _).set 2 _) Tryz.underlying174 rfl (by kernel_rfl) rfl ⟨_, _, _, rfl, hE, (((HLK.out.bel.setCell (by simp) _).setCell (by simp) _).setCell (by simp) _)⟩
                  · obtain ⟨pj', cj', e1, hz0⟩ := HVO.out
                    injection e1 with e1 _ e3
                    subst e1 e3
                    obtain ⟨g5, off5, rfl, hg5, hz⟩ := hz0 (by omega)
                    have w0 := hz (f.ops.length - 1) (by omega) 0 (by decide)
                    rw [← HLK.out.bel.cell (p := ⟨g5, _, none⟩) hg5] at w0
                    have hg5l : g5 < wr.heap.size := Nat.lt_of_lt_of_le hg5 HLK.out.bel.size
                    have hB := endsB_of (l := f.ops) (by omega)
                    simp only [opA, List.getElem?_toArray, List.getElem?_cons_zero, Nat.add_zero] at w0
                    generalize f.ops[f.ops.length - 1].k = K at *
                    have HB := Lib.hid hB
                    have HOPS := Lib.hid hends
                    have HOP := Lib.hid hop
                    clear hz hz0 hB hends hop
                    obtain ⟨N, hN⟩ : ∃ N, f.ops.length = N + 1 := ⟨f.ops.length - 1, by omega⟩
                    generalize f.ops.length = n at *
                    subst hN
                    clear hn0
                    simp only [Nat.add_sub_cancel] at w0 HOP HOPS
                    have hop := HOP.out
                    subst hop
                    by_cases h10 : K = 10
                    · subst h10
                      have hE : funE l f = none := by rw [HOPS.out, HB.out]; rfl
                      go_wp2_with (go_at_call 117; (first | ((with_reducible refine (must_no HF.out.x (fun _ => rfl)).mono ?_); rintro e w' ⟨rfl, rfl⟩) | ((with_reducible refine (must_no HF.out.x (fun h => absurd h HEN.out)).mono ?_); rintro e w' ⟨rfl, rfl⟩) | ((with_reducible refine (must_yes (e := 113) HF.out.x).mono ?_); rintro e w' ⟨rfl, rfl⟩; have HF := Lib.hid (HF.out.bad hWF 113); (have HLK := Lib.hid HF.out.lk; have z0 := HF.out.x.cell 0; have z1 := HF.out.x.cell 1; have z2 := HF.out.x.cell 2; simp at z0 z1 z2; have zf : ∀ o, _ := HF.out.x.frozen; have c0 := HLK.out.t1.cell 0; have c1 := HLK.out.t1.cell 1; have c2 := HLK.out.t1.cell 2; simp at c0 c1 c2; have cf := HLK.out.t1.frozen))))
                      go_roundw
                      case rel => exact ⟨i + 1, by omega, rfl, HFN.out hE, HLK.out⟩
                      case measure => simp [intOf]; omega
                    · have h10' : (K == 10) = false := by simpa using h10
                      by_cases h14 : K = 14
                      · subst h14
                        have hE : funE l f = none := by rw [HOPS.out, HB.out]; rfl
                        go_wp2_with (go_at_call 117; (first | ((with_reducible refine (must_no HF.out.x (fun _ => rfl)).mono ?_); rintro e w' ⟨rfl, rfl⟩) | ((with_reducible refine (must_no HF.out.x (fun h => absurd h HEN.out)).mono ?_); rintro e w' ⟨rfl, rfl⟩) | ((with_reducible refine (must_yes (e := 113) HF.out.x).mono ?_); rintro e w' ⟨rfl, rfl⟩; have HF := Lib.hid (HF.out.bad hWF 113); (have HLK := Lib.hid HF.out.lk; have z0 := HF.out.x.cell 0; have z1 := HF.out.x.cell 1; have z2 := HF.out.x.cell 2; simp at z0 z1 z2; have zf : ∀ o, _ := HF.out.x.frozen; have c0 := HLK.out.t1.cell 0; have c1 := HLK.out.t1.cell 1; have c2 := HLK.out.t1.cell 2; simp at c0 c1 c2; have cf := HLK.out.t1.frozen))))
                        go_roundw
                        case rel => exact ⟨i + 1, by omega, rfl, HFN.out hE, HLK.out⟩
                        case measure => simp [intOf]; omega
                      · have h14' : (K == 14) = false := by simpa using h14
                        have hE : lookE l = (113, i, N) := by
                          rw [HE.out, HFE.out 113 N (by rw [HOPS.out, HB.out, h10', h14']; rfl), Nat.zero_add]
                        clear h10 h14
                        as_aux_lemma =>
                        go_wp2_with (go_at_call 117; (first | ((with_reducible refine (must_no HF.out.x (fun _ => rfl)).mono ?_); rintro e w' ⟨rfl, rfl⟩) | ((with_reducible refine (must_no HF.out.x (fun h => absurd h HEN.out)).mono ?_); rintro e w' ⟨rfl, rfl⟩) | ((with_reducible refine (must_yes (e := 113) HF.out.x).mono ?_); rintro e w' ⟨rfl, rfl⟩; have HF := Lib.hid (HF.out.bad hWF 113); (have HLK := Lib.hid HF.out.lk; have z0 := HF.out.x.cell 0; have z1 := HF.out.x.cell 1; have z2 := HF.out.x.cell 2; simp at z0 z1 z2; have zf : ∀ o, _ := HF.out.x.frozen; have c0 := HLK.out.t1.cell 0; have c1 := HLK.out.t1.cell 1; have c2 := HLK.out.t1.cell 2; simp at c0 c1 c2; have cf := HLK.out.t1.frozen))))
                        try simp only [Exit.inBlock, Exit.then]
                        exact ret_cell (cs := #[.int .i64 113, .int .i64 (i : Nat), .int .i64 (N : Nat)]) (T := 174) rfl rfl (((HLK.out.t1.set 0 _).set 1 _).set 2 _) Tryz.underlying174 rfl (by kernel_rfl) rfl ⟨_, _, _, rfl, hE, (((HLK.out.bel.setCell (by simp) _).setCell (by simp) _).setCell (by simp) _)⟩
                · have he' : (e == 0) = false := by simpa using he
                  obtain ⟨m, hfe, rfl⟩ := hS.bad he
                  have hE : lookE l = (e, i, m) := by rw [HE.out, HFE.out e m hfe, Nat.zero_add]
                  have HEN := Lib.hid he
                  clear hS HS hfe he
                  by_cases hn0 : f.ops.length = 0
                  · have hnz : (f.ops.length : Int) ≤ 0 := by omega
                    clear hn0
                    generalize f.ops.length = n at *
                    as_aux_lemma =>
                    go_wp2_with (go_at_call 117; (first | ((with_reducible refine (must_no HF.out.x (fun _ => rfl)).mono ?_); rintro e w' ⟨rfl, rfl⟩) | ((with_reducible refine (must_no HF.out.x (fun h => absurd h HEN.out)).mono ?_); rintro e w' ⟨rfl, rfl⟩) | ((with_reducible refine (must_yes (e := 113) HF.out.x).mono ?_); rintro e w' ⟨rfl, rfl⟩; have HF := Lib.hid (HF.out.bad hWF 113); (have HLK := Lib.hid HF.out.lk; have z0 := HF.out.x.cell 0; have z1 := HF.out.x.cell 1; have z2 := HF.out.x.cell 2; simp at z0 z1 z2; have zf : ∀ o, _ := HF.out.x.frozen; have c0 := HLK.out.t1.cell 0; have c1 := HLK.out.t1.cell 1; have c2 := HLK.out.t1.cell 2; simp at c0 c1 c2; have cf := HLK.out.t1.frozen))))
                    try simp only [Exit.inBlock, Exit.then]
                    exact ret_cell (cs := #[.int .i64 e, .int .i64 (i : Nat), .int .i64 (m : Nat)]) (T := 174) rfl rfl (((HLK.out.t1.set 0 _).set 1 _).set 2 _) Tryz.underlying174 rfl (by kernel_rfl) rfl ⟨_, _, _, rfl, hE, (((HLK.out.bel.setCell (by simp) _).setCell (by simp) _).setCell (by simp) _)⟩
                  · obtain ⟨pj', cj', e1, hz0⟩ := HVO.out
                    injection e1 with e1 _ e3
                    subst e1 e3
                    obtain ⟨g5, off5, rfl, hg5, hz⟩ := hz0 (by omega)
                    have w0 := hz (f.ops.length - 1) (by omega) 0 (by decide)
                    rw [← HLK.out.bel.cell (p := ⟨g5, _, none⟩) hg5] at w0
                    have hg5l : g5 < wr.heap.size := Nat.lt_of_lt_of_le hg5 HLK.out.bel.size
                    simp only [opA, List.getElem?_toArray, List.getElem?_cons_zero, Nat.add_zero] at w0
                    generalize f.ops[f.ops.length - 1].k = K at *
                    clear hz hz0
                    obtain ⟨N, hN⟩ : ∃ N, f.ops.length = N + 1 := ⟨f.ops.length - 1, by omega⟩
                    generalize f.ops.length = n at *
                    subst hN
                    clear hn0
                    simp only [Nat.add_sub_cancel] at w0
                    by_cases h10 : K = 10
                    · subst h10
                      as_aux_lemma =>
                      go_wp2_with (go_at_call 117; (first | ((with_reducible refine (must_no HF.out.x (fun _ => rfl)).mono ?_); rintro e w' ⟨rfl, rfl⟩) | ((with_reducible refine (must_no HF.out.x (fun h => absurd h HEN.out)).mono ?_); rintro e w' ⟨rfl, rfl⟩) | ((with_reducible refine (must_yes (e := 113) HF.out.x).mono ?_); rintro e w' ⟨rfl, rfl⟩; have HF := Lib.hid (HF.out.bad hWF 113); (have HLK := Lib.hid HF.out.lk; have z0 := HF.out.x.cell 0; have z1 := HF.out.x.cell 1; have z2 := HF.out.x.cell 2; simp at z0 z1 z2; have zf : ∀ o, _ := HF.out.x.frozen; have c0 := HLK.out.t1.cell 0; have c1 := HLK.out.t1.cell 1; have c2 := HLK.out.t1.cell 2; simp at c0 c1 c2; have cf := HLK.out.t1.frozen))))
                      try simp only [Exit.inBlock, Exit.then]
                      exact ret_cell (cs := #[.int .i64 e, .int .i64 (i : Nat), .int .i64 (m : Nat)]) (T := 174) rfl rfl (((HLK.out.t1.set 0 _).set 1 _).set 2 _) Tryz.underlying174 rfl (by kernel_rfl) rfl ⟨_, _, _, rfl, hE, (((HLK.out.bel.setCell (by simp) _).setCell (by simp) _).setCell (by simp) _)⟩
                    · have h10' : (K == 10) = false := by simpa using h10
                      by_cases h14 : K = 14
                      · subst h14
                        as_aux_lemma =>
                        go_wp2_with (go_at_call 117; (first | ((with_reducible refine (must_no HF.out.x (fun _ => rfl)).mono ?_); rintro e w' ⟨rfl, rfl⟩) | ((with_reducible refine (must_no HF.out.x (fun h => absurd h HEN.out)).mono ?_); rintro e w' ⟨rfl, rfl⟩) | ((with_reducible refine (must_yes (e := 113) HF.out.x).mono ?_); rintro e w' ⟨rfl, rfl⟩; have HF := Lib.hid (HF.out.bad hWF 113); (have HLK := Lib.hid HF.out.lk; have z0 := HF.out.x.cell 0; have z1 := HF.out.x.cell 1; have z2 := HF.out.x.cell 2; simp at z0 z1 z2; have zf : ∀ o, _ := HF.out.x.frozen; have c0 := HLK.out.t1.cell 0; have c1 := HLK.out.t1.cell 1; have c2 := HLK.out.t1.cell 2; simp at c0 c1 c2; have cf := HLK.out.t1.frozen))))
                        try simp only [Exit.inBlock, Exit.then]
                        exact ret_cell (cs := #[.int .i64 e, .int .i64 (i : Nat), .int .i64 (m : Nat)]) (T := 174) rfl rfl (((HLK.out.t1.set 0 _).set 1 _).set 2 _) Tryz.underlying174 rfl (by kernel_rfl) rfl ⟨_, _, _, rfl, hE, (((HLK.out.bel.setCell (by simp) _).setCell (by simp) _).setCell (by simp) _)⟩
                      · have h14' : (K == 14) = false := by simpa using h14
                        clear h10 h14
                        as_aux_lemma =>
                        go_wp2_with (go_at_call 117; (first | ((with_reducible refine (must_no HF.out.x (fun _ => rfl)).mono ?_); rintro e w' ⟨rfl, rfl⟩) | ((with_reducible refine (must_no HF.out.x (fun h => absurd h HEN.out)).mono ?_); rintro e w' ⟨rfl, rfl⟩) | ((with_reducible refine (must_yes (e := 113) HF.out.x).mono ?_); rintro e w' ⟨rfl, rfl⟩; have HF := Lib.hid (HF.out.bad hWF 113); (have HLK := Lib.hid HF.out.lk; have z0 := HF.out.x.cell 0; have z1 := HF.out.x.cell 1; have z2 := HF.out.x.cell 2; simp at z0 z1 z2; have zf : ∀ o, _ := HF.out.x.frozen; have c0 := HLK.out.t1.cell 0; have c1 := HLK.out.t1.cell 1; have c2 := HLK.out.t1.cell 2; simp at c0 c1 c2; have cf := HLK.out.t1.frozen))))
                        try simp only [Exit.inBlock, Exit.then]
                        exact ret_cell (cs := #[.int .i64 e, .int .i64 (i : Nat), .int .i64 (m : Nat)]) (T := 174) rfl rfl (((HLK.out.t1.set 0 _).set 1 _).set 2 _) Tryz.underlying174 rfl (by kernel_rfl) rfl ⟨_, _, _, rfl, hE, (((HLK.out.bel.setCell (by simp) _).setCell (by simp) _).setCell (by simp) _)⟩
        · have : i = l.length := by omega
          subst this
          have hE : lookE l = (0, 0, 0) := by rw [HE.out, funsE_none l l 0 (fun j hj => HNO.out j hj hj)]
          clear hL
          (have c0 := HLk.out.t1.cell 0; have c1 := HLk.out.t1.cell 1; have c2 := HLk.out.t1.cell 2; simp at c0 c1 c2; have cf := HLk.out.t1.frozen)
          have hpl := HLk.out.t1.lt
          as_aux_lemma =>
          go_wp2_with fail
          try simp only [Exit.inBlock, Exit.then]
          exact ret_cell (cs := #[.int .i64 0, .int .i64 (0 : Nat), .int .i64 (0 : Nat)]) (T := 174) rfl rfl (((HLk.out.t1.set 0 _).set 1 _).set 2 _) Tryz.underlying174 rfl (by kernel_rfl) rfl ⟨_, _, _, rfl, hE, (((HLk.out.bel.setCell (by simp) _).setCell (by simp) _).setCell (by simp) _)⟩
end Go.Proofs.YtlahficmkfgooaaGreat
