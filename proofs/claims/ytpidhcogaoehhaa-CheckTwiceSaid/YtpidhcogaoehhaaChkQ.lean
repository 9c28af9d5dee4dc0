import Derived.Test.YtpidhcogaoehhaaMgg
import Derived.Test.YtpidhcogaoehhaaCodeZ
import Derived.Laws.OwnMore

/- The walk of the document's 'Reaches'. No condition but that rows are not too long and numbers fit their kinds. -/
namespace Go.Proofs.Ytpidhcogaoehhaa
open Go.RowKit Cd
set_option linter.unusedVariables false
set_option linter.unusedSimpArgs false
section
variable {P : Program} {ops : Array Oper} {rest : List Oper} {o : Oper} {a : Act} {Q : Exit → Act → World → Prop}
/-- 'make([]bool, n)'. -/
theorem wpl_make_bools {w : World} {x : Operand} {t e : TypeId} {z : Value} {bytes n : Nat}
    (hgd : o.guard = none) (ho : o.op = .makeSlice t x x) (hx : a.eval x = .int .i64 (n : Nat))
    (ht : P.underlying t = some (.slice e)) (hi : Info P e z 1 bytes) (hz : z.cells = #[.bool false]) (hb : bytes ≤ 1024) (hn : n ≤ 1000000)
    (h : ∀ w', Blk w' w.heap.size e (List.replicate n (Value.bool false)).toArray → Below w.heap.size w w' → wpList P ops Q rest (a.put o.dst (.slice (some ⟨w.heap.size, 0, none⟩) n n)) w') :
    wpList P ops Q (o :: rest) a w := by
  obtain ⟨i, hi1, hi2, hi3, hi4⟩ := info_parts hi
  have hr := run_make (P := P) (w := w) t e i z ht hi1 hi2 .i64 .i64 n n (by omega) (Int.le_refl _) (by rw [hi4]; have : bytes * n ≤ 1024 * 1000000 := Nat.mul_le_mul hb hn; omega) (by omega)
  have e1 : madeCells z.cells (n * i.size) = (List.replicate n (Value.bool false)).toArray := by
    rw [hi3, hz, Nat.mul_one]
    apply Array.toList_inj.1
    apply List.ext_getElem?
    intro k
    unfold madeCells
    rw [Array.getElem?_toList, Array.getElem?_map, List.toList_toArray, List.getElem?_replicate, Array.getElem?_range]
    by_cases hk : k < n
    · rw [if_pos hk, if_pos hk]
      simp [Nat.mod_one]
    · rw [if_neg hk, if_neg hk]
      rfl
  simp only [Int.toNat_natCast, e1] at hr
  refine wpList_plain hgd fun K hK => ?_
  unfold Oper.wp execOp
  simp only [ho, hx, hr, Sem.run_bind, Result.andThen_ok, Sem.run_pure]
  exact hK _ _ (h _ (Blk.new w e _) ((Below.refl _ w).alloc (Nat.le_refl _) _))
end
def boolsA (m : List Bool) : Array Value := (m.map Value.bool).toArray
theorem boolsA_get (m : List Bool) (j : Nat) : (boolsA m)[j]? = (m[j]?).map Value.bool := by unfold boolsA; rw [List.getElem?_toArray, List.getElem?_map]
theorem boolsA_set (m : List Bool) (j : Nat) (b : Bool) : (boolsA m).setIfInBounds j (.bool b) = boolsA (m.set j b) := by unfold boolsA; rw [List.setIfInBounds_toArray, List.map_set]
theorem boolsA_rep (n : Nat) : (List.replicate n (Value.bool false)).toArray = boolsA (List.replicate n false) := by unfold boolsA; rw [List.map_replicate]
theorem info_bool : Info Try.prog 4 (.bool false) 1 1 := by unfold Info; kernel_rfl
/-- The program in block P0, met in Mb, begun in Bb. -/
structure RxW (W : World) (x : Value) (Mb Bb : Nat) (bg m : List Bool) (wr : World) : Prop where
  t0 : Blk wr W.heap.size 24 #[x]
  met : Blk wr Mb 4 (boolsA m)
  beg : Blk wr Bb 4 (boolsA bg)
  bel : Below W.heap.size W wr
theorem RxW.step {W : World} {x : Value} {Mb Bb : Nat} {bg m : List Bool} {w w' : World} (h : RxW W x Mb Bb bg m w) (k : Below w.heap.size w w') : RxW W x Mb Bb bg m w' := ⟨h.t0.below k, h.met.below k, h.beg.below k, h.bel.step k⟩
theorem RxW.alloc {W : World} {x : Value} {Mb Bb : Nat} {bg m : List Bool} {w : World} (h : RxW W x Mb Bb bg m w) (o : Obj) : RxW W x Mb Bb bg m (w.alloc o) := h.step ((Below.refl _ _).alloc (Nat.le_refl _) o)
theorem RxW.set {W : World} {x : Value} {Mb Bb : Nat} {bg m : List Bool} {w : World} (h : RxW W x Mb Bb bg m w) (h1 : W.heap.size < Mb) (h2 : Mb ≠ Bb) (j : Nat) : RxW W x Mb Bb bg (m.set j true) (w.setCell ⟨Mb, j, none⟩ (.bool true)) :=
  ⟨h.t0.set_ne _ (by show W.heap.size ≠ Mb; omega), by rw [← boolsA_set]; exact h.met.set j _, h.beg.set_ne _ (by show Bb ≠ Mb; omega), h.bel.setCell (by show W.heap.size ≤ Mb; omega) _⟩
theorem RxW.metAt {W : World} {x : Value} {Mb Bb : Nat} {bg m : List Bool} {w : World} (h : RxW W x Mb Bb bg m w) {j : Nat} {b : Bool} (hb : m[j]? = some b) : w.cell? ⟨Mb, j, none⟩ = some (.bool b) := by rw [h.met.cell, boolsA_get, hb]; rfl
theorem RxW.begAt {W : World} {x : Value} {Mb Bb : Nat} {bg m : List Bool} {w : World} (h : RxW W x Mb Bb bg m w) {j : Nat} {b : Bool} (hb : bg[j]? = some b) : w.cell? ⟨Bb, j, none⟩ = some (.bool b) := by rw [h.beg.cell, boolsA_get, hb]; rfl
def RxRel (W : World) (l : List FunV) (fn : Nat) (x : Value) (Mb Bb : Nat) (bg : List Bool) (u : Value) (wr : World) : Prop := ∃ (r : Nat) (m : List Bool), r ≤ l.length ∧ u = .int .i64 r ∧ Rds l fn m r ∧ RxW W x Mb Bb bg m wr
def RxRel2 (W : World) (l : List FunV) (fn : Nat) (x : Value) (Mb Bb : Nat) (bg m : List Bool) (u : Value) (wr : World) : Prop := ∃ (i : Nat) (c : List Bool), i ≤ l.length ∧ u = .int .i64 i ∧ Rnd l fn m c i ∧ RxW W x Mb Bb bg c wr
/-- In a function's ops: k are looked at. -/
structure RnO (l : List FunV) (fn : Nat) (m c : List Bool) (i k : Nat) (ops : List OpV) : Prop where
  rnd : Rnd l fn m c i
  on : 0 < k → i = fn ∨ Mt c i
  tg : ∀ a (h : a < ops.length), a < k → ops[a].k = 12 → ∀ j : Nat, ops[a].n = (j : Int) → Mt c j
def RxRel3 (W : World) (l : List FunV) (fn : Nat) (x : Value) (Mb Bb : Nat) (bg m : List Bool) (i : Nat) (ops : List OpV) (u : Value) (wr : World) : Prop := ∃ (k : Nat) (c : List Bool), k ≤ ops.length ∧ u = .int .i64 k ∧ RnO l fn m c i k ops ∧ RxW W x Mb Bb bg c wr
theorem RnO.keep {l : List FunV} {fn : Nat} {m c : List Bool} {i k : Nat} {ops : List OpV} (h : RnO l fn m c i k ops) (hk : k < ops.length) (hon : i = fn ∨ Mt c i) (hno : ops[k].k ≠ 12) : RnO l fn m c i (k + 1) ops :=
  ⟨h.rnd, fun _ => hon, fun a ha hlt hka j hj => by
    rcases Nat.lt_or_ge a k with h2 | h2
    · exact h.tg a ha h2 hka j hj
    · have : a = k := by omega
      subst this; exact absurd hka hno⟩
theorem RnO.fork {l : List FunV} {fn : Nat} {m c : List Bool} {i k j : Nat} {ops : List OpV} (h : RnO l fn m c i k ops) (hk : k < ops.length) (hon : i = fn ∨ Mt c i) (hi : i < l.length) (ho : ops = l[i].ops) (h12 : ops[k].k = 12) (hn : ops[k].n = (j : Int)) (hj : j < l.length) : RnO l fn m (c.set j true) i (k + 1) ops := by
  have hjc : j < c.length := by rw [h.rnd.len]; exact hj
  have he : Fk l i j := ⟨hi, ops[k], by subst ho; exact List.getElem_mem hk, h12, hn⟩
  refine ⟨h.rnd.set hj ?_, fun _ => ?_, fun a ha hlt hka j' hj' => ?_⟩
  · rcases hon with rfl | h2
    · exact .one he
    · exact .more (h.rnd.sound i h2) he
  · rcases hon with h2 | h2
    · exact .inl h2
    · exact .inr ((met_set hjc).2 (.inr h2))
  · rcases Nat.lt_or_ge a k with h2 | h2
    · exact (met_set hjc).2 (.inr (h.tg a ha h2 hka j' hj'))
    · have : a = k := by omega
      subst this
      have e : (j : Int) = (j' : Int) := hn.symm.trans hj'
      exact (met_set hjc).2 (.inl (by omega))
theorem RnO.out {l : List FunV} {fn : Nat} {m c : List Bool} {i k : Nat} {ops : List OpV} (h : RnO l fn m c i k ops) (hi : i < l.length) (ho : ops = l[i].ops) (hx : k = ops.length ∨ ¬ (i = fn ∨ Mt c i)) : Rnd l fn m c (i + 1) := by
  refine h.rnd.next fun hon j he => ?_
  rcases hx with rfl | hx
  · obtain ⟨hi', o, hm, h12, hn⟩ := he
    rw [← ho] at hm
    obtain ⟨a, ha, rfl⟩ := List.getElem_of_mem hm
    exact h.tg a ha ha h12 j hn
  · exact absurd (hon.imp id (h.rnd.sub i)) hx
def RxRel4 (W : World) (x : Value) (Mb Bb : Nat) (bg m : List Bool) (B : Nat) (lv u : Value) (wr : World) : Prop := ∃ i : Nat, i ≤ m.length ∧ u = .int .i64 i ∧ wr.ownsRow B 3 1 lv ((List.range i).filter fun j => m.getD j false).length (((List.range i).filter fun j => m.getD j false).map fun j => Value.int .i64 (j : Nat)) ∧ RxW W x Mb Bb bg m wr
theorem filt_succ (m : List Bool) (i : Nat) : (List.range (i + 1)).filter (fun j => m.getD j false) = (List.range i).filter (fun j => m.getD j false) ++ (if m.getD i false = true then [i] else []) := by
  rw [List.range_succ, List.filter_append]
  congr 1
  cases h : m.getD i false <;> (rw [List.getD_eq_getElem?_getD] at h; simp [h])
def ReachPost (W : World) (l : List FunV) (fn : Int) (e : Ending) (w' : World) : Prop := ∃ v, e = .returned v ∧ IntsAt w' v (reachX l fn) ∧ Below W.heap.size W w'
theorem info_int : Info Try.prog 3 (.int .i64 0) 1 8 := by unfold Info; kernel_rfl
set_option maxRecDepth 100000 in
set_option maxHeartbeats 8000000 in
theorem rreach_any {W : World} {x : Value} {l : List FunV} {fn : Int} (hx : FunsAt W x l) (hl : Lim l) (ho : OkP l) : Calls Try.prog 13 #[.agg #[x], .int .i64 fn] W (ReachPost W l fn) := by
  have HV := Lib.hid hx
  have HT := Lib.hid (Blk.new W 24 #[x])
  have HB := Lib.hid ((Below.refl _ W).alloc (Nat.le_refl _) (.cells #[x] 24))
  have HM := Lib.hid (rmay11_any (hx.alloc (.cells #[x] 24)) hl ho)
  obtain ⟨p, cap, rfl⟩ := hx.slice
  clear hx ho
  have hl60 := hl.1
  have HLI := Lib.hid hl.2
  clear hl
  go_enter Try.func13, Try.ntmps13
  go_upto_region 2 with (go_at_call 8; ((with_reducible refine HM.out.mono ?_); rintro e w1 ⟨c, f0, o0, rfl, hE, b1⟩; have HT1 := Lib.hid (HT.out.below b1); have HB1 := Lib.hid (HB.out.step b1); have HE := Lib.hid hE; have t0 : w1.cell? ⟨W.heap.size, 0, none⟩ = some (.slice p l.length cap) := HT1.out.cell 0; clear b1 hE))
  have hnil : (lookE l).1 = c := by rw [HE.out]
  clear HM HT HB
  by_cases hc : c = 0
  · subst hc
    by_cases hf0 : fn < 0
    · have hR : reachX l fn = [] := by unfold reachX; rw [if_neg (by omega)]
      clear hnil
      as_aux_lemma =>
      go_wp2_with fail
      go_ret
      exact ⟨_, rfl, by rw [hR]; exact ⟨none, 0, rfl, fun h => by simp at h⟩, HB1.out⟩
    · by_cases hf1 : fn < (l.length : Int)
      · have hfd : decide ((l.length : Int) ≤ fn) = false := decide_eq_false (by omega)
        obtain ⟨F, rfl⟩ : ∃ F : Nat, fn = F := ⟨fn.toNat, by omega⟩
        have hR : reachX l (F : Int) = (reachL l F).map Int.ofNat := by unfold reachX; rw [if_pos ⟨hnil, by omega, hf1⟩, Int.toNat_natCast]
        have HR := Lib.hid hR
        have hFl : F < l.length := by omega
        clear hnil hR
        obtain ⟨hmay, hfz⟩ := look_zero HE.out
        have hEI := edge_in HE.out
        have HFZ := Lib.hid hfz
        have HEI := Lib.hid hEI
        clear hmay hfz hEI
        have h1b : W.heap.size < w1.heap.size := HT1.out.lt
        go_upto_region 6 with (refine wpl_make_bools (n := l.length) rfl rfl rfl Try.underlying58 info_bool rfl (by decide) (by omega) ?_; intro w2 hm2 b2; rw [boolsA_rep] at hm2; have HMb := Lib.hid hm2; have HT2 := Lib.hid (HT1.out.below b2); have HB2 := Lib.hid (HB1.out.step b2); clear hm2 b2)
        have h2b : w1.heap.size < w2.heap.size := HMb.out.lt
        go_upto_region 7 with (refine wpl_make_bools (n := l.length) rfl rfl rfl Try.underlying58 info_bool rfl (by decide) (by omega) ?_; intro w3 hm3 b3; rw [boolsA_rep] at hm3; have HBb := Lib.hid hm3; have HMb := Lib.hid (HMb.out.below b3); have HT3 := Lib.hid (HT2.out.below b3); have HB3 := Lib.hid (HB2.out.step b3); clear hm3 b3)
        have hz5 : w3.cell? ⟨w2.heap.size, F, none⟩ = some (.bool false) := by rw [HBb.out.cell, boolsA_get, List.getElem?_replicate, if_pos hFl]; rfl
        have hf5 : ∀ o, w3.frozen? ⟨w2.heap.size, o, none⟩ = false := HBb.out.frozen
        have HX0 : Hid (RxW W (.slice p l.length cap) w1.heap.size w2.heap.size ((List.replicate l.length false).set F true) (List.replicate l.length false) (w3.setCell ⟨w2.heap.size, F, none⟩ (.bool true))) := Lib.hid
          ⟨HT3.out.set_ne _ (by show W.heap.size ≠ w2.heap.size; omega), HMb.out.set_ne _ (by show w1.heap.size ≠ w2.heap.size; omega), by rw [← boolsA_set]; exact HBb.out.set F _, HB3.out.setCell (by show W.heap.size ≤ w2.heap.size; omega) _⟩
        have HBG : Hid (∀ i, i < l.length → ((List.replicate l.length false).set F true)[i]? = some (decide (i = F))) := Lib.hid (fun i hi => by
          rw [List.getElem?_set, List.getElem?_replicate, if_pos hi]
          by_cases e : F = i
          · subst e; simp [hFl]
          · rw [if_neg e, decide_eq_false (fun h => e h.symm)])
        clear HMb HT1 HB1 HT2 HB2 HBb HT3 HB3 t0
        go_wp2_with fail
        have hz0 : RxRel W l F (.slice p l.length cap) w1.heap.size w2.heap.size ((List.replicate l.length false).set F true) (.int .i64 0) (w3.setCell ⟨w2.heap.size, F, none⟩ (.bool true)) := ⟨0, _, by omega, rfl, Rds.start l F, HX0.out⟩
        clear HX0 hz5 hf5
        generalize w3.setCell ⟨w2.heap.size, F, none⟩ (.bool true) = wA at *
        generalize (List.replicate l.length false).set F true = bg at *
        generalize w1.heap.size = Mb at *
        generalize w2.heap.size = Bb at *
        go_loopw [11] (fun u wr => RxRel W l F (.slice p l.length cap) Mb Bb bg u wr) (fun u _ => ((l.length : Int) - intOf u).toNat)
        case atStart => exact hz0
        case round =>
          clear hz0
          obtain ⟨r, m, hr1, rfl, hD, hX⟩ := hrel
          have HD := Lib.hid hD
          have HXo := Lib.hid hX
          by_cases hr : r < l.length
          · have hrr : (r : Int) < (l.length : Int) := by omega
            have hz1 : RxRel2 W l F (.slice p l.length cap) Mb Bb bg m (.int .i64 0) wr := ⟨0, m, by omega, rfl, hD.round, hX⟩
            clear hD hX HXo
            go_wp2_with fail
            go_loopw [12] (fun u wr => RxRel2 W l F (.slice p l.length cap) Mb Bb bg m u wr) (fun u _ => ((l.length : Int) - intOf u).toNat)
            case atStart => exact hz1
            case round =>
              clear hz1
              obtain ⟨i, c, hi1, rfl, hN, hX⟩ := hrel
              have HN := Lib.hid hN
              have HXm := Lib.hid hX
              by_cases hi : i < l.length
              · have hii : (i : Int) < (l.length : Int) := by omega
                have hii0 : (0 : Int) ≤ (i : Int) := by omega
                obtain ⟨p', c', e1, hy⟩ := HV.out
                injection e1 with e1 _ e3
                subst e1 e3
                obtain ⟨g, off, rfl, hg, hy⟩ := hy (by omega)
                obtain ⟨_, _, vo, x2, hvo⟩ := hy i hi
                obtain ⟨pj, cj, rfl⟩ := hvo.slice
                have HX2 := Lib.hid (fun w (hb : Below W.heap.size W w) => show w.cell? ⟨g, off + i * 3 + 2, none⟩ = some (.slice pj l[i].ops.length cj) from by rw [hb.cell (p := ⟨g, _, none⟩) hg]; exact x2)
                have HVO := Lib.hid hvo
                have hfl := HLI.out _ (List.getElem_mem hi)
                have hfz := HFZ.out _ (List.getElem_mem hi)
                have HIN := Lib.hid (fun o ho hk => fork_in hfz (o := o) ho hk)
                have hz2 : RxRel3 W l F (.slice (some ⟨g, off, none⟩) l.length cap) Mb Bb bg m i l[i].ops (.int .i64 0) wr := ⟨0, c, by omega, rfl, ⟨hN, fun h => absurd h (by decide), fun a ha h => absurd h (Nat.not_lt_zero _)⟩, hX⟩
                clear hN hX HXm HN x2 hvo hfz hy
                generalize hops : l[i].ops = ops at *
                have HOPS := Lib.hid hops
                clear hops
                go_wp2_with fail
                go_loopw [13] (fun u wr => RxRel3 W l F (.slice (some ⟨g, off, none⟩) l.length cap) Mb Bb bg m i ops u wr) (fun u _ => ((ops.length : Int) - intOf u).toNat)
                case atStart => exact hz2
                case round =>
                  clear hz2
                  obtain ⟨k, c, hk1, rfl, hO, hX⟩ := hrel
                  have HXi := Lib.hid hX
                  have p0 : wr.cell? ⟨W.heap.size, 0, none⟩ = some (.slice (some ⟨g, off, none⟩) l.length cap) := hX.t0.cell 0
                  have y2 := HX2.out _ hX.bel
                  have hci : i < c.length := by rw [hO.rnd.len]; exact hi
                  have mi : wr.cell? ⟨Mb, i, none⟩ = some (.bool c[i]) := hX.metAt (List.getElem?_eq_getElem hci)
                  have bi : wr.cell? ⟨Bb, i, none⟩ = some (.bool (decide (i = F))) := hX.begAt (HBG.out i hi)
                  have hMl := hX.met.lt
                  have hgl : g < wr.heap.size := Nat.lt_of_lt_of_le hg hX.bel.size
                  have hMt : Mt c i ↔ c[i] = true := by unfold Mt; rw [List.getElem?_eq_getElem hci]; simp
                  by_cases hk : k < ops.length
                  · have hkk : (k : Int) < (ops.length : Int) := by omega
                    have hkk0 : (0 : Int) ≤ (k : Int) := by omega
                    by_cases hiF : i = F
                    · have hon : i = F ∨ Mt c i := .inl hiF
                      rw [decide_eq_true hiF] at bi
                      clear hiF
                      obtain ⟨pj', cj', e1, hz⟩ := HVO.out
                      injection e1 with e1 _ e3
                      subst e1 e3
                      obtain ⟨g5, off5, rfl, hg5, hz⟩ := hz (by omega)
                      have w0 := hz k hk 0 (by decide)
                      have w1 := hz k hk 1 (by decide)
                      have w2 := hz k hk 2 (by decide)
                      have w3 := hz k hk 3 (by decide)
                      have w4 := hz k hk 4 (by decide)
                      rw [← hX.bel.cell (p := ⟨g5, _, none⟩) hg5] at w0 w1 w2 w3 w4
                      have hg5l : g5 < wr.heap.size := Nat.lt_of_lt_of_le hg5 hX.bel.size
                      by_cases h12 : ops[k].k = 12
                      · have hin := HIN.out _ (List.getElem_mem hk) h12
                        unfold inB at hin
                        simp only [Bool.and_eq_true, decide_eq_true_eq] at hin
                        obtain ⟨j, hn⟩ : ∃ j : Nat, ops[k].n = (j : Int) := ⟨ops[k].n.toNat, by omega⟩
                        have hj : j < l.length := by omega
                        have hjc : j < c.length := by rw [hO.rnd.len]; exact hj
                        have mj : wr.cell? ⟨Mb, j, none⟩ = some (.bool c[j]) := hX.metAt (List.getElem?_eq_getElem hjc)
                        have fj := hX.met.frozen
                        have hjl : (j : Int) < (l.length : Int) := by omega
                        have hjl0 : (0 : Int) ≤ (j : Int) := by omega
                        have HNX := Lib.hid (hO.fork hk hon hi HOPS.out.symm h12 hn hj)
                        clear hz hO hX hin hon
                        generalize ops[k] = o at *
                        obtain ⟨ok, od, oa, ob, on⟩ := o
                        simp only at h12 hn
                        subst h12
                        subst hn
                        simp only [opA, List.getElem?_toArray, List.getElem?_cons_zero, List.getElem?_cons_succ, Nat.add_zero] at w0 w1 w2 w3 w4
                        go_wp2_with fail
                        go_roundw
                        case rel => exact ⟨k + 1, c.set j true, by omega, rfl, HNX.out, (HXi.out.set h1b (by omega) j).alloc _⟩
                        case measure => simp [intOf]; omega
                      · have HNX := Lib.hid (hO.keep hk hon h12)
                        have h12' : (ops[k].k == 12) = false := by simpa using h12
                        clear hz hO hX hon h12
                        generalize ops[k] = o at *
                        obtain ⟨ok, od, oa, ob, on⟩ := o
                        simp only at h12'
                        simp only [opA, List.getElem?_toArray, List.getElem?_cons_zero, List.getElem?_cons_succ, Nat.add_zero] at w0 w1 w2 w3 w4
                        go_wp2_with fail
                        go_roundw
                        case rel => exact ⟨k + 1, c, by omega, rfl, HNX.out, HXi.out.alloc _⟩
                        case measure => simp [intOf]; omega
                    · rw [decide_eq_false hiF] at bi
                      cases hcb : c[i] with
                      | true =>
                        have hon : i = F ∨ Mt c i := .inr (hMt.2 hcb)
                        rw [hcb] at mi
                        clear hiF hMt
                        obtain ⟨pj', cj', e1, hz⟩ := HVO.out
                        injection e1 with e1 _ e3
                        subst e1 e3
                        obtain ⟨g5, off5, rfl, hg5, hz⟩ := hz (by omega)
                        have w0 := hz k hk 0 (by decide)
                        have w1 := hz k hk 1 (by decide)
                        have w2 := hz k hk 2 (by decide)
                        have w3 := hz k hk 3 (by decide)
                        have w4 := hz k hk 4 (by decide)
                        rw [← hX.bel.cell (p := ⟨g5, _, none⟩) hg5] at w0 w1 w2 w3 w4
                        have hg5l : g5 < wr.heap.size := Nat.lt_of_lt_of_le hg5 hX.bel.size
                        by_cases h12 : ops[k].k = 12
                        · have hin := HIN.out _ (List.getElem_mem hk) h12
                          unfold inB at hin
                          simp only [Bool.and_eq_true, decide_eq_true_eq] at hin
                          obtain ⟨j, hn⟩ : ∃ j : Nat, ops[k].n = (j : Int) := ⟨ops[k].n.toNat, by omega⟩
                          have hj : j < l.length := by omega
                          have hjc : j < c.length := by rw [hO.rnd.len]; exact hj
                          have mj : wr.cell? ⟨Mb, j, none⟩ = some (.bool c[j]) := hX.metAt (List.getElem?_eq_getElem hjc)
                          have fj := hX.met.frozen
                          have hjl : (j : Int) < (l.length : Int) := by omega
                          have hjl0 : (0 : Int) ≤ (j : Int) := by omega
                          have HNX := Lib.hid (hO.fork hk hon hi HOPS.out.symm h12 hn hj)
                          clear hz hO hX hin hon
                          generalize ops[k] = o at *
                          obtain ⟨ok, od, oa, ob, on⟩ := o
                          simp only at h12 hn
                          subst h12
                          subst hn
                          simp only [opA, List.getElem?_toArray, List.getElem?_cons_zero, List.getElem?_cons_succ, Nat.add_zero] at w0 w1 w2 w3 w4
                          go_wp2_with fail
                          go_roundw
                          case rel => exact ⟨k + 1, c.set j true, by omega, rfl, HNX.out, (HXi.out.set h1b (by omega) j).alloc _⟩
                          case measure => simp [intOf]; omega
                        · have HNX := Lib.hid (hO.keep hk hon h12)
                          have h12' : (ops[k].k == 12) = false := by simpa using h12
                          clear hz hO hX hon h12
                          generalize ops[k] = o at *
                          obtain ⟨ok, od, oa, ob, on⟩ := o
                          simp only at h12'
                          simp only [opA, List.getElem?_toArray, List.getElem?_cons_zero, List.getElem?_cons_succ, Nat.add_zero] at w0 w1 w2 w3 w4
                          go_wp2_with fail
                          go_roundw
                          case rel => exact ⟨k + 1, c, by omega, rfl, HNX.out, HXi.out.alloc _⟩
                          case measure => simp [intOf]; omega
                      | false =>
                        have hon : ¬ (i = F ∨ Mt c i) := fun h => h.elim hiF (fun h => by rw [hMt.1 h] at hcb; cases hcb)
                        rw [hcb] at mi
                        have HN2 := Lib.hid (hO.out hi HOPS.out.symm (.inr hon))
                        clear hO hX hiF hMt hon hcb
                        go_wp2_with fail
                        go_roundw
                        case rel => exact ⟨i + 1, c, by omega, rfl, HN2.out, HXi.out⟩
                        case measure => simp [intOf]; omega
                  · have : k = ops.length := by omega
                    have HN2 := Lib.hid (hO.out hi HOPS.out.symm (.inl this))
                    subst this
                    clear hO hX hMt
                    go_wp2_with fail
                    go_roundw
                    case rel => exact ⟨i + 1, c, by omega, rfl, HN2.out, HXi.out⟩
                    case measure => simp [intOf]; omega
              · have : i = l.length := by omega
                subst this
                have HN2 := Lib.hid (HD.out.next HN.out)
                clear hN hX HN
                go_wp2_with fail
                go_roundw
                case rel => exact ⟨r + 1, c, by omega, rfl, HN2.out, HXm.out⟩
                case measure => simp [intOf]; omega
          · have : r = l.length := by omega
            subst this
            have hend := HD.out.end HEI.out
            have hml := hD.len
            have hXl := hX.met.lt
            have HEN := Lib.hid hend
            have HML := Lib.hid hml
            clear hD HD hend
            go_wp2_with fail
            have hz4 : RxRel4 W (.slice p l.length cap) Mb Bb bg m W.heap.size (.slice none 0 0) (.int .i64 0) wr := ⟨0, by omega, rfl, ⟨rfl, .inl ⟨rfl, rfl⟩⟩, hX⟩
            clear hX
            go_loopw [15, 16] (fun lv u wr => RxRel4 W (.slice p l.length cap) Mb Bb bg m W.heap.size lv u wr) (fun lv u _ => ((l.length : Int) - intOf u).toNat)
            case atStart => exact hz4
            case round =>
              clear hz4
              obtain ⟨i, hi1, rfl, hR, hX⟩ := hrel
              obtain ⟨pl, cl, rfl⟩ := owns_slice hR
              have HR4 := Lib.hid hR
              have HX4 := Lib.hid hX
              have hM4 := hX.met.lt
              by_cases hi : i < m.length
              · have hil : (i : Int) < (l.length : Int) := by have := HML.out; omega
                have hil0 : (0 : Int) ≤ (i : Int) := by omega
                have mi : wr.cell? ⟨Mb, i, none⟩ = some (.bool m[i]) := hX.metAt (List.getElem?_eq_getElem hi)
                have hfs := filt_succ m i
                have hgd : m.getD i false = m[i] := by rw [List.getD_eq_getElem?_getD, List.getElem?_eq_getElem hi]; rfl
                rw [hgd] at hfs
                have hfl := List.length_filter_le (fun j => m.getD j false) (List.range i)
                rw [List.length_range] at hfl
                clear hR hX hgd
                generalize m[i] = b at *
                generalize (List.range i).filter (fun j => m.getD j false) = ll at *
                cases b with
                | true =>
                  have HFS := Lib.hid hfs
                  clear hfs
                  go_wp2_with (at_builtin; refine wpl_append_row2 (ys := [.int .i64 (i : Nat)]) rfl rfl rfl rfl Try.underlying36 info_int rfl rfl rfl (by decide) (by decide) HR4.out (by omega) HX4.out.bel.size (by first | rfl | simp) ?_; intro v5 w5 h5 o5; have HX5 : Hid (RxW W (.slice p l.length cap) Mb Bb bg m w5) := Lib.hid ⟨HX4.out.t0.only o5 (fun h => owns_ne HR4.out HX4.out.t0 (by decide) _ h rfl), HX4.out.met.only o5 (fun h => owns_ne HR4.out HX4.out.met (by decide) _ h rfl), HX4.out.beg.only o5 (fun h => owns_ne HR4.out HX4.out.beg (by decide) _ h rfl), HX4.out.bel.trans (o5.below (B := W.heap.size) HX4.out.bel.size (fun k hk => (owns_type HR4.out hk).choose_spec.2.1))⟩; obtain ⟨p5, c5, rfl⟩ := owns_slice h5; have H5 := Lib.hid h5; clear h5 o5)
                  go_roundw
                  case rel => exact ⟨i + 1, by omega, rfl, by rw [HFS.out, if_pos rfl, List.length_append, List.map_append]; exact H5.out, HX5.out⟩
                  case measure => simp [intOf]; omega
                | false =>
                  have HFS := Lib.hid hfs
                  clear hfs
                  go_wp2_with fail
                  go_roundw
                  case rel => exact ⟨i + 1, by omega, rfl, by rw [HFS.out, if_neg (by decide), List.append_nil]; exact HR4.out, HX4.out⟩
                  case measure => simp [intOf]; omega
              · have hil : (l.length : Int) ≤ (i : Int) := by have := HML.out; omega
                have him : i = m.length := by omega
                have hiv : IntsAt wr (.slice pl ((List.range i).filter fun j => m.getD j false).length cl) (reachX l (F : Int)) := by
                  have hf : (List.range i).filter (fun j => m.getD j false) = reachL l F := by
                    rw [him, HML.out]
                    refine reachL_of fun j hj => ?_
                    rw [← HEN.out j]
                    unfold Mt
                    rw [List.getD_eq_getElem?_getD, List.getElem?_eq_getElem (by rw [HML.out]; exact hj)]
                    simp
                  rw [hf] at hR ⊢
                  rw [HR.out]
                  have e : (reachL l F).length = ((reachL l F).map Int.ofNat).length := by simp
                  rw [e] at hR ⊢
                  refine IntsAt.of (B := W.heap.size) (T := 3) ?_
                  rw [List.map_map]
                  exact hR
                have HIV := Lib.hid hiv
                clear hR hX hiv him
                generalize ((List.range i).filter fun j => m.getD j false).length = n4 at *
                go_wp2_with fail
                go_ret
                exact ⟨_, rfl, HIV.out, HX4.out.bel⟩
      · have hR : reachX l fn = [] := by unfold reachX; rw [if_neg (by omega)]
        have hf1' : (l.length : Int) ≤ fn := by omega
        clear hnil
        as_aux_lemma =>
        go_wp2_with fail
        go_ret
        exact ⟨_, rfl, by rw [hR]; exact ⟨none, 0, rfl, fun h => by simp at h⟩, HB1.out⟩
  · have hR : reachX l fn = [] := by unfold reachX; rw [if_neg (by omega)]
    have hc' : (c == 0) = false := by simpa using hc
    have hcn : (c != 0) = true := by simpa using hc
    have hcm : ¬ c = 0 := hc
    clear hnil hc
    as_aux_lemma =>
    go_wp2_with fail
    go_ret
    exact ⟨_, rfl, by rw [hR]; exact ⟨none, 0, rfl, fun h => by simp at h⟩, HB1.out⟩
end Go.Proofs.Ytpidhcogaoehhaa
