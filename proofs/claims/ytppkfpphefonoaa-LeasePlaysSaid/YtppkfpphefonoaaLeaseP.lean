/- The law's walk: what each call answers, and who is alive, behind any calls. No condition. -/
import Derived.Test.YtppkfpphefonoaaLeaseQ
import Derived.Deep.DeepCutAuto
import Derived.Deep.DeepFit
import Derived.Deep.CutBlock
import Derived.Deep.QuietTactic
import Derived.BigQuiet
namespace Go.Proofs.Ytppkfpphefonoaa
open Go.RowKit Lea
set_option linter.unusedVariables false
namespace Lea
def stepA (s : StepV) : Array Value := #[.int .i64 s.d, .int .i64 s.w, .int .i64 s.v, .int .u64 s.inc, .int .i64 s.now]
end Lea
/-- Both leases hold the same, and nothing of old has changed. -/
structure Both (W wr : World) (b c : Nat) (len : Int) (l : List Seat) : Prop where
  p : PL wr b len l
  r : RL wr c len l
  bel : Below W.heap.size W wr
  ne : b ≠ c
  hb : W.heap.size ≤ b
  hc : W.heap.size ≤ c
theorem Both.alloc {W wr : World} {b c : Nat} {len : Int} {l : List Seat} (h : Both W wr b c len l) (o : Obj) : Both W (wr.alloc o) b c len l :=
  ⟨⟨h.p.blk.alloc o, h.p.n, h.p.len1, h.p.len2⟩, h.r.alloc o, h.bel.alloc h.bel.size o, h.ne, h.hb, h.hc⟩
theorem Both.drew {W wr : World} {b c : Nat} {len : Int} {l : List Seat} (h : Both W wr b c len l) : Both W wr.drew b c len l :=
  ⟨h.p.drew, h.r.drew, h.bel.drew, h.ne, h.hb, h.hc⟩
theorem Both.grow {W wr w1 : World} {b c : Nat} {len : Int} {l : List Seat} (h : Both W wr b c len l) (k : Below wr.heap.size wr w1) : Both W w1 b c len l :=
  ⟨h.p.below k h.p.blk.lt, h.r.below k h.r.blk.lt, h.bel.trans (k.mono h.bel.size), h.ne, h.hb, h.hc⟩
theorem Both.quiet {W wr w1 : World} {b c : Nat} {len : Int} {l : List Seat} (h : Both W wr b c len l) (k : Quiet wr w1) : Both W w1 b c len l :=
  h.grow (k.below (Nat.le_refl _) fun _ h => h.elim)
theorem rows_at (l : List Seat) (xs : List Nat) {i j : Nat} (hi : i < xs.length) (hj : j < 3) : (rowsOf l xs)[i * 3 + j]? = (rowL (sat l (xs[i] : Nat)))[j]? :=
  flat_get (fun (k : Nat) => rowL (sat l k)) 3 (fun _ => rfl) xs i j hi hj
/-- The program's turned. -/
structure HalfP (W wr : World) (b c : Nat) (len : Int) (l l' : List Seat) : Prop where
  p : PL wr b len l'
  r : RL wr c len l
  bel : Below W.heap.size W wr
  ne : b ≠ c
  hb : W.heap.size ≤ b
  hc : W.heap.size ≤ c
theorem Both.turnP {W wr w1 : World} {b c : Nat} {len : Int} {l l' : List Seat} (h : Both W wr b c len l) (hp : PL w1 b len l') (ho : Only (· = b) wr w1) : HalfP W w1 b c len l l' :=
  ⟨hp, h.r.only ho (fun e => h.ne e.symm), below_only h.bel ho h.hb (Nat.le_refl _), h.ne, h.hb, h.hc⟩
theorem HalfP.turnR {W wr w1 : World} {b c : Nat} {len : Int} {l l' : List Seat} (h : HalfP W wr b c len l l') (hp : RL w1 c len l') (ho : Only (· = c) wr w1) : Both W w1 b c len l' :=
  ⟨h.p.only ho h.ne, hp, below_only h.bel ho h.hc (Nat.le_refl _), h.ne, h.hb, h.hc⟩
theorem Only.drewN {S : Nat → Prop} {a w : World} (h : Only S a w) (n : Nat) : Only S a (w.drewN n) := ⟨h.os, h.tape, h.output, h.size, h.block⟩
theorem Both.drewN {W wr : World} {b c : Nat} {len : Int} {l : List Seat} (h : Both W wr b c len l) (n : Nat) : Both W (wr.drewN n) b c len l :=
  h.quiet ((Only.refl _ _).drewN n)
def PlRel (W : World) (b c : Nat) (len : Int) (n : Nat) (u : Value) (wr : World) : Prop :=
  ∃ (i : Nat) (l : List Seat), i ≤ n ∧ u = .int .i64 i ∧ Both W wr b c len l
theorem HalfP.midR {W wr w1 : World} {b c : Nat} {len : Int} {l l2 l' : List Seat} (h : HalfP W wr b c len l l') (hp : RL w1 c len l2) (ho : Only (· = c) wr w1) : HalfP W w1 b c len l2 l' :=
  ⟨h.p.only ho h.ne, hp, below_only h.bel ho h.hc (Nat.le_refl _), h.ne, h.hb, h.hc⟩
theorem h_row {w : World} {base : Nat} {e : TypeId} {size : Nat} {v : Value} {n : Nat} {xs : List Value} (h : w.ownsRow base e size v n xs) : ∃ p cap, v = .slice p n cap := by
  obtain ⟨p, cap, e, _⟩ := row_shape h; exact ⟨p, cap, e⟩
theorem RowAt.only {S : Nat → Prop} {w w' : World} {v : Value} {n size : Nat} {xs : List Value} (h : RowAt w v n xs size) (hxs : xs.length = n * size) (ho : Only S w w') (hs : ∀ g, (∃ cap len, v = .slice (some ⟨g, 0, none⟩) len cap) → ¬ S g) : RowAt w' v n xs size := by
  obtain ⟨p, cap, rfl, h1⟩ := h
  refine ⟨p, cap, rfl, fun hn => ?_⟩
  obtain ⟨g, rfl, hc⟩ := h1 hn
  refine ⟨g, rfl, fun k hk => ?_⟩
  have h0 := hc k hk
  rw [List.getElem?_eq_getElem (by omega)] at h0 ⊢
  exact ho.cell h0 (hs g ⟨_, _, rfl⟩)
theorem RowAt.base {w : World} {base : Nat} {e : TypeId} {size : Nat} {v : Value} {n : Nat} {xs : List Value} (h : w.ownsRow base e size v n xs) {g cap len : Nat} (hv : v = .slice (some ⟨g, 0, none⟩) len cap) : base ≤ g := by
  rcases h.2 with ⟨h1, _⟩ | ⟨g', cap', cur, h1, hb, _⟩
  · rw [hv] at h1; cases h1
  · rw [hv] at h1; cases h1; exact hb
theorem intsOf_len (xs : List Nat) : (intsOf xs).length = xs.length * 1 := by simp [intsOf]
theorem step_cells {w : World} {t : Nat} {s : StepV} (h : Blk w t 37 (stepA s)) : w.cell? ⟨t, 0, none⟩ = some (.int .i64 s.d) ∧ w.cell? ⟨t, 1, none⟩ = some (.int .i64 s.w) ∧ w.cell? ⟨t, 2, none⟩ = some (.int .i64 s.v) ∧ w.cell? ⟨t, 3, none⟩ = some (.int .u64 s.inc) ∧ w.cell? ⟨t, 4, none⟩ = some (.int .i64 s.now) :=
  ⟨h.cell 0, h.cell 1, h.cell 2, h.cell 3, h.cell 4⟩
namespace Lea
def expC (now : Int) : Int := if okT now = true then 0 else 2
def expX (l : List Seat) (now : Int) : List Nat := if okT now = true then expI l now 33 else []
def expLL (l : List Seat) (now : Int) : List Seat := if okT now = true then expL l now 33 else l
theorem expX_len (l : List Seat) (now : Int) : (expX l now).length ≤ 1000 := by
  unfold expX; split
  · have := expI_len l now 33; omega
  · simp
end Lea
set_option maxRecDepth 100000 in
set_option maxHeartbeats 4000000 in
theorem plays_run (W : World) (len : Int) (h1 : 1 ≤ len) (h2 : len ≤ 4294967296) (v : Value) (n : Nat) (sx : Nat → StepV) (hv : Script W v n sx) (hn : n ≤ 300) :
    Calls Try.prog 3 #[.int .i64 len, v] W fun e w' => e = .returned (.bool true) ∧ Below W.heap.size W w' := by
  obtain ⟨p, cap, rfl, hS⟩ := hv
  have HS := Lib.hid hS
  clear hS
  go_enter Try.func3, Try.ntmps3
  go_wp2_with (go_at_call 12; ((with_reducible refine (new_good len h1 h2).mono ?_); rintro e w1 ⟨rfl, h, hb1⟩; have H0 := Lib.hid h; clear h))
  have hB : Both W (w1.alloc (.cells (rc len (zeros.map rof) (zeros.map Seat.seen)) 35)) W.heap.size w1.heap.size len zeros := by
    have hlt := H0.out.blk.lt
    refine ⟨⟨H0.out.blk.alloc _, H0.out.n, h1, h2⟩, ⟨Blk.new w1 _ _, by simp [zeros], ?_, h1, h2⟩, hb1.alloc hb1.size _, by omega, Nat.le_refl _, hb1.size⟩
    intro k s hs ha
    unfold zeros at hs
    rw [List.getElem?_replicate] at hs
    split at hs
    · cases hs; cases ha
    · cases hs
  go_loopw [8] (fun u wr => PlRel W W.heap.size w1.heap.size len n u wr) (fun u _ => ((n : Int) - intOf u).toNat)
  case atStart => exact ⟨0, zeros, by omega, rfl, hB⟩
  case round =>
    obtain ⟨k, l, hk1, rfl, hB⟩ := hrel
    by_cases hk : k < n
    · obtain ⟨g, off, rfl, hg, hx⟩ := HS.out (by omega)
      have hx := hx k hk
      generalize sx k = s at hx
      have x0 : wr.cell? ⟨g, off + k * 5, none⟩ = some (.int .i64 s.d) := by rw [hB.bel.cell hg]; exact hx.1
      have x1 : wr.cell? ⟨g, off + k * 5 + 1, none⟩ = some (.int .i64 s.w) := by rw [hB.bel.cell hg]; exact hx.2.1
      have x2 : wr.cell? ⟨g, off + k * 5 + 2, none⟩ = some (.int .i64 s.v) := by rw [hB.bel.cell hg]; exact hx.2.2.1
      have x3 : wr.cell? ⟨g, off + k * 5 + 3, none⟩ = some (.int .u64 s.inc) := by rw [hB.bel.cell hg]; exact hx.2.2.2.1
      have x4 : wr.cell? ⟨g, off + k * 5 + 4, none⟩ = some (.int .i64 s.now) := by rw [hB.bel.cell hg]; exact hx.2.2.2.2
      have hbl := And.intro hB.p.blk.lt hB.r.blk.lt
      have hB1 := Lib.hid (hB.alloc (.cells (stepA s) 37))
      clear hB hx
      have htn : ¬ wr.heap.size = W.heap.size ∧ ¬ wr.heap.size = w1.heap.size := ⟨by have := hB1.out.p.blk.lt; have := hbl.1; omega, by have := hbl.2; omega⟩
      have HTn := Lib.hid htn
      clear htn
      have hT := Lib.hid (Blk.new wr 37 (stepA s))
      clear HS
      go_upto_block 2 with fail
      have HB2 : Hid (Both W (wr.alloc (.cells #[.int .i64 s.d, .int .i64 s.w, .int .i64 s.v, .int .u64 s.inc, .int .i64 s.now] 37)) W.heap.size w1.heap.size len l) := hB1
      have HT2 : Hid (Blk (wr.alloc (.cells #[.int .i64 s.d, .int .i64 s.w, .int .i64 s.v, .int .u64 s.inc, .int .i64 s.now] 37)) wr.heap.size 37 (stepA s)) := hT
      clear hB1 hT
      generalize wr.alloc (.cells #[.int .i64 s.d, .int .i64 s.w, .int .i64 s.v, .int .u64 s.inc, .int .i64 s.now] 37) = wt at *
      generalize wr.heap.size = t at *
      go_cut [10] (fun f wc => f = .bool true ∧ ∃ l', Both W wc W.heap.size w1.heap.size len l' ∧ Blk wc t 37 (stepA s))
      case first =>
        clear hx x0 x1 x2 x3 x4
        have hT := HT2.out
        have t0 : wt.cell? ⟨t, 0, none⟩ = some (.int .i64 s.d) := hT.cell 0
        have t1 : wt.cell? ⟨t, 1, none⟩ = some (.int .i64 s.w) := hT.cell 1
        have t2 : wt.cell? ⟨t, 2, none⟩ = some (.int .i64 s.v) := hT.cell 2
        have t3 : wt.cell? ⟨t, 3, none⟩ = some (.int .u64 s.inc) := hT.cell 3
        have t4 : wt.cell? ⟨t, 4, none⟩ = some (.int .i64 s.now) := hT.cell 4
        clear hT
        by_cases q0 : s.d = 0
        · as_aux_lemma =>
          have q0' : (s.d == 0) = true := by simp [q0]
          clear q0
          have HJ := Lib.hid (join_any HB2.out.p s.w s.inc s.now)
          go_wp2_with (first | (go_at_call 13; ((with_reducible refine HJ.out.mono ?_); rintro e w2 ⟨rfl, hp2, o2⟩; have HH := Lib.hid (HB2.out.turnP hp2 o2); have HTa := Lib.hid (HT2.out.only o2 HTn.out.1); obtain ⟨m0, m1, m2, m3, m4⟩ := step_cells HTa.out; have HR := Lib.hid (rjoin_any HH.out.r s.w s.inc s.now); clear hp2)) | (go_at_call 14; ((with_reducible refine HR.out.mono ?_); rintro e w3 ⟨rfl, hp3, o3⟩; have HB3 := Lib.hid (HH.out.turnR hp3 o3); have HTb := Lib.hid (HTa.out.only o3 HTn.out.2); clear hp3)))
          all_goals go_meet
          all_goals exact ⟨rfl, _, HB3.out, HTb.out⟩
        have q0' : (s.d == 0) = false := by simp [q0]
        clear q0
        by_cases q2 : s.d = 2
        · as_aux_lemma =>
          have q1' : (s.d == 1) = false := by simp [q2]
          have q2' : (s.d == 2) = true := by simp [q2]
          clear q2
          have HJ : Hid (Calls _ _ _ _ (ExpPost _ _ _ _ (expC s.now) (expX l s.now) (expLL l s.now))) := Lib.hid (expire_any HB2.out.p s.now)
          go_wp2_with (first | (go_at_call 17; ((with_reducible refine HJ.out.mono ?_); rintro e w2 ⟨v1, rfl, own1, hp2, o2⟩; have HH := Lib.hid (HB2.out.turnP hp2 o2); have HTa := Lib.hid (HT2.out.only o2 HTn.out.1); obtain ⟨m0, m1, m2, m3, m4⟩ := step_cells HTa.out; have HR : Hid (Calls _ _ _ _ (RExpPost _ _ _ _ (expC s.now) (expX l s.now) (expLL l s.now))) := Lib.hid (rexpire_any HH.out.r s.now); clear hp2; have HO1 := Lib.hid own1; have hv1 := h_row own1; clear own1; obtain ⟨p1, c1, rfl⟩ := hv1)) | (go_at_call 18; ((with_reducible refine HR.out.mono ?_); rintro e w3 ⟨v2, rfl, own2, hp3, o3⟩; have HB3 := Lib.hid (HH.out.turnR hp3 o3); have HTb := Lib.hid (HTa.out.only o3 HTn.out.2); clear hp3; have HSame := Lib.hid (same_any (expX_len _ _) (RowAt.only (RowAt.of HO1.out) (intsOf_len _) o3 (fun g ⟨_, _, hg⟩ e => by have h1 := RowAt.base HO1.out hg; have h2 := HB2.out.r.blk.lt; omega)) (RowAt.of own2)); clear own2)) | (go_at_call 19; ((with_reducible refine HSame.out.mono ?_); rintro e w4 ⟨rfl, o4⟩; have HB4 := Lib.hid (HB3.out.quiet o4); have HTc := Lib.hid (HTb.out.only o4 (fun h => h)))))
          all_goals go_meet
          all_goals exact ⟨rfl, _, HB4.out, HTc.out⟩
        have q2' : (s.d == 2) = false := by simp [q2]
        clear q2
        by_cases q3 : s.d = 3
        · as_aux_lemma =>
          have q1' : (s.d == 1) = false := by simp [q3]
          have q3' : (s.d == 3) = true := by simp [q3]
          clear q3
          have HB2a := Lib.hid (HB2.out.alloc (.cells #[.int .i64 s.w, .int .i64 s.v] 3))
          have HT2a := Lib.hid (HT2.out.alloc (.cells #[.int .i64 s.w, .int .i64 s.v] 3))
          have HJ : Hid (Calls _ _ #[.pointer (some ⟨W.heap.size, 0, none⟩), .slice (some ⟨wt.heap.size, 0, none⟩) 2 2] _ (CodePost _ _ _ ((leaveN l s.w : Int) + (leaveN (leave1 l s.w) s.v : Int)) (leave1 (leave1 l s.w) s.v))) :=
            Lib.hid (by
              have := leave_any HB2a.out.p wt.heap.size 3 [s.w, s.v] (Blk.new wt _ _) (by have := HB2.out.p.blk.lt; omega) (by simp)
              have e : ((leaveC l [s.w, s.v] : Nat) : Int) = (leaveN l s.w : Int) + (leaveN (leave1 l s.w) s.v : Int) := by simp [leaveC]
              rw [e] at this
              exact this)
          have n1 : leaveN l s.w ≤ 1 := by unfold leaveN; split <;> omega
          have n2 : leaveN (leave1 l s.w) s.v ≤ 1 := by unfold leaveN; split <;> omega
          go_wp2_with (first | (go_at_call 20; ((with_reducible refine HJ.out.mono ?_); rintro e w2 ⟨rfl, hp2, o2⟩; have HH := Lib.hid (HB2a.out.turnP hp2 o2); have HTa := Lib.hid (HT2a.out.only o2 HTn.out.1); obtain ⟨m0, m1, m2, m3, m4⟩ := step_cells HTa.out; have HR := Lib.hid (rleave_any HH.out.r s.w); clear hp2)) | (go_at_call 21; ((with_reducible refine HR.out.mono ?_); rintro e w3 ⟨rfl, hp3, o3⟩; have HH2 := Lib.hid (HH.out.midR hp3 o3); have HTb := Lib.hid (HTa.out.only o3 HTn.out.2); obtain ⟨r0, r1, r2, r3, r4⟩ := step_cells HTb.out; have HR2 := Lib.hid (rleave_any HH2.out.r s.v); clear hp3)) | (go_at_call 21; ((with_reducible refine HR2.out.mono ?_); rintro e w4 ⟨rfl, hp4, o4⟩; have HB4 := Lib.hid (HH2.out.turnR hp4 o4); have HTc := Lib.hid (HTb.out.only o4 HTn.out.2); clear hp4)))
          all_goals go_meet
          all_goals exact ⟨rfl, _, HB4.out, HTc.out⟩
        have q3' : (s.d == 3) = false := by simp [q3]
        clear q3
        by_cases q1 : s.d = 1
        · as_aux_lemma =>
          have q1' : (s.d == 1) = true := by simp [q1]
          clear q1
          go_upto_region 20 with fail
          refine Reg.wp_rely 16 (fun w => Blk w t 37 (stepA s) ∧ Below W.heap.size W w) (by kernel_rfl) (by kernel_rfl) ⟨HT2.out.drew, HB2.out.bel.drew⟩ (fun w w' h hI => ⟨hI.1.below h, hI.2.trans (h.mono hI.2.size)⟩) ?_
          refine Reg.rely_move 5 (.pointer (some ⟨W.heap.size, 0, none⟩)) rfl rfl (fun v w h => h) ?_
          refine Reg.rely_one 9 (.pointer (some ⟨t, 0, none⟩)) (.pointer (some ⟨t, 1, none⟩)) rfl rfl (fun v w h => h) (fun ρ w h hI => by simp only [execOp, h]; go_simp) ?_
          refine Reg.rely_one 107 (.pointer (some ⟨t, 1, none⟩)) (.int .i64 s.w) rfl rfl (fun v w h => h) (fun ρ w h hI => by have hc := (step_cells hI.1).2.1; clear hI; simp only [execOp, h]; go_simp) ?_
          refine Reg.rely_one 9 (.pointer (some ⟨t, 0, none⟩)) (.pointer (some ⟨t, 3, none⟩)) rfl rfl (fun v w h => h) (fun ρ w h hI => by simp only [execOp, h]; go_simp) ?_
          refine Reg.rely_one 109 (.pointer (some ⟨t, 3, none⟩)) (.int .u64 s.inc) rfl rfl (fun v w h => h) (fun ρ w h hI => by have hc := (step_cells hI.1).2.2.2.1; clear hI; simp only [execOp, h]; go_simp) ?_
          refine Reg.rely_one 9 (.pointer (some ⟨t, 0, none⟩)) (.pointer (some ⟨t, 4, none⟩)) rfl rfl (fun v w h => h) (fun ρ w h hI => by simp only [execOp, h]; go_simp) ?_
          refine Reg.rely_one 111 (.pointer (some ⟨t, 4, none⟩)) (.int .i64 s.now) rfl rfl (fun v w h => h) (fun ρ w h hI => by have hc := (step_cells hI.1).2.2.2.2; clear hI; simp only [execOp, h]; go_simp) ?_
          refine Reg.rely_call (fun v w' => v = .int .i64 (beatC l s.w s.inc s.now) ∧ PL w' W.heap.size len (beatL len l s.w s.inc s.now)) (fun w w' => Only (· = W.heap.size) w w') (fun w => PL w W.heap.size len l)
            (fun v w w' h hS => ⟨hS.1, hS.2.below h hS.2.blk.lt⟩) (fun G hG => by cases hG) (fun w w' h hI => ⟨hI.1.only h HTn.out.1, below_only hI.2 h (by have := HB2.out.hb; have := HB2.out.hc; omega) (Nat.le_refl _)⟩)
            (fun p hp => by simp only [List.mem_cons, List.mem_nil_iff, or_false] at hp; rcases hp with rfl | rfl | rfl | rfl | rfl | rfl | rfl <;> exact Reg.stab_is _ _)
            rfl (fun w w' h hJ => hJ.below h hJ.blk.lt) HB2.out.p.drew (fun G hG => by cases hG) (fun J hJ => by cases hJ)
            15 #[.pointer (some ⟨W.heap.size, 0, none⟩), .int .i64 s.w, .int .u64 s.inc, .int .i64 s.now] (fun a w hI hF => by
              have f1 : a.tmps.getD 106 undef = .pointer (some ⟨W.heap.size, 0, none⟩) := hF 106 (Reg.looksB (by kernel_rfl))
              have f2 : a.tmps.getD 108 undef = .int .i64 s.w := hF 108 (Reg.looksB (by kernel_rfl))
              have f3 : a.tmps.getD 110 undef = .int .u64 s.inc := hF 110 (Reg.looksB (by kernel_rfl))
              have f4 : a.tmps.getD 112 undef = .int .i64 s.now := hF 112 (Reg.looksB (by kernel_rfl))
              clear hF hI
              simp only [Array.getD_eq_getD_getElem?] at f1 f2 f3 f4
              simp only [execOp]; go_simp)
            (fun w hI hJ => (beat_any hJ s.w s.inc s.now).mono fun e w' h => ⟨_, h.1, ⟨rfl, h.2.1⟩, h.2.2⟩) ?_
          refine Reg.rely_move 7 (.pointer (some ⟨w1.heap.size, 0, none⟩)) rfl rfl (fun v w h => h) ?_
          refine Reg.rely_one 9 (.pointer (some ⟨t, 0, none⟩)) (.pointer (some ⟨t, 1, none⟩)) rfl rfl (fun v w h => h) (fun ρ w h hI => by simp only [execOp, h]; go_simp) ?_
          refine Reg.rely_one 115 (.pointer (some ⟨t, 1, none⟩)) (.int .i64 s.w) rfl rfl (fun v w h => h) (fun ρ w h hI => by have hc := (step_cells hI.1).2.1; clear hI; simp only [execOp, h]; go_simp) ?_
          refine Reg.rely_one 9 (.pointer (some ⟨t, 0, none⟩)) (.pointer (some ⟨t, 3, none⟩)) rfl rfl (fun v w h => h) (fun ρ w h hI => by simp only [execOp, h]; go_simp) ?_
          refine Reg.rely_one 117 (.pointer (some ⟨t, 3, none⟩)) (.int .u64 s.inc) rfl rfl (fun v w h => h) (fun ρ w h hI => by have hc := (step_cells hI.1).2.2.2.1; clear hI; simp only [execOp, h]; go_simp) ?_
          refine Reg.rely_one 9 (.pointer (some ⟨t, 0, none⟩)) (.pointer (some ⟨t, 4, none⟩)) rfl rfl (fun v w h => h) (fun ρ w h hI => by simp only [execOp, h]; go_simp) ?_
          refine Reg.rely_one 119 (.pointer (some ⟨t, 4, none⟩)) (.int .i64 s.now) rfl rfl (fun v w h => h) (fun ρ w h hI => by have hc := (step_cells hI.1).2.2.2.2; clear hI; simp only [execOp, h]; go_simp) ?_
          refine Reg.rely_call (fun v w' => v = .int .i64 (beatC l s.w s.inc s.now) ∧ RL w' w1.heap.size len (beatL len l s.w s.inc s.now)) (fun w w' => Only (· = w1.heap.size) w w') (fun w => RL w w1.heap.size len l)
            (fun v w w' h hS => ⟨hS.1, hS.2.below h hS.2.blk.lt⟩) (fun G hG => by simp only [List.mem_singleton] at hG; subst hG; exact fun v w w' h hS => ⟨hS.1, hS.2.only h (fun e => HB2.out.ne e.symm)⟩) (fun w w' h hI => ⟨hI.1.only h HTn.out.2, below_only hI.2 h (by have := HB2.out.hb; have := HB2.out.hc; omega) (Nat.le_refl _)⟩)
            (fun p hp => by simp only [List.mem_cons, List.mem_nil_iff, or_false] at hp; rcases hp with rfl | rfl | rfl | rfl | rfl | rfl | rfl | rfl | rfl | rfl | rfl | rfl | rfl | rfl | rfl <;> first | exact Reg.stab_is _ _ | exact fun v w w' h hS => ⟨hS.1, hS.2.only h HB2.out.ne⟩)
            rfl (fun w w' h hJ => hJ.below h hJ.blk.lt) HB2.out.r.drew (fun G hG => by simp only [List.mem_singleton] at hG; subst hG; exact fun w w' h hJ => hJ.only h (fun e => HB2.out.ne e.symm)) (fun J hJ => by simp only [List.mem_singleton] at hJ; subst hJ; exact fun w w' h hJ => hJ.only h HB2.out.ne)
            16 #[.pointer (some ⟨w1.heap.size, 0, none⟩), .int .i64 s.w, .int .u64 s.inc, .int .i64 s.now] (fun a w hI hF => by
              have f1 : a.tmps.getD 114 undef = .pointer (some ⟨w1.heap.size, 0, none⟩) := hF 114 (Reg.looksB (by kernel_rfl))
              have f2 : a.tmps.getD 116 undef = .int .i64 s.w := hF 116 (Reg.looksB (by kernel_rfl))
              have f3 : a.tmps.getD 118 undef = .int .u64 s.inc := hF 118 (Reg.looksB (by kernel_rfl))
              have f4 : a.tmps.getD 120 undef = .int .i64 s.now := hF 120 (Reg.looksB (by kernel_rfl))
              clear hF hI
              simp only [Array.getD_eq_getD_getElem?] at f1 f2 f3 f4
              simp only [execOp]; go_simp)
            (fun w hI hJ => (rbeat_any hJ s.w s.inc s.now).mono fun e w' h => ⟨_, h.1, ⟨rfl, h.2.1⟩, h.2.2⟩) ?_
          refine Reg.rely_nil ?_
          refine Reg.final_rel (fun v1 => ?_)
          refine Reg.final_is ?_
          refine Reg.final_is ?_
          refine Reg.final_is ?_
          refine Reg.final_is ?_
          refine Reg.final_is ?_
          refine Reg.final_is ?_
          refine Reg.final_is ?_
          refine Reg.final_rel (fun v2 => ?_)
          refine Reg.final_is ?_
          refine Reg.final_is ?_
          refine Reg.final_is ?_
          refine Reg.final_is ?_
          refine Reg.final_is ?_
          refine Reg.final_is ?_
          refine Reg.final_is ?_
          refine Reg.final_nil (fun w2 hF => ?_)
          obtain ⟨⟨⟨hb2, hbel⟩, rfl, hr2⟩, rfl, hp2⟩ := hF
          have HB3 : Hid (Both W w2 W.heap.size w1.heap.size len (beatL len l s.w s.inc s.now)) := Lib.hid ⟨hp2, hr2, hbel, HB2.out.ne, HB2.out.hb, HB2.out.hc⟩
          have HT3 := Lib.hid hb2
          clear hp2 hr2 hb2 hbel
          generalize beatC l s.w s.inc s.now = c
          simp only [List.drop_succ_cons, List.drop_zero]
          go_simp
          go_wp2_with fail
          refine Reg.fin (by kernel_rfl) ?_
          go_wp2_with fail
          go_meet
          exact ⟨rfl, _, HB3.out, HT3.out⟩
        · as_aux_lemma =>
          have q1' : (s.d == 1) = false := by simp [q1]
          clear q1
          go_wp2_with fail
          all_goals go_meet
          all_goals exact ⟨rfl, _, HB2.out, HT2.out⟩
      case rest => as_aux_lemma =>
        obtain ⟨rfl, l', hB, hT⟩ := hcut
        clear hx x0 x1 x2 x3 x4 HB2 HT2
        have HB := Lib.hid hB
        have HT := Lib.hid hT
        clear hB hT
        go_wp2_with (first | (go_at_call 22; ((with_reducible refine (rows_any HB.out.p).mono ?_); rintro e w2 ⟨v1, rfl, own1, b1⟩; have HR := Lib.hid (HB.out.r.below b1 HB.out.r.blk.lt); obtain ⟨p1, c1, rfl, k1⟩ := RowAt.of own1; clear own1)) | (go_at_call 23; ((with_reducible refine (rrows_any HR.out).mono ?_); rintro e w3 ⟨v2, rfl, own2, b2⟩; obtain ⟨p2, c2, rfl, k2⟩ := RowAt.of own2; clear own2)))
        have HB3 := Lib.hid ((HB.out.grow b1).grow b2)
        have HT3 := Lib.hid ((HT.out.below b1).below b2)
        have hm : (rowI l' 33).length ≤ 33 := rowI_len l' 33
        have hr3 : Quiet w3 w3 := Only.refl _ _
        have k1' : 0 < (rowI l' 33).length → ∃ g, p1 = some ⟨g, 0, none⟩ ∧ ∀ k : Nat, k < (rowI l' 33).length * 3 → w3.cell? ⟨g, k, none⟩ = (rowsOf l' (rowI l' 33))[k]? := fun h => by
          obtain ⟨g, e, hc⟩ := k1 h
          refine ⟨g, e, fun k hk => ?_⟩
          have h0 := hc k hk
          have hlt : k < (rowsOf l' (rowI l' 33)).length := by unfold rowsOf; rw [flat_len _ 3 (fun _ => rfl)]; exact hk
          rw [List.getElem?_eq_getElem hlt] at h0 ⊢
          exact (Only.of_below (S := fun _ => False) b2).cell h0 (fun h => h)
        clear k1
        have hra := fun (i j : Nat) (hi : i < (rowI l' 33).length) (hj : j < 3) => rows_at l' (rowI l' 33) hi hj
        have HRA := Lib.hid hra
        have HK1 := Lib.hid k1'
        have HK2 := Lib.hid k2
        clear hra k1' k2 HB HT HR b1 b2
        go_loopw [24] (fun u wq => ∃ j : Nat, j ≤ (rowI l' 33).length ∧ u = .int .i64 j ∧ Quiet w3 wq) (fun u _ => (((rowI l' 33).length : Int) - intOf u).toNat)
        case atStart => exact ⟨0, by omega, rfl, hr3⟩
        case round =>
          obtain ⟨j, hj1, rfl, ho⟩ := hrel
          have HO := Lib.hid ho
          by_cases hj : j < (rowI l' 33).length
          · obtain ⟨g1, rfl, hc1⟩ := HK1.out (by omega)
            obtain ⟨g2, rfl, hc2⟩ := HK2.out (by omega)
            clear HK1 HK2
            have hra := fun i hi => HRA.out j i hj hi
            generalize sat l' ((rowI l' 33)[j] : Nat) = q at hra
            have y0 : wr.cell? ⟨g1, j * 3, none⟩ = some (.int .i64 q.w) := ho.cell (by rw [hc1 _ (by omega)]; exact hra 0 (by omega)) (fun h => h)
            have y1 : wr.cell? ⟨g1, j * 3 + 1, none⟩ = some (.int .u64 q.inc) := ho.cell (by rw [hc1 _ (by omega)]; exact hra 1 (by omega)) (fun h => h)
            have y2 : wr.cell? ⟨g1, j * 3 + 2, none⟩ = some (.int .i64 q.til) := ho.cell (by rw [hc1 _ (by omega)]; exact hra 2 (by omega)) (fun h => h)
            have z0 : wr.cell? ⟨g2, j * 3, none⟩ = some (.int .i64 q.w) := ho.cell (by rw [hc2 _ (by omega)]; exact hra 0 (by omega)) (fun h => h)
            have z1 : wr.cell? ⟨g2, j * 3 + 1, none⟩ = some (.int .u64 q.inc) := ho.cell (by rw [hc2 _ (by omega)]; exact hra 1 (by omega)) (fun h => h)
            have z2 : wr.cell? ⟨g2, j * 3 + 2, none⟩ = some (.int .i64 q.til) := ho.cell (by rw [hc2 _ (by omega)]; exact hra 2 (by omega)) (fun h => h)
            clear ho hc1 hc2 hra HRA
            generalize (rowI l' 33).length = m at *
            go_wp2
            go_quiet (fail)
            go_wp2
            go_roundw
            case rel => exact ⟨j + 1, by omega, rfl, HO.out.drewN _⟩
            case measure => simp [intOf]; omega
          · have : j = (rowI l' 33).length := by omega
            subst this
            have HB4 := Lib.hid (HB3.out.quiet ho)
            have HT4 := Lib.hid (HT3.out.only ho (fun h => h))
            clear ho HK1 HK2 HRA HB3 HT3 HO
            generalize (rowI l' 33).length = m at *
            have hT := HT4.out
            have t0 : wr.cell? ⟨t, 0, none⟩ = some (.int .i64 s.d) := hT.cell 0
            have t1 : wr.cell? ⟨t, 1, none⟩ = some (.int .i64 s.w) := hT.cell 1
            have t2 : wr.cell? ⟨t, 2, none⟩ = some (.int .i64 s.v) := hT.cell 2
            have t3 : wr.cell? ⟨t, 3, none⟩ = some (.int .u64 s.inc) := hT.cell 3
            have t4 : wr.cell? ⟨t, 4, none⟩ = some (.int .i64 s.now) := hT.cell 4
            clear hT
            have hn' := HB4.out.p.n
            have HA := Lib.hid (alive_any HB4.out.p s.w)
            go_upto_region 39 with (go_at_call 24; ((with_reducible refine HA.out.mono ?_); rintro e w4 ⟨rfl, rfl⟩))
            cases how : okW s.w with
            | false =>
              have e1 : aliveQ l' s.w = false := by simp [aliveQ, how]
              have e2 : aliveI l' s.w = 0 := by simp [aliveI, e1]
              rw [e1, e2]
              have HQ : ∀ w, Calls Try.prog 25 #[.int .i64 s.w] w fun e w' => e = .returned (.bool false) ∧ w' = w := fun w => (rworker_any s.w w).mono fun e w' h => ⟨by rw [h.1, how], h.2.symm⟩
              go_quiet ((go_at_call 25; exact Calls.quiet_of_same (HQ _)))
              go_wp2
              go_roundw
              case rel => exact ⟨k + 1, l', by omega, rfl, HB4.out.drewN _⟩
              case measure => simp [intOf]; omega
            | true =>
              obtain ⟨j, hje, hj33, hj1⟩ := okW_nat how
              have HQ : ∀ w, Calls Try.prog 25 #[.int .i64 j] w fun e w' => e = .returned (.bool true) ∧ w' = w := fun w => (rworker_any j w).mono fun e w' h => ⟨by rw [h.1, ← hje, how], h.2.symm⟩
              have hs := (sat_k hn' hj33).symm
              have hR := HB4.out.r
              have d0 := hR.L hj33 0 (by omega)
              have d1 := hR.L hj33 1 (by omega)
              have hjw := fun ha => hR.wk hj33 rfl ha
              cases ha : (sat l' s.w).alive with
              | false =>
                have e1 : aliveQ l' s.w = false := by simp [aliveQ, ha]
                have e2 : aliveI l' s.w = 0 := by simp [aliveI, e1]
                rw [e1, e2]
                rw [hje] at ha t1 ⊢
                rw [hs, rof_off ha] at d0 d1
                have d0' : wr.cell? ⟨w1.heap.size, 1 + j * 3, none⟩ = some (.int .i64 0) := d0
                have d1' : wr.cell? ⟨w1.heap.size, 1 + j * 3 + 1, none⟩ = some (.int .u64 0) := d1
                clear d0 d1 hjw hs hR
                go_quiet ((go_at_call 25; exact Calls.quiet_of_same (HQ _)))
                go_wp2
                go_roundw
                case rel => exact ⟨k + 1, l', by omega, rfl, HB4.out.drewN _⟩
                case measure => simp [intOf]; omega
              | true =>
                have e1 : aliveQ l' s.w = true := by simp [aliveQ, ha, how]
                have e2 : aliveI l' s.w = (sat l' s.w).inc := by simp [aliveI, e1]
                rw [e1, e2]
                rw [hje] at ha t1 ⊢
                rw [hs] at hjw
                have hjw := hjw ha
                rw [hs, rof_on ha] at d0 d1
                generalize sat l' j = q at *
                have d0' : wr.cell? ⟨w1.heap.size, 1 + j * 3, none⟩ = some (.int .i64 j) := by rw [← hjw.1]; exact d0
                have d1' : wr.cell? ⟨w1.heap.size, 1 + j * 3 + 1, none⟩ = some (.int .u64 q.inc) := d1
                have hj0 : ((j : Int) != 0) = true := by simp; omega
                clear d0 d1 hjw hs hR
                go_quiet ((go_at_call 25; exact Calls.quiet_of_same (HQ _)))
                go_wp2
                go_roundw
                case rel => exact ⟨k + 1, l', by omega, rfl, HB4.out.drewN _⟩
                case measure => simp [intOf]; omega
    · have : k = n := by omega
      subst this
      have HB := Lib.hid hB
      clear hB
      go_wp2_with (go_at_call 11; ((with_reducible refine (works_any _).mono ?_); rintro e w9 ⟨rfl, hb9⟩))
      go_ret
      exact ⟨rfl, HB.out.bel.trans (hb9.mono HB.out.bel.size)⟩
set_option maxRecDepth 100000 in
set_option maxHeartbeats 4000000 in
theorem plays_law (W : World) (len : Int) (v : Value) (n : Nat) (sx : Nat → StepV) (hv : Script W v n sx) :
    Calls Try.prog 3 #[.int .i64 len, v] W fun e w' => e = .returned (.bool true) ∧ Below W.heap.size W w' := by
  by_cases hn : n ≤ 300
  · by_cases hg : (decide (1 ≤ len) && decide (len ≤ 4294967296)) = true
    · have : 1 ≤ len ∧ len ≤ 4294967296 := by simpa using hg
      exact plays_run W len this.1 this.2 v n sx hv hn
    · have hg' : (decide (1 ≤ len) && decide (len ≤ 4294967296)) = false := by simpa using hg
      have HN := Lib.hid (@new_bad W len hg')
      have hrfl := Below.refl W.heap.size W
      have h2 : ¬ (1 ≤ len ∧ len ≤ 4294967296) := by simpa using hg
      have hor : len < 1 ∨ (1 ≤ len ∧ 4294967296 < len) := by omega
      clear hg hg' h2
      obtain ⟨p, cap, rfl, hS⟩ := hv
      clear hS
      rcases hor with h1 | ⟨h1, h2⟩
      · go_enter Try.func3, Try.ntmps3
        go_wp2_with (first | (go_at_call 12; ((with_reducible refine HN.out.mono ?_); rintro e w1 ⟨rfl, rfl⟩)) | (go_at_call 11; ((with_reducible refine (works_any _).mono ?_); rintro e w9 ⟨rfl, hb9⟩)))
        go_ret
        exact ⟨rfl, hb9⟩
      · go_enter Try.func3, Try.ntmps3
        go_wp2_with (first | (go_at_call 12; ((with_reducible refine HN.out.mono ?_); rintro e w1 ⟨rfl, rfl⟩)) | (go_at_call 11; ((with_reducible refine (works_any _).mono ?_); rintro e w9 ⟨rfl, hb9⟩)))
        go_ret
        exact ⟨rfl, hb9⟩
  · have hn' : 300 < n := by omega
    clear hn
    have hrfl := Below.refl W.heap.size W
    obtain ⟨p, cap, rfl, hS⟩ := hv
    clear hS
    go_enter Try.func3, Try.ntmps3
    go_wp2_with (go_at_call 11; ((with_reducible refine (works_any _).mono ?_); rintro e w9 ⟨rfl, hb9⟩))
    go_ret
    exact ⟨rfl, hb9⟩
set_option maxRecDepth 100000 in
theorem plays_open {H : Type} {enc : TypeId × Value → H} {W : World} {base : Nat} {held : Bool} {r : Reach} {b0 : Nat} {d : DataW H} {ps : List MemPlace} (len : Int) {v : Value}
    (hval : Value.okWide Try.prog W r b0 22 v) (hd : DataW.Trod enc Try.prog W base (fun _ => true) held 22 v d ps) (_ : ∀ x ∈ ps, x.block < W.heap.size) :
    Calls Try.prog 3 #[.int .i64 len, v] W fun e w' => e = .returned (.bool true) ∧ Below W.heap.size W w' := by
  obtain ⟨n, sx, h⟩ := open_script hval hd
  exact plays_law W len v n sx h
end Go.Proofs.Ytppkfpphefonoaa
