import Derived.Test.YtghbjknpffiaiaaGreatMsY
namespace Go.Proofs.YtghbjknpffiaiaaGreat
open Go.RowKit Go.Maps Wire Ms
set_option linter.unusedVariables false
set_option linter.unusedSimpArgs false
def pf (K : Int) : Pt → FuncId
 | .J => 66
 | .T => 76
 | .P => 70
 | .I => 77
 | .F => 65
 | .K => 71
 | .E => 72
 | .N => 68
 | .H => 69
 | .A => if K = 12 then 75 else 73
 | .C => 74
 | .S => 78
 | .R => 79
 | .X => 67
def allF : List FuncId := [66, 76, 70, 77, 65, 71, 72, 68, 69, 75, 73, 74, 78, 79, 67]
theorem pf_mem (K : Int) (p : Pt) : pf K p ∈ allF := by
 cases p <;> (unfold pf; dsimp only; first | decide | (split <;> decide))
def fA (K : Int) : Array Value := ((kp K).map fun p => fcell (pf K p)).toArray
theorem fA_size (K : Int) : (fA K).size = (kp K).length := by unfold fA; simp
theorem table_in {K : Int} {A : Array Value} (h : (K, A) ∈ ftable) : kB K = true ∧ A = fA K := by
 unfold ftable at h
 simp only [List.mem_cons, Prod.mk.injEq, List.not_mem_nil, or_false] at h
 rcases h with ⟨rfl, rfl⟩ | ⟨rfl, rfl⟩ | ⟨rfl, rfl⟩ | ⟨rfl, rfl⟩ | ⟨rfl, rfl⟩ | ⟨rfl, rfl⟩ | ⟨rfl, rfl⟩ | ⟨rfl, rfl⟩ | ⟨rfl, rfl⟩ | ⟨rfl, rfl⟩ | ⟨rfl, rfl⟩ | ⟨rfl, rfl⟩ | ⟨rfl, rfl⟩ | ⟨rfl, rfl⟩ | ⟨rfl, rfl⟩ | ⟨rfl, rfl⟩ | ⟨rfl, rfl⟩ <;> exact ⟨rfl, rfl⟩
theorem table_has {K : Int} (h : kB K = true) : ∃ A, (K, A) ∈ ftable := by
 unfold kB at h
 rw [Bool.and_eq_true, decide_eq_true_eq, decide_eq_true_eq] at h
 have h' : K ∈ ftable.map Prod.fst := by
  show K ∈ [1, 2, 5, 3, 9, 14, 15, 16, 6, 4, 7, 8, 10, 11, 12, 13, 17]
  simp only [List.mem_cons, List.not_mem_nil, or_false]
  omega
 obtain ⟨⟨K', A⟩, h1, h2⟩ := List.mem_map.1 h'
 have h2' : K' = K := h2
 subst h2'
 exact ⟨A, h1⟩
theorem zF (w : World) : (zeroValue 88).run Tryz.prog w = .ok (.slice none 0 0) w := Tryz.zeroValue88 w
theorem fx_look {w w1 : World} {h fb jb : Nat} {L : List FE} {K : Int} (hK : 0 ≤ K ∧ K ≤ 255) (x : FX w w1 h fb jb L) (ht : L.map (fun a => (a.k, a.A)) = ftable) :
  ∃ b, (Instr.lookup 90 (.map (some h)) (.int .u8 K) true).run Tryz.prog w1 = .ok (.tuple #[fval ⟨K, b, fA K⟩, .bool (kB K)]) w1 ∧ ((fA K).size ≠ 0 → Blk w1 b 92 (fA K)) := by
 cases hk : kB K with
 | true =>
  obtain ⟨A, hA⟩ := table_has hk
  have hA' := hA
  rw [← ht] at hA'
  obtain ⟨a, ha, he⟩ := List.mem_map.1 hA'
  injection he with e1 e2
  have e3 := (table_in hA).2
  obtain ⟨ak, ab, aA⟩ := a
  dsimp only at e1 e2
  subst e1 e2
  refine ⟨ab, ?_, fun hn => by have := x.row _ ha; rw [← e3] at hn ⊢; exact this hn⟩
  have hl := x.map.look kdU8 Tryz.underlying90 (z := ⟨0, 0, #[]⟩) (zF w1) ha (keyU8 hK)
  rw [hl, e3]; rfl
 | false =>
  have hnone : kp K = [] := kp_far hk
  refine ⟨0, ?_, fun hn => by rw [fA_size, hnone] at hn; exact absurd rfl hn⟩
  have hl := x.map.miss kdU8 Tryz.underlying90 (z := ⟨0, 0, #[]⟩) (zF w1) (kl := KU8 K) (fun ⟨a, ha, e⟩ => by
   have e' : KU8 a.k = KU8 K := e
   unfold KU8 at e'
   injection e' with _ e'
   have hm : (a.k, a.A) ∈ ftable := by rw [← ht]; exact List.mem_map.2 ⟨a, ha, rfl⟩
   have := (table_in hm).1
   rw [e', hk] at this
   cases this) (keyU8 hK)
  rw [hl]
  have e : fA K = #[] := by unfold fA; rw [hnone]; rfl
  unfold layF
  dsimp only
  rw [e]; rfl
def MsMid (K : Int) (w1 : World) (v4 v5 : Value) (wc : World) : Prop := v5 = .bool (kB K) ∧ (∃ b, v4 = fval ⟨K, b, fA K⟩ ∧ ((fA K).size ≠ 0 → Blk wc b 92 (fA K))) ∧ Below w1.heap.size w1 wc
section
variable {w : World} {k g : Nat} {K : Int} {b1 : Bool} {Q0 : World → Prop} {R : World → Nat → World → Prop}
set_option maxRecDepth 100000 in
set_option maxHeartbeats 4000000 in
theorem msg_any (hK : 0 ≤ K ∧ K ≤ 255) (hg : g < w.heap.size)
  (h0 : Calls Tryz.prog 50 #[.pointer (some ⟨k, 0, none⟩), .pointer (some ⟨g, 0, none⟩), .int .u64 255] w (Ends Q0))
  (hq : ∀ w1, Q0 w1 → g < w1.heap.size ∧ k < w1.heap.size ∧ w1.cell? ⟨g, 0, none⟩ = some (.int .u8 K) ∧ w1.cell? ⟨k, 2, none⟩ = some (.bool b1) ∧ ∀ w2, Below w1.heap.size w1 w2 → w2.frozen? ⟨k, 2, none⟩ = false)
  (hf : ∀ w1 w2, Q0 w1 → Below w1.heap.size w1 w2 → R (w2.setCell ⟨k, 2, none⟩ (.bool (b1 || !kB K))) 0 (w2.setCell ⟨k, 2, none⟩ (.bool (b1 || !kB K))))
  (hkeep : ∀ wS i w' j A, R wS i w' → Blk wS j 92 A → Blk w' j 92 A) (hkt : ∀ w1, Q0 w1 → ∀ w2, Below w1.heap.size w1 w2 → ∀ A, ¬ Blk w2 k 92 A)
  (hstep : ∀ wS i w' (h : i < (kp K).length), R wS i w' → Calls Tryz.prog (pf K (kp K)[i]) #[.pointer (some ⟨k, 0, none⟩), .pointer (some ⟨g, 0, none⟩)] w' (Ends (R wS (i + 1)))) :
  Calls Tryz.prog 17 #[.pointer (some ⟨k, 0, none⟩), .pointer (some ⟨g, 0, none⟩)] w (Ends (fun w' => ∃ wS, R wS (kp K).length w')) := by
 have H0 := Lib.hid h0
 have HQ := Lib.hid hq
 have HF := Lib.hid hf
 have HK := Lib.hid hK
 have HKEEP := Lib.hid hkeep
 have HKT := Lib.hid hkt
 have HSTEP := Lib.hid hstep
 clear h0 hq hf hK hkeep hkt hstep hg
 go_enter Tryz.func17, Tryz.ntmps17
 go_upto_region 1 with (go_at_call 50; go_loud ((with_reducible refine H0.out.mono ?_); rintro e w1 ⟨rfl, hq1⟩; have HQ1 := Lib.hid hq1; clear hq1))
 clear H0
 obtain ⟨z0, z1, z2, z3, z4⟩ := HQ.out _ HQ1.out
 have Z0 := Lib.hid z0
 have Z2 := Lib.hid z2
 clear z0 z1 z3 z4
 go_upto_region 2 with fail
 go_cut [0, 1, 4, 5] (fun a b c d wc => a = .pointer (some ⟨k, 0, none⟩) ∧ b = .pointer (some ⟨g, 0, none⟩) ∧ MsMid K w1 c d wc)
 case first =>
  go_region_with (go_at_call 51; go_loud ((with_reducible refine Calls.mono (has_any _) ?_); rintro e w2 ⟨h, fb, jb, L, rfl, hx, hL⟩; obtain ⟨bb, hlook, hrow⟩ := fx_look HK.out hx hL; have y0 := Below.cellq hx.bel Z0.out Z2.out; have HB := Lib.hid hx.bel; have HRW := Lib.hid hrow; clear hx hrow hL))
  all_goals (go_wp2_with fail; go_meet)
  all_goals exact ⟨rfl, rfl, rfl, ⟨_, rfl, HRW.out⟩, by first | exact HB.out | exact ((Below.refl _ _).drew).trans HB.out⟩
 case rest =>
  obtain ⟨rfl, rfl, rfl, ⟨bb, rfl, hrow⟩, hb⟩ := hcut
  obtain ⟨wx, hwx⟩ : ∃ wx, wx = wc := ⟨_, rfl⟩
  subst hwx
  obtain ⟨z0, z1, z2, z3, z4⟩ := HQ.out _ HQ1.out
  have y2 : wx.cell? ⟨k, 2, none⟩ = some (.bool b1) := Below.cellq hb z1 z3
  have yf : wx.frozen? ⟨k, 2, none⟩ = false := z4 wx hb
  have HR := Lib.hid (HF.out w1 wx HQ1.out hb)
  have hsz := fA_size K
  have HRW : Hid ((kp K).length ≠ 0 → Blk (wx.setCell ⟨k, 2, none⟩ (.bool (b1 || !kB K))) bb 92 (fA K)) := Lib.hid fun hn => by
   have h := hrow (by rw [hsz]; exact hn)
   exact h.set_ne _ (fun e => by have e' : bb = k := e; rw [e'] at h; exact HKT.out w1 HQ1.out wx hb _ h)
  obtain ⟨p, hv, hp⟩ : ∃ p, fval ⟨K, bb, fA K⟩ = .slice p (kp K).length (kp K).length ∧ ((kp K).length ≠ 0 → p = some ⟨bb, 0, none⟩) := by
   unfold fval
   dsimp only
   rw [hsz]
   by_cases hz : (kp K).length = 0
   ·rw [if_pos hz, hz]; exact ⟨none, rfl, fun h => absurd rfl h⟩
   ·rw [if_neg hz]; exact ⟨_, rfl, fun _ => rfl⟩
  rw [hv]
  have HP := Lib.hid hp
  have HN : Hid ((kp K).length ≤ 6) := Lib.hid (by
   have h : ∀ c : Prop, ∀ [Decidable c], ∀ a b : List Pt, a.length ≤ 6 → b.length ≤ 6 → (if c then a else b).length ≤ 6 := fun c _ a b ha hb => by split <;> assumption
   unfold kp
   repeat refine h _ _ _ (by decide) ?_
   decide)
  have HAT : Hid (∀ i (hi : i < (kp K).length), (fA K)[i]? = some (.func (.func (pf K (kp K)[i])) #[] #[])) := Lib.hid fun i hi => by
   unfold fA fcell; simp [hi]
  clear z0 z1 z2 z3 z4 hrow hsz hv hp hb HQ HQ1 HF HK HKT Z0 Z2
  go_upto_region 2 with fail
  go_cut [0, 1, 4] (fun a b c wd => a = .pointer (some ⟨k, 0, none⟩) ∧ b = .pointer (some ⟨g, 0, none⟩) ∧ c = .slice p (kp K).length (kp K).length ∧ wd = wx.setCell ⟨k, 2, none⟩ (.bool (b1 || !kB K)))
  case first =>
   clear HR HRW HP HN HAT HKEEP HSTEP
   generalize (kp K).length = n at *
   generalize kB K = kb at *
   cases b1 with
   | true =>
    go_wp2_with fail
    go_meet
    exact ⟨rfl, rfl, rfl, rfl⟩
   | false =>
    cases kb with
    | true =>
     go_wp2_with fail
     go_meet
     exact ⟨rfl, rfl, rfl, rfl⟩
    | false =>
     go_wp2_with fail
     go_meet
     exact ⟨rfl, rfl, rfl, rfl⟩
  case rest =>
   obtain ⟨rfl, rfl, rfl, rfl⟩ := hcut
   clear y2 yf
   generalize wx.setCell ⟨k, 2, none⟩ (.bool (b1 || !kB K)) = wS at *
   obtain ⟨n, hn⟩ : ∃ n, n = (kp K).length := ⟨_, rfl⟩
   have HNK := Lib.hid hn
   rw [← hn] at HRW HP HN ⊢
   clear hn
   go_wp2_with fail
   go_loopw [35] (fun u wr => ∃ i : Nat, u = .int .i64 i ∧ i ≤ n ∧ R wS i wr) (fun u _ => ((n : Int) - intOf u).toNat)
   case atStart => exact ⟨0, rfl, Nat.zero_le _, HR.out⟩
   case round =>
    obtain ⟨i, rfl, hi, hR⟩ := hrel
    by_cases hin : i < n
    ·have hi' : i < (kp K).length := by rw [← HNK.out]; exact hin
     have hB := HKEEP.out _ _ _ _ _ hR (HRW.out (by omega))
     obtain rfl := HP.out (by omega)
     have x0 : wr.cell? ⟨bb, i, none⟩ = some (.func (.func (pf K (kp K)[i])) #[] #[]) := by rw [hB.cell i, HAT.out i hi']
     have HS := Lib.hid (HSTEP.out wS i wr hi' hR)
     have hmem : pf K (kp K)[i] ∈ allF := pf_mem _ _
     have hin' : (i : Int) < (n : Int) := by omega
     have hi0 : (0 : Int) ≤ (i : Int) := by omega
     have HE : Hid (wrap64 ((i : Int) + 1) = ((i + 1 : Nat) : Int)) := Lib.hid (wr64 rfl (by have := HN.out; omega))
     have HIN := Lib.hid hin
     clear hB hR HR HAT HSTEP HKEEP HRW HP HNK hi hin
     generalize pf K (kp K)[i] = f at *
     clear hi'
     unfold allF at hmem
     simp only [List.mem_cons, List.not_mem_nil, or_false] at hmem
     rcases hmem with rfl | rfl | rfl | rfl | rfl | rfl | rfl | rfl | rfl | rfl | rfl | rfl | rfl | rfl | rfl
     ·go_wp2_with (go_at_call 66; go_loud ((with_reducible refine HS.out.mono ?_); rintro e w9 ⟨rfl, hq9⟩; have HQ9 := Lib.hid hq9; clear hq9))
      go_roundw
      case rel => rw [HE.out]; exact ⟨i + 1, rfl, HIN.out, HQ9.out⟩
      case measure => have := HIN.out; rw [HE.out]; simp [intOf]; omega
     ·go_wp2_with (go_at_call 76; go_loud ((with_reducible refine HS.out.mono ?_); rintro e w9 ⟨rfl, hq9⟩; have HQ9 := Lib.hid hq9; clear hq9))
      go_roundw
      case rel => rw [HE.out]; exact ⟨i + 1, rfl, HIN.out, HQ9.out⟩
      case measure => have := HIN.out; rw [HE.out]; simp [intOf]; omega
     ·go_wp2_with (go_at_call 70; go_loud ((with_reducible refine HS.out.mono ?_); rintro e w9 ⟨rfl, hq9⟩; have HQ9 := Lib.hid hq9; clear hq9))
      go_roundw
      case rel => rw [HE.out]; exact ⟨i + 1, rfl, HIN.out, HQ9.out⟩
      case measure => have := HIN.out; rw [HE.out]; simp [intOf]; omega
     ·go_wp2_with (go_at_call 77; go_loud ((with_reducible refine HS.out.mono ?_); rintro e w9 ⟨rfl, hq9⟩; have HQ9 := Lib.hid hq9; clear hq9))
      go_roundw
      case rel => rw [HE.out]; exact ⟨i + 1, rfl, HIN.out, HQ9.out⟩
      case measure => have := HIN.out; rw [HE.out]; simp [intOf]; omega
     ·go_wp2_with (go_at_call 65; go_loud ((with_reducible refine HS.out.mono ?_); rintro e w9 ⟨rfl, hq9⟩; have HQ9 := Lib.hid hq9; clear hq9))
      go_roundw
      case rel => rw [HE.out]; exact ⟨i + 1, rfl, HIN.out, HQ9.out⟩
      case measure => have := HIN.out; rw [HE.out]; simp [intOf]; omega
     ·go_wp2_with (go_at_call 71; go_loud ((with_reducible refine HS.out.mono ?_); rintro e w9 ⟨rfl, hq9⟩; have HQ9 := Lib.hid hq9; clear hq9))
      go_roundw
      case rel => rw [HE.out]; exact ⟨i + 1, rfl, HIN.out, HQ9.out⟩
      case measure => have := HIN.out; rw [HE.out]; simp [intOf]; omega
     ·go_wp2_with (go_at_call 72; go_loud ((with_reducible refine HS.out.mono ?_); rintro e w9 ⟨rfl, hq9⟩; have HQ9 := Lib.hid hq9; clear hq9))
      go_roundw
      case rel => rw [HE.out]; exact ⟨i + 1, rfl, HIN.out, HQ9.out⟩
      case measure => have := HIN.out; rw [HE.out]; simp [intOf]; omega
     ·go_wp2_with (go_at_call 68; go_loud ((with_reducible refine HS.out.mono ?_); rintro e w9 ⟨rfl, hq9⟩; have HQ9 := Lib.hid hq9; clear hq9))
      go_roundw
      case rel => rw [HE.out]; exact ⟨i + 1, rfl, HIN.out, HQ9.out⟩
      case measure => have := HIN.out; rw [HE.out]; simp [intOf]; omega
     ·go_wp2_with (go_at_call 69; go_loud ((with_reducible refine HS.out.mono ?_); rintro e w9 ⟨rfl, hq9⟩; have HQ9 := Lib.hid hq9; clear hq9))
      go_roundw
      case rel => rw [HE.out]; exact ⟨i + 1, rfl, HIN.out, HQ9.out⟩
      case measure => have := HIN.out; rw [HE.out]; simp [intOf]; omega
     ·go_wp2_with (go_at_call 75; go_loud ((with_reducible refine HS.out.mono ?_); rintro e w9 ⟨rfl, hq9⟩; have HQ9 := Lib.hid hq9; clear hq9))
      go_roundw
      case rel => rw [HE.out]; exact ⟨i + 1, rfl, HIN.out, HQ9.out⟩
      case measure => have := HIN.out; rw [HE.out]; simp [intOf]; omega
     ·go_wp2_with (go_at_call 73; go_loud ((with_reducible refine HS.out.mono ?_); rintro e w9 ⟨rfl, hq9⟩; have HQ9 := Lib.hid hq9; clear hq9))
      go_roundw
      case rel => rw [HE.out]; exact ⟨i + 1, rfl, HIN.out, HQ9.out⟩
      case measure => have := HIN.out; rw [HE.out]; simp [intOf]; omega
     ·go_wp2_with (go_at_call 74; go_loud ((with_reducible refine HS.out.mono ?_); rintro e w9 ⟨rfl, hq9⟩; have HQ9 := Lib.hid hq9; clear hq9))
      go_roundw
      case rel => rw [HE.out]; exact ⟨i + 1, rfl, HIN.out, HQ9.out⟩
      case measure => have := HIN.out; rw [HE.out]; simp [intOf]; omega
     ·go_wp2_with (go_at_call 78; go_loud ((with_reducible refine HS.out.mono ?_); rintro e w9 ⟨rfl, hq9⟩; have HQ9 := Lib.hid hq9; clear hq9))
      go_roundw
      case rel => rw [HE.out]; exact ⟨i + 1, rfl, HIN.out, HQ9.out⟩
      case measure => have := HIN.out; rw [HE.out]; simp [intOf]; omega
     ·go_wp2_with (go_at_call 79; go_loud ((with_reducible refine HS.out.mono ?_); rintro e w9 ⟨rfl, hq9⟩; have HQ9 := Lib.hid hq9; clear hq9))
      go_roundw
      case rel => rw [HE.out]; exact ⟨i + 1, rfl, HIN.out, HQ9.out⟩
      case measure => have := HIN.out; rw [HE.out]; simp [intOf]; omega
     ·go_wp2_with (go_at_call 67; go_loud ((with_reducible refine HS.out.mono ?_); rintro e w9 ⟨rfl, hq9⟩; have HQ9 := Lib.hid hq9; clear hq9))
      go_roundw
      case rel => rw [HE.out]; exact ⟨i + 1, rfl, HIN.out, HQ9.out⟩
      case measure => have := HIN.out; rw [HE.out]; simp [intOf]; omega
    ·have hne : ¬ (i : Int) < (n : Int) := by omega
     obtain rfl : i = n := by omega
     have HRR := Lib.hid hR
     have HNN := HNK.out
     clear HR HAT HSTEP HKEEP HRW HP HNK hi hin hR
     go_wp2_with fail
     go_end0
     exact ⟨rfl, wS, by rw [← HNN]; exact HRR.out⟩
end
end Go.Proofs.YtghbjknpffiaiaaGreat
