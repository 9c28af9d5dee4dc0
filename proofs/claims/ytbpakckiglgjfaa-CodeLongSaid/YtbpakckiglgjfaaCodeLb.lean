
/- The law 'CodeLong' at every numbers. No condition. -/
import Derived.Test.YtbpakckiglgjfaaCodeLa
import Derived.Test.YtbpakckiglgjfaaCodeTa
import Derived.Test.YtbpakckiglgjfaaCodeEa
import Derived.Laws.OwnMore
namespace Go.Proofs.Ytbpakckiglgjfaa
open Go.RowKit Cd Wire
set_option linter.unusedVariables false
section
variable {P : Program} {ops : Array Oper} {rest : List Oper} {o : Oper} {a : Act} {Q : Exit → Act → World → Prop}
/-- 'make([]byte, n)'. -/
theorem wpl_make_bytes {w : World} {x : Operand} {t e : TypeId} {z : Value} {bytes n : Nat} {c : Int}
    (hgd : o.guard = none) (ho : o.op = .makeSlice t x x) (hx : a.eval x = .int .i64 c) (hc : c = (n : Int))
    (ht : P.underlying t = some (.slice e)) (hi : Info P e z 1 bytes) (hz : z.cells = #[.int .u8 0]) (hb : bytes ≤ 1024) (hn : n ≤ 1000000)
    (h : ∀ w', w'.ownsRow w.heap.size e 1 (.slice (some ⟨w.heap.size, 0, none⟩) n n) n (List.replicate n (.int .u8 0)) → Below w.heap.size w w' → wpList P ops Q rest (a.put o.dst (.slice (some ⟨w.heap.size, 0, none⟩) n n)) w') :
    wpList P ops Q (o :: rest) a w := by
  subst hc
  obtain ⟨i, hi1, hi2, hi3, hi4⟩ := info_parts hi
  obtain ⟨w', hr, h2, h3⟩ := run_makeSlice_full (P := P) (w := w) w.heap.size t e i z 1 ht hi1 hi2 hi3 .i64 .i64 n (by omega) (by rw [hi4]; have : bytes * n ≤ 1024 * 1000000 := Nat.mul_le_mul hb hn; omega) (by unfold maxLen; omega) (Nat.le_refl _)
  have e1 : (madeCells z.cells (n * 1)).toList = List.replicate n (.int .u8 0) := by
    rw [hz, Nat.mul_one]
    apply List.ext_getElem?
    intro k
    unfold madeCells
    rw [Array.getElem?_toList, Array.getElem?_map, List.getElem?_replicate, Array.getElem?_range]
    by_cases hk : k < n
    · rw [if_pos hk, if_pos hk]
      simp [Nat.mod_one]
    · rw [if_neg hk, if_neg hk]
      rfl
  rw [e1] at h2
  refine wpList_plain hgd fun K hK => ?_
  unfold Oper.wp execOp
  simp only [ho, hx, hr, Sem.run_bind, Result.andThen_ok, Sem.run_pure]
  exact hK _ _ (h w' h2 ⟨h3.os, h3.tape, h3.output, h3.size, fun k hk => h3.block k hk (by simp)⟩)
end
def lgO : OpV := ⟨1, 0, 0, 0, -9223372036854775808⟩
def lgF (m : Nat) : FunV := ⟨0, 1, List.replicate m lgO⟩
def LgRel (W : World) (N M : Nat) (u : Value) (wr : World) : Prop := ∃ (i : Nat) (v : Value), i ≤ N ∧ u = .int .i64 i ∧ Blk wr W.heap.size 24 #[v] ∧ FunsRow wr W.heap.size v (List.replicate i (lgF M)) ∧ Below W.heap.size W wr
def LgRel2 (wz : World) (M : Nat) (u : Value) (wq : World) : Prop := ∃ (j : Nat) (vo : Value), j ≤ M ∧ u = .int .i64 j ∧ Blk wq wz.heap.size 41 #[.int .i64 0, .int .i64 1, vo] ∧ wq.ownsRow wz.heap.size 43 5 vo j (rowsO (List.replicate j lgO)) ∧ Below wz.heap.size wz wq
theorem lg_lim {N M : Nat} (hN : N ≤ 18) (hM : M ≤ 66) : Lim (List.replicate N (lgF M)) := by
  refine ⟨by simp; omega, fun f hf => ?_⟩
  rw [List.eq_of_mem_replicate hf]
  show (List.replicate M lgO).length ≤ 200
  simp; omega
theorem lg_ok (N M : Nat) : OkP (List.replicate N (lgF M)) := by
  intro f hf
  rw [List.eq_of_mem_replicate hf]
  refine ⟨⟨by show -9223372036854775808 ≤ (0 : Int); decide, by show (0 : Int) ≤ 9223372036854775807; decide⟩, ⟨by show -9223372036854775808 ≤ (1 : Int); decide, by show (1 : Int) ≤ 9223372036854775807; decide⟩, fun o ho => ?_⟩
  have ho' : o ∈ List.replicate M lgO := ho
  rw [List.eq_of_mem_replicate ho']
  refine ⟨⟨by show (0 : Int) ≤ 1; decide, by show (1 : Int) ≤ 255; decide⟩, ?_, ?_, ?_, ?_⟩
  · exact ⟨by show -9223372036854775808 ≤ (0 : Int); decide, by show (0 : Int) ≤ 9223372036854775807; decide⟩
  · exact ⟨by show -9223372036854775808 ≤ (0 : Int); decide, by show (0 : Int) ≤ 9223372036854775807; decide⟩
  · exact ⟨by show -9223372036854775808 ≤ (0 : Int); decide, by show (0 : Int) ≤ 9223372036854775807; decide⟩
  · exact ⟨by show (-9223372036854775808 : Int) ≤ -9223372036854775808; decide, by show (-9223372036854775808 : Int) ≤ 9223372036854775807; decide⟩
/-- A 1 and zeros behind it. -/
theorem lg_bytes (n : Nat) (hn : 100 ≤ n) : ∃ l : List UInt8, (l.map fun b => Value.int .u8 b.toNat) = (List.replicate n (Value.int .u8 0)).set 0 (.int .u8 1) ∧ dec ⟨l.toArray⟩ = if 16384 < n then ([], 4) else ([], 8) := by
  obtain ⟨m, rfl⟩ : ∃ m, n = m + 2 := ⟨n - 2, by omega⟩
  refine ⟨1 :: 0 :: List.replicate m 0, ?_, ?_⟩
  · rw [List.replicate_succ, List.set_cons_zero, List.replicate_succ]
    simp
  · have e : (⟨(1 :: 0 :: List.replicate m (0 : UInt8)).toArray⟩ : ByteArray) = progS [] ++ ⟨(List.replicate m (0 : UInt8)).toArray⟩ := by
      apply ByteArray.ext
      apply Array.toList_inj.1
      rw [ByteArray.data_append, Array.toList_append]
      rfl
    have hT : (⟨(List.replicate m (0 : UInt8)).toArray⟩ : ByteArray).size = m := by show (List.replicate m (0 : UInt8)).toArray.size = m; simp
    have hP : (progS []).size = 2 := by kernel_rfl
    rw [e]
    by_cases h : 16384 < m + 2
    · rw [if_pos h]
      unfold dec
      rw [if_pos (by rw [ByteArray.size_append, hT, hP]; omega)]
    · rw [if_neg h, dec_app (l := []) rfl (fun f hf => by simp at hf) _ (by rw [ByteArray.size_append, hT, hP]; omega), if_pos (by rw [hT]; omega)]
set_option maxRecDepth 100000 in
set_option maxHeartbeats 8000000 in
theorem clong_run {x y z : Int} (hx : 0 ≤ x ∧ x ≤ 255) (hy : 0 ≤ y ∧ y ≤ 255) (hz : -128 ≤ z ∧ z ≤ 127) (W : World) : Calls Try.prog 6 #[.int .u8 x, .int .u8 y, .int .i8 z] W fun e w' => e = .returned (.bool true) ∧ Below W.heap.size W w' := by
  obtain ⟨N, hN⟩ : ∃ N : Nat, 10 + x % 9 = N := ⟨(10 + x % 9).toNat, by omega⟩
  obtain ⟨M, hM⟩ : ∃ M : Nat, 58 + y % 9 = M := ⟨(58 + y % 9).toNat, by omega⟩
  have hN18 : N ≤ 18 := by omega
  have hM66 : M ≤ 66 := by omega
  have HNN := Lib.hid hN
  have HMM := Lib.hid hM
  clear hN hM
  have HT := Lib.hid (Blk.new W 24 #[.slice none 0 0])
  have HB := Lib.hid ((Below.refl _ W).alloc (Nat.le_refl _) (.cells #[.slice none 0 0] 24))
  go_enter Try.func6, Try.ntmps6
  go_wp2_with fail
  have hz0 : LgRel W N M (.int .i64 0) (W.alloc (.cells #[.slice none 0 0] 24)) := ⟨0, .slice none 0 0, by omega, rfl, HT.out, FunsRow.nil _ _, HB.out⟩
  clear HT HB
  generalize W.alloc (.cells #[.slice none 0 0] 24) = w0 at *
  go_loopw [8] (fun u wr => LgRel W N M u wr) (fun u _ => ((N : Int) - intOf u).toNat)
  case atStart => exact hz0
  case round =>
    clear hz0
    obtain ⟨i, v, hi1, rfl, hP, hR, hB⟩ := hrel
    obtain ⟨wz, rfl⟩ : ∃ wz, wz = wr := ⟨_, rfl⟩
    obtain ⟨pv, cv, rfl⟩ := hR.slice
    have HPP := Lib.hid hP
    have HR := Lib.hid hR
    have HB := Lib.hid hB
    have hpl := hP.lt
    clear hP hR hB
    by_cases hi : i < N
    · have hki : (i : Int) < 10 + x % 9 := by have := HNN.out; omega
      rw [List.length_replicate] at HPP
      have HF := Lib.hid (Blk.new wz 41 #[.int .i64 0, .int .i64 1, .slice none 0 0])
      have HBz := Lib.hid ((Below.refl _ wz).alloc (Nat.le_refl _) (.cells #[.int .i64 0, .int .i64 1, .slice none 0 0] 41))
      go_wp2_with fail
      have hz1 : LgRel2 wz M (.int .i64 0) (wz.alloc (.cells #[.int .i64 0, .int .i64 1, .slice none 0 0] 41)) := ⟨0, .slice none 0 0, by omega, rfl, HF.out, ⟨rfl, .inl ⟨rfl, rfl⟩⟩, HBz.out⟩
      clear HF HBz
      generalize wz.alloc (.cells #[.int .i64 0, .int .i64 1, .slice none 0 0] 41) = w1 at *
      go_loopw [10] (fun u wr => LgRel2 wz M u wr) (fun u _ => ((M : Int) - intOf u).toNat)
      case atStart => exact hz1
      case round =>
        clear hz1
        obtain ⟨j, vo, hj1, rfl, hF, hO, hBq⟩ := hrel
        obtain ⟨pj, cj, rfl⟩ := owns_slice hO
        have d2 : wr.cell? ⟨wz.heap.size, 2, none⟩ = some (.slice pj j cj) := hF.cell 2
        have hfl := hF.lt
        have HF := Lib.hid hF
        have HO := Lib.hid hO
        have HBq := Lib.hid hBq
        by_cases hj : j < M
        · have hkj : (j : Int) < 58 + y % 9 := by have := HMM.out; omega
          clear hF hO hBq
          go_wp2_with (at_builtin; refine wpl_append_row2 rfl rfl rfl rfl Try.underlying39 info_op rfl rfl rfl (by decide) (by decide) HO.out (by omega) HBq.out.size (by first | rfl | simp) ?_; intro v5 w5 h5 o5; have HF5 := Lib.hid (HF.out.only o5 (fun h => owns_ne HO.out HF.out (by decide) _ h rfl)); have HB5 := Lib.hid (HBq.out.trans (o5.below (B := wz.heap.size) HBq.out.size (fun k hk => (owns_type HO.out hk).choose_spec.2.1))); obtain ⟨p5, c5, rfl⟩ := owns_slice h5; have H5 := Lib.hid h5; have c3 : w5.cell? ⟨wz.heap.size, 2, none⟩ = some (.slice pj j cj) := HF5.out.cell 2; have f3 : ∀ o, w5.frozen? ⟨wz.heap.size, o, none⟩ = false := HF5.out.frozen; clear h5 o5)
          go_roundw
          case rel => exact ⟨j + 1, .slice p5 (j + 1) c5, by omega, rfl, HF5.out.set 2 _, by rw [List.replicate_succ', rowsO_snoc]; exact owns_only H5.out ((Only.refl (· = wz.heap.size) w5).set1) (owns_ne H5.out HF5.out (by decide)), HB5.out.setCell (Nat.le_refl _) _⟩
          case measure => simp [intOf]; omega
        · have hkj : 58 + y % 9 ≤ (j : Int) := by have := HMM.out; omega
          have hjM : j = M := by omega
          subst hjM
          have HPq := Lib.hid (HPP.out.below hBq)
          have hrow := HR.out.below hBq
          obtain ⟨vs, hv1, hv2, hv3⟩ := hrow
          have HV1 := Lib.hid hv1
          rw [List.length_replicate] at hv2
          have HV2 := Lib.hid hv2
          have HV3 := Lib.hid hv3
          have hop0 : wr.ownsRow W.heap.size 43 5 (.slice pj j cj) (lgF j).ops.length (rowsO (lgF j).ops) := by
            show wr.ownsRow W.heap.size 43 5 (.slice pj j cj) (List.replicate j lgO).length (rowsO (List.replicate j lgO))
            rw [List.length_replicate]; exact owns_ge hO HB.out.size
          have HOP := Lib.hid hop0
          have HBW := Lib.hid (HB.out.trans (hBq.mono HB.out.size))
          have z0 : wr.cell? ⟨W.heap.size, 0, none⟩ = some (.slice pv i cv) := HPq.out.cell 0
          have d0 : wr.cell? ⟨wz.heap.size, 0, none⟩ = some (.int .i64 0) := hF.cell 0
          have d1 : wr.cell? ⟨wz.heap.size, 1, none⟩ = some (.int .i64 1) := hF.cell 1
          clear hF hO hBq hv1 hv2 hv3 hop0
          go_wp2_with (at_builtin; refine wpl_append_row2 rfl rfl rfl rfl Try.underlying22 info_fun rfl rfl rfl (by decide) (by decide) HV2.out (by omega) HBW.out.size (by first | rfl | simp) ?_; intro v9 w9 h9 o9; have HP9 := Lib.hid (HPq.out.only o9 (fun h => owns_ne HV2.out HPq.out (by decide) _ h rfl)); have HB9 := Lib.hid (HBW.out.trans (o9.below (B := W.heap.size) HBW.out.size (fun k hk => (owns_type HV2.out hk).choose_spec.2.1))); obtain ⟨p9, c9, rfl⟩ := owns_slice h9; have HROW := Lib.hid (FunsRow.snoc (l := List.replicate i (lgF j)) (f := lgF j) HV1.out (by rw [List.length_replicate]; exact HV2.out) HV3.out HOP.out (by rw [List.length_replicate]; exact h9) o9); have c9' : w9.cell? ⟨W.heap.size, 0, none⟩ = some (.slice pv i cv) := HP9.out.cell 0; have f9 : ∀ o, w9.frozen? ⟨W.heap.size, o, none⟩ = false := HP9.out.frozen; clear h9 o9 z0 d0 d1 d2)
          go_roundw
          case rel => exact ⟨i + 1, .slice p9 (i + 1) c9, by omega, rfl, HP9.out.set 0 _, by rw [List.replicate_succ']; exact HROW.out.other ((Only.refl (· = W.heap.size) w9).set1) HP9.out (by decide) (by decide), HB9.out.setCell (Nat.le_refl _) _⟩
          case measure => simp [intOf]; omega
    · have hki : 10 + x % 9 ≤ (i : Int) := by have := HNN.out; omega
      have hiN : i = N := by omega
      subst hiN
      have HV := Lib.hid HR.out.at
      have LA := lg_lim hN18 hM66
      have OA := lg_ok i M
      have HE1 := Lib.hid (fun w v (h : FunsAt w v (List.replicate i (lgF M))) => encode_go h LA OA)
      have HE2 := Lib.hid (fun w v (h : FunsAt w v (List.replicate i (lgF M))) => rencode_go h LA OA)
      have x0 : wz.cell? ⟨W.heap.size, 0, none⟩ = some (.slice pv (List.replicate i (lgF M)).length cv) := HPP.out.cell 0
      clear LA OA HR
      generalize List.replicate i (lgF M) = l at *
      obtain ⟨sv, hsv⟩ : ∃ sv, encV l = sv := ⟨_, rfl⟩
      obtain ⟨kv, hkv⟩ : ∃ kv, encC l = kv := ⟨_, rfl⟩
      have HEV := Lib.hid hsv
      have HEC := Lib.hid hkv
      have hst := str_of (rfl : sv = sv)
      clear hsv hkv
      obtain ⟨n, hc⟩ : ∃ n : Nat, 16384 + z = n := ⟨(16384 + z).toNat, by omega⟩
      by_cases hz0 : 0 < z
      · have hn0 : 16384 < n := by omega
        obtain ⟨l8, hl8, hd8⟩ := lg_bytes n (by omega)
        rw [if_pos hn0] at hd8
        have HL8 := Lib.hid hl8
        have HD8 := Lib.hid (fun w => dec_c (W := w) hd8)
        clear hl8 hd8
        go_wp2_with (first | (go_at_call 11; ((with_reducible refine (HE1.out _ _ HV.out).mono ?_); rintro e w1 ⟨s1, k1, rfl, hs1, hk1, b1⟩; rw [HEV.out] at hs1; rw [HEC.out] at hk1; subst hs1; subst hk1; have HV := Lib.hid (HV.out.below b1); have HPP := Lib.hid (HPP.out.below b1); have HB := Lib.hid (HB.out.step b1); have x0 : w1.cell? ⟨W.heap.size, 0, none⟩ = some (.slice pv l.length cv) := HPP.out.cell 0; clear b1)) | (go_at_call 12; ((with_reducible refine (HE2.out _ _ HV.out).mono ?_); rintro e w2 ⟨s2, k2, rfl, hs1, hk1, b1⟩; rw [HEV.out] at hs1; rw [HEC.out] at hk1; subst hs1; subst hk1; have HB := Lib.hid (HB.out.step b1); clear b1)) | (refine wpl_make_bytes (n := n) rfl rfl rfl (by first | rfl | exact hc) Try.underlying45 info_u8 rfl (by decide) (by omega) ?_; intro w3 h3 b3; have H3 := Lib.hid h3; have hWg := HB.out.size; have HB := Lib.hid (HB.out.step b3); obtain ⟨g3, cap3, cur3, he3, hg3, _, hc3⟩ := owns_cells h3 (by omega); injection he3 with he3 e2 e4; subst e4; clear e2; injection he3 with he3; injection he3 with he3 _ _; subst he3; have z3 : w3.cell? ⟨w2.heap.size, 0, none⟩ = some (.int .u8 0) := (by rw [hc3 0 (by omega), List.getElem?_replicate, if_pos (by omega)]); have f3 : ∀ o, w3.frozen? ⟨w2.heap.size, o, none⟩ = false := hg3.frozen; clear h3 b3 hg3 hc3) | (refine wpl_bytes_string l8 rfl rfl rfl Try.underlying45 Try.underlying5 Try.underlying9 (by rw [HL8.out]; exact owns_set H3.out 0 (.int .u8 1)) ?_) | (go_at_call 15; ((with_reducible refine (HD8.out _).mono ?_); rintro e w4 ⟨v4, rfl, hq4, b4⟩; obtain ⟨p4, c4, rfl⟩ := hq4.slice; have HB := Lib.hid ((HB.out.setCell (p := ⟨w2.heap.size, 0, none⟩) hWg (.int .u8 1)).step b4); clear b4 hq4)) | (go_at_call 10; ((with_reducible refine (calive_any _).mono ?_); rintro e w9 ⟨rfl, b9⟩)))
        go_ret
        exact ⟨rfl, (HB.out.alloc HB.out.size _).step b9⟩
      · have hn0 : ¬ 16384 < n := by omega
        obtain ⟨l8, hl8, hd8⟩ := lg_bytes n (by omega)
        rw [if_neg hn0] at hd8
        have HL8 := Lib.hid hl8
        have HD8 := Lib.hid (fun w => dec_c (W := w) hd8)
        clear hl8 hd8
        go_wp2_with (first | (go_at_call 11; ((with_reducible refine (HE1.out _ _ HV.out).mono ?_); rintro e w1 ⟨s1, k1, rfl, hs1, hk1, b1⟩; rw [HEV.out] at hs1; rw [HEC.out] at hk1; subst hs1; subst hk1; have HV := Lib.hid (HV.out.below b1); have HPP := Lib.hid (HPP.out.below b1); have HB := Lib.hid (HB.out.step b1); have x0 : w1.cell? ⟨W.heap.size, 0, none⟩ = some (.slice pv l.length cv) := HPP.out.cell 0; clear b1)) | (go_at_call 12; ((with_reducible refine (HE2.out _ _ HV.out).mono ?_); rintro e w2 ⟨s2, k2, rfl, hs1, hk1, b1⟩; rw [HEV.out] at hs1; rw [HEC.out] at hk1; subst hs1; subst hk1; have HB := Lib.hid (HB.out.step b1); clear b1)) | (refine wpl_make_bytes (n := n) rfl rfl rfl (by first | rfl | exact hc) Try.underlying45 info_u8 rfl (by decide) (by omega) ?_; intro w3 h3 b3; have H3 := Lib.hid h3; have hWg := HB.out.size; have HB := Lib.hid (HB.out.step b3); obtain ⟨g3, cap3, cur3, he3, hg3, _, hc3⟩ := owns_cells h3 (by omega); injection he3 with he3 e2 e4; subst e4; clear e2; injection he3 with he3; injection he3 with he3 _ _; subst he3; have z3 : w3.cell? ⟨w2.heap.size, 0, none⟩ = some (.int .u8 0) := (by rw [hc3 0 (by omega), List.getElem?_replicate, if_pos (by omega)]); have f3 : ∀ o, w3.frozen? ⟨w2.heap.size, o, none⟩ = false := hg3.frozen; clear h3 b3 hg3 hc3) | (refine wpl_bytes_string l8 rfl rfl rfl Try.underlying45 Try.underlying5 Try.underlying9 (by rw [HL8.out]; exact owns_set H3.out 0 (.int .u8 1)) ?_) | (go_at_call 15; ((with_reducible refine (HD8.out _).mono ?_); rintro e w4 ⟨v4, rfl, hq4, b4⟩; obtain ⟨p4, c4, rfl⟩ := hq4.slice; have HB := Lib.hid ((HB.out.setCell (p := ⟨w2.heap.size, 0, none⟩) hWg (.int .u8 1)).step b4); clear b4 hq4)) | (go_at_call 10; ((with_reducible refine (calive_any _).mono ?_); rintro e w9 ⟨rfl, b9⟩)))
        go_ret
        exact ⟨rfl, (HB.out.alloc HB.out.size _).step b9⟩
theorem clong_all (x y z : Int) (hx : (Lit.int .u8 x).wf = true) (hy : (Lit.int .u8 y).wf = true) (hz : (Lit.int .i8 z).wf = true) (W : World) : Calls Try.prog 6 #[.int .u8 x, .int .u8 y, .int .i8 z] W fun e w' => e = .returned (.bool true) ∧ Below W.heap.size W w' :=
  clong_run (Go.bounds_u8 hx) (Go.bounds_u8 hy) (Go.bounds_i8 hz) W
end Go.Proofs.Ytbpakckiglgjfaa
