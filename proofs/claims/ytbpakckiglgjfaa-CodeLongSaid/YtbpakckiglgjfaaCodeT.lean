
/- The walks of the program's writers of programs: 'written'. No condition but that the op has its form. -/
import Derived.Test.YtbpakckiglgjfaaCodeS
namespace Go.Proofs.Ytbpakckiglgjfaa
open Go.RowKit Cd Wire
set_option linter.unusedVariables false
theorem Blk.new2 (w : World) (o : Obj) (T : TypeId) (A : Array Value) : Blk ((w.alloc o).alloc (.cells A T)) (w.heap.size + 1) T A := by
  have := Blk.new (w.alloc o) T A
  simpa using this
def PCut (w : World) (o : OpV) (p : Value) (wc : World) : Prop := ∃ b, p = .pointer (some ⟨b, 0, none⟩) ∧ Blk wc b 78 #[.bool (kd o.k), .bool (ka o.k), .bool (kb o.k), .bool (kn o.k)] ∧ Below (w.alloc (.cells (opA o) 43)).heap.size (w.alloc (.cells (opA o) 43)) wc
def WRel (w2 : World) (o : OpV) (s u : Value) (wr : World) : Prop := ∃ j : Nat, j ≤ 3 ∧ u = .int .i64 j ∧ s = .string (acc o j) ∧ Below w2.heap.size w2 wr
set_option maxRecDepth 100000 in
set_option maxHeartbeats 4000000 in
theorem written_go (o : OpV) (ho : OkO o) (hf : formB o = true) (w : World) : Calls Try.prog 22 #[.agg (opA o)] w fun e w' => ∃ r, e = .returned (.string r) ∧ r = opS o ∧ Below w.heap.size w w' := by
  have hk8 := ho.1
  have HT := Lib.hid (Blk.new w 43 (opA o))
  have HS := Lib.hid (acc_size hk8 hf)
  have HN := Lib.hid (form_reg hf)
  have HI64 := Lib.hid ho.2.2.2.2
  have hz := lebS_size (U64_zig ho.2.2.2.2).2
  have HU := Lib.hid (show U64 o.k by unfold U8 at hk8; unfold U64; omega)
  have ek : IntKind.u64.wrap o.k = o.k := by rw [IntKind.wrap_u64]; unfold U8 at hk8; omega
  clear ho hf
  go_enter Try.func22, Try.ntmps22
  go_upto_region 1 with fail
  go_cut [3] (fun p wc => PCut w o p wc)
  case first => as_aux_lemma =>
    clear HS HN HI64 hz HU ek
    obtain ⟨k, d, a, b, n⟩ := o
    simp only [opA] at HT ⊢
    have HI := Lib.hid hk8
    clear hk8
    go_region_with (go_at_call 49; ((with_reducible refine (has_any _).mono ?_); rintro e w9 ⟨bm, rfl, hL, hB0⟩; have hB := below_undrew hB0; clear hB0; have hTp : Blk w9 w.heap.size 43 #[.int .u8 k, .int .i64 d, .int .i64 a, .int .i64 b, .int .i64 n] := (by first | exact HT.out.below hB | exact (HT.out.alloc _).below hB); have z0 : w9.cell? ⟨w.heap.size, 0, none⟩ = some (.int .u8 k) := hTp.cell 0; have z1 : ∀ o, (w9.alloc o).cell? ⟨w.heap.size, 0, none⟩ = some (.int .u8 k) := (fun o => (hTp.alloc o).cell 0); have l0 := hL.at HI.out; have l1 := fun o => (hL.alloc o).at HI.out; have HL := Lib.hid hL; (try (have hTq : Blk w9 (w.heap.size + 1) 78 #[.bool false, .bool false, .bool false, .bool false] := (by have := (Blk.new (w.alloc (.cells #[.int .u8 k, .int .i64 d, .int .i64 a, .int .i64 b, .int .i64 n] 43)) 78 #[.bool false, .bool false, .bool false, .bool false]).below hB; simpa using this); have HTq := Lib.hid hTq; have q0 := hTq.cell 0; have q1 := hTq.cell 1; have q2 := hTq.cell 2; have q3 := hTq.cell 3; have qf : ∀ o, w9.frozen? ⟨w.heap.size + 1, o, none⟩ = false := hTq.frozen; clear hTq)); have HB := Lib.hid hB; clear hL hB hTp))
    all_goals (go_wp2_with fail; go_meet)
    all_goals first
      | exact ⟨_, rfl, Blk.new _ _ _, HB.out.alloc HB.out.size _⟩
      | exact ⟨_, rfl, (((HTq.out.set 0 _).set 1 _).set 2 _).set 3 _, by
          have hsz : (w.alloc (.cells #[.int .u8 k, .int .i64 d, .int .i64 a, .int .i64 b, .int .i64 n] 43)).heap.size = w.heap.size + 1 := by simp
          have h1 := ((Below.refl _ _).alloc (Nat.le_refl _) (.cells #[.bool false, .bool false, .bool false, .bool false] 78)).step HB.out
          exact (((h1.setCell (by rw [hsz]; exact Nat.le_refl _) _).setCell (by rw [hsz]; exact Nat.le_refl _) _).setCell (by rw [hsz]; exact Nat.le_refl _) _).setCell (by rw [hsz]; exact Nat.le_refl _) _⟩
  case rest =>
    obtain ⟨bp, rfl, hP, hB⟩ := hcut
    have HBc := Lib.hid (((Below.refl _ _).alloc (Nat.le_refl _) (.cells (opA o) 43)).step hB)
    have HTc := Lib.hid (HT.out.below hB)
    have HPc := Lib.hid hP
    have x0 : wc.cell? ⟨w.heap.size, 0, none⟩ = some (.int .u8 o.k) := HTc.out.cell 0
    have hlt1 := hP.lt
    have hlt2 := HTc.out.lt
    clear HT hP hB hk8
    go_wp2_with (go_at_call 21; ((with_reducible refine (uints1_any HU.out (Blk.new _ _ _)).mono ?_); rintro e w1 ⟨rfl, b1⟩; have HB1 := Lib.hid ((HBc.out.alloc HBc.out.size (.cells #[.int .u64 o.k] 49)).step b1); have HT1 := Lib.hid ((HTc.out.alloc (.cells #[.int .u64 o.k] 49)).below b1); have HP1 := Lib.hid ((HPc.out.alloc (.cells #[.int .u64 o.k] 49)).below b1); have z1 : w1.cell? ⟨w.heap.size, 1, none⟩ = some (.int .i64 o.d) := HT1.out.cell 1; have z2 : w1.cell? ⟨w.heap.size, 2, none⟩ = some (.int .i64 o.a) := HT1.out.cell 2; have z3 : w1.cell? ⟨w.heap.size, 3, none⟩ = some (.int .i64 o.b) := HT1.out.cell 3; have y0 : w1.cell? ⟨bp, 0, none⟩ = some (.bool (kd o.k)) := HP1.out.cell 0; have y1 : w1.cell? ⟨bp, 1, none⟩ = some (.bool (ka o.k)) := HP1.out.cell 1; have y2 : w1.cell? ⟨bp, 2, none⟩ = some (.bool (kb o.k)) := HP1.out.cell 2; clear b1 hlt1 hlt2 x0))
    have hz0 : WRel (w1.alloc (.cells #[.bool (kd o.k), .int .i64 o.d, .bool (ka o.k), .int .i64 o.a, .bool (kb o.k), .int .i64 o.b] 81)) o (.string (Num.lebS o.k)) (.int .i64 0) (w1.alloc (.cells #[.bool (kd o.k), .int .i64 o.d, .bool (ka o.k), .int .i64 o.a, .bool (kb o.k), .int .i64 o.b] 81)) := ⟨0, by omega, rfl, rfl, Below.refl _ _⟩
    have HE := Lib.hid (Blk.new w1 81 #[.bool (kd o.k), .int .i64 o.d, .bool (ka o.k), .int .i64 o.a, .bool (kb o.k), .int .i64 o.b])
    have HB2 := Lib.hid (HB1.out.alloc HB1.out.size (.cells #[.bool (kd o.k), .int .i64 o.d, .bool (ka o.k), .int .i64 o.a, .bool (kb o.k), .int .i64 o.b] 81))
    have HT2 := Lib.hid (HT1.out.alloc (.cells #[.bool (kd o.k), .int .i64 o.d, .bool (ka o.k), .int .i64 o.a, .bool (kb o.k), .int .i64 o.b] 81))
    have HP2 := Lib.hid (HP1.out.alloc (.cells #[.bool (kd o.k), .int .i64 o.d, .bool (ka o.k), .int .i64 o.a, .bool (kb o.k), .int .i64 o.b] 81))
    clear HB1 HT1 HP1 z1 z2 z3 y0 y1 y2 HTc HPc HBc
    generalize w1.alloc (.cells #[.bool (kd o.k), .int .i64 o.d, .bool (ka o.k), .int .i64 o.a, .bool (kb o.k), .int .i64 o.b] 81) = w2 at *
    generalize w1.heap.size = g at *
    go_loopw [4, 33] (fun s u wr => WRel w2 o s u wr) (fun s u _ => ((3 : Int) - intOf u).toNat)
    case atStart => exact hz0
    case round =>
      obtain ⟨j, hj1, rfl, rfl, hb⟩ := hrel
      have HB := Lib.hid hb
      clear hz0
      by_cases hj : j < 3
      · as_aux_lemma =>
        have he := HE.out.below hb
        have x0 : wr.cell? ⟨g, j * 2, none⟩ = some (.bool (isE o j)) := by
          rw [he.cell]
          have : j = 0 ∨ j = 1 ∨ j = 2 := by omega
          rcases this with rfl | rfl | rfl <;> rfl
        have x1 : wr.cell? ⟨g, j * 2 + 1, none⟩ = some (.int .i64 (nE o j)) := by
          rw [he.cell]
          have : j = 0 ∨ j = 1 ∨ j = 2 := by omega
          rcases this with rfl | rfl | rfl <;> rfl
        have hn := HN.out j
        have hzj := HS.out j
        have hz1 := lebS_size (x := nE o j) (by omega)
        have HU2 := Lib.hid (show U64 (nE o j) by unfold U64; omega)
        have ew : IntKind.u64.wrap (nE o j) = nE o j := by rw [IntKind.wrap_u64]; omega
        have hac : acc o (j + 1) = if isE o j = true then acc o j ++ Num.lebS (nE o j) else acc o j := rfl
        clear hb he HT2 HP2 HE HN HS HI64 HU
        cases hi : isE o j with
        | true =>
          rw [hi, if_pos rfl] at hac
          rw [hi] at x0
          clear hi
          have HA := Lib.hid hac
          clear hac
          generalize nE o j = nj at *
          generalize acc o j = sj at *
          go_wp2_with (go_at_call 21; ((with_reducible refine (uints1_any HU2.out (Blk.new2 _ _ _ _)).mono ?_); rintro e w3 ⟨rfl, b1⟩; have HB3 := Lib.hid (((HB.out.alloc HB.out.size (.cells #[.bool true, .int .i64 nj] 81)).alloc (by have := HB.out.size; simp; omega) (.cells #[.int .u64 nj] 49)).step b1); clear b1))
          go_roundw
          case rel => exact ⟨j + 1, by omega, rfl, congrArg Value.string HA.out.symm, HB3.out⟩
          case measure => simp [intOf]; omega
        | false =>
          rw [hi, if_neg (by decide)] at hac
          rw [hi] at x0
          clear hi
          have HA := Lib.hid hac
          clear hac
          generalize nE o j = nj at *
          generalize acc o j = sj at *
          go_wp2_with fail
          go_roundw
          case rel => exact ⟨j + 1, by omega, rfl, congrArg Value.string HA.out.symm, HB.out.alloc HB.out.size _⟩
          case measure => simp [intOf]; omega
      · have : j = 3 := by omega
        subst this
        have y3 : wr.cell? ⟨bp, 3, none⟩ = some (.bool (kn o.k)) := (HP2.out.below hb).cell 3
        have z4 : wr.cell? ⟨w.heap.size, 4, none⟩ = some (.int .i64 o.n) := (HT2.out.below hb).cell 4
        have hzj := HS.out 3
        have hop : opS o = if kn o.k = true then acc o 3 ++ intS o.n else acc o 3 := rfl
        clear hb HT2 HP2 HE HN HS HU hj hj1 ek
        have hz' : (intS o.n).size ≤ 10 := hz
        clear hz
        cases hk : kn o.k with
        | true =>
          rw [hk, if_pos rfl] at hop
          rw [hk] at y3
          clear hk
          have HO := Lib.hid hop
          clear hop
          generalize acc o 3 = sj at *
          go_wp2_with (go_at_call 50; ((with_reducible refine (ints1_any HI64.out (Blk.new _ _ _)).mono ?_); rintro e w3 ⟨rfl, b1⟩; have HB3 := Lib.hid ((HB.out.alloc HB.out.size (.cells #[.int .i64 o.n] 2)).step b1); clear b1))
          go_ret
          exact ⟨_, rfl, HO.out.symm, HB2.out.trans (HB3.out.mono HB2.out.size)⟩
        | false =>
          rw [hk, if_neg (by decide)] at hop
          rw [hk] at y3
          clear hk
          have HO := Lib.hid hop
          clear hop
          generalize acc o 3 = sj at *
          go_wp2_with fail
          go_ret
          exact ⟨_, rfl, HO.out.symm, HB2.out.trans (HB.out.mono HB2.out.size)⟩
theorem written_any (o : OpV) (ho : OkO o) (hf : formB o = true) (w : World) : Calls Try.prog 22 #[.agg (opA o)] w fun e w' => e = .returned (.string (opS o)) ∧ Below w.heap.size w w' :=
  (written_go o ho hf w).mono fun e w' ⟨r, he, hr, hb⟩ => ⟨by rw [he, hr], hb⟩
end Go.Proofs.Ytbpakckiglgjfaa
