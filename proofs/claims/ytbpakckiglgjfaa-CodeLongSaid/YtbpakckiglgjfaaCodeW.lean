
/- The walks of the document's writer of ops. No condition but that the op has its form. -/
import Derived.Test.YtbpakckiglgjfaaCodeO
import Derived.Test.YtbpakckiglgjfaaCodeS
namespace Go.Proofs.Ytbpakckiglgjfaa
open Go.RowKit Cd Wire
set_option linter.unusedVariables false
theorem rnum_any (x : Int) (h0 : 0 ≤ x) (h1 : x ≤ 1000000) (w : World) : Calls Try.prog 51 #[.int .i64 x] w fun e w' => e = .returned (.string (Num.lebS x)) ∧ Below w.heap.size w w' := by
  have HU := Lib.hid (fun w => ruint3_any x (by unfold U64; omega) w)
  have ew : IntKind.u64.wrap x = x := by rw [IntKind.wrap_u64]; omega
  go_enter Try.func51, Try.ntmps51
  go_wp2_with (go_at_call 71; ((with_reducible refine (HU.out _).mono ?_); rintro e w' ⟨rfl, hb⟩))
  go_ret
  exact ⟨rfl, hb⟩
theorem op_cells {w : World} {b : Nat} {T : TypeId} {k d a b' n : Int} (h : Blk w b T #[.int .u8 k, .int .i64 d, .int .i64 a, .int .i64 b', .int .i64 n]) :
    w.cell? ⟨b, 0, none⟩ = some (.int .u8 k) ∧ w.cell? ⟨b, 1, none⟩ = some (.int .i64 d) ∧ w.cell? ⟨b, 2, none⟩ = some (.int .i64 a) ∧ w.cell? ⟨b, 3, none⟩ = some (.int .i64 b') ∧ w.cell? ⟨b, 4, none⟩ = some (.int .i64 n) :=
  ⟨h.cell 0, h.cell 1, h.cell 2, h.cell 3, h.cell 4⟩
/-- The op's block, and the world since then. -/
structure OpW (w : World) (b : Nat) (o : OpV) (wc : World) : Prop where
  o : Blk wc b 43 #[.int .u8 o.k, .int .i64 o.d, .int .i64 o.a, .int .i64 o.b, .int .i64 o.n]
  bel : Below w.heap.size w wc
theorem OpW.step {w : World} {b : Nat} {o : OpV} {wc w' : World} (h : OpW w b o wc) (hb : Below wc.heap.size wc w') : OpW w b o w' := ⟨h.o.below hb, h.bel.step hb⟩
theorem acc_succ_t {o : OpV} {j : Nat} (h : isE o j = true) : acc o (j + 1) = acc o j ++ Num.lebS (nE o j) := by show (if isE o j = true then _ else _) = _; rw [if_pos h]
theorem acc_succ_f {o : OpV} {j : Nat} (h : isE o j = false) : acc o (j + 1) = acc o j := by show (if isE o j = true then _ else _) = _; rw [h]; rfl
set_option maxRecDepth 100000 in
set_option maxHeartbeats 40000000 in
theorem ropbytes_go (o : OpV) (ho : OkO o) (hf : formB o = true) (w : World) : Calls Try.prog 52 #[.agg (opA o)] w fun e w' => ∃ r, e = .returned (.string r) ∧ r = opS o ∧ Below w.heap.size w w' := by
  have hk8 := ho.1
  have hk8' : 0 ≤ o.k ∧ o.k ≤ 255 := hk8
  have HC : Hid (OpW w w.heap.size o (w.alloc (.cells #[.int .u8 o.k, .int .i64 o.d, .int .i64 o.a, .int .i64 o.b, .int .i64 o.n] 43))) := Lib.hid ⟨Blk.new _ _ _, (Below.refl _ w).alloc (Nat.le_refl _) _⟩
  have hd := form_reg hf 0
  have ha := form_reg hf 1
  have hb := form_reg hf 2
  have HI := Lib.hid (fun w => rint3_any o.n ho.2.2.2.2 w)
  have HK := Lib.hid (fun w => rnum_any o.k hk8'.1 (by omega) w)
  have HD := Lib.hid (fun w => rnum_any o.d hd.1 (by have := hd.2; show o.d ≤ _; exact Int.le_trans this (by decide)) w)
  have HA := Lib.hid (fun w => rnum_any o.a ha.1 (by have := ha.2; show o.a ≤ _; exact Int.le_trans this (by decide)) w)
  have HB := Lib.hid (fun w => rnum_any o.b hb.1 (by have := hb.2; show o.b ≤ _; exact Int.le_trans this (by decide)) w)
  have HH : Hid (∀ w, Calls Try.prog 57 #[.int .u8 o.k] w fun e w' => e = .returned (.tuple #[.bool (kd o.k), .bool (ka o.k), .bool (kb o.k), .bool (kn o.k)]) ∧ w = w') := Lib.hid (rhas_any o.k hk8)
  have s5 : (intS o.n).size ≤ 10 := lebS_size (U64_zig ho.2.2.2.2).2
  have s1 := lebS_size (x := o.k) (by omega)
  have s2 : (Num.lebS o.d).size ≤ 10 := lebS_size (by have : o.d ≤ 16 := hd.2; omega)
  have s3 : (Num.lebS o.a).size ≤ 10 := lebS_size (by have : o.a ≤ 16 := ha.2; omega)
  have s4 : (Num.lebS o.b).size ≤ 10 := lebS_size (by have : o.b ≤ 16 := hb.2; omega)
  have ek : IntKind.i64.wrap o.k = o.k := by rw [IntKind.wrap_i64]; omega
  have heq : opS o = (if kn o.k = true then (if kb o.k = true then (if ka o.k = true then (if kd o.k = true then Num.lebS o.k ++ Num.lebS o.d else Num.lebS o.k) ++ Num.lebS o.a else (if kd o.k = true then Num.lebS o.k ++ Num.lebS o.d else Num.lebS o.k)) ++ Num.lebS o.b else (if ka o.k = true then (if kd o.k = true then Num.lebS o.k ++ Num.lebS o.d else Num.lebS o.k) ++ Num.lebS o.a else (if kd o.k = true then Num.lebS o.k ++ Num.lebS o.d else Num.lebS o.k))) ++ intS o.n else (if kb o.k = true then (if ka o.k = true then (if kd o.k = true then Num.lebS o.k ++ Num.lebS o.d else Num.lebS o.k) ++ Num.lebS o.a else (if kd o.k = true then Num.lebS o.k ++ Num.lebS o.d else Num.lebS o.k)) ++ Num.lebS o.b else (if ka o.k = true then (if kd o.k = true then Num.lebS o.k ++ Num.lebS o.d else Num.lebS o.k) ++ Num.lebS o.a else (if kd o.k = true then Num.lebS o.k ++ Num.lebS o.d else Num.lebS o.k)))) := rfl
  simp only [opA]
  clear ho hf hk8 hk8' hd ha hb
  generalize kd o.k = b1 at HH heq
  generalize ka o.k = b2 at HH heq
  generalize kb o.k = b3 at HH heq
  generalize kn o.k = b4 at HH heq
  generalize hs1 : Num.lebS o.k = t1 at *
  generalize hs2 : Num.lebS o.d = t2 at *
  generalize hs3 : Num.lebS o.a = t3 at *
  generalize hs4 : Num.lebS o.b = t4 at *
  generalize hs5 : intS o.n = t5 at *
  clear hs1 hs2 hs3 hs4 hs5
  cases b1 <;> cases b2 <;> cases b3 <;> cases b4 <;> simp only [if_true, Bool.false_eq_true, if_false] at heq <;> (have HE := Lib.hid heq; clear heq)
  · as_aux_lemma =>
    go_enter Try.func52, Try.ntmps52
    go_wp2_with (first | (go_at_call 57; ((with_reducible refine (HH.out _).mono ?_); rintro e w9 ⟨rfl, rfl⟩)) | (go_at_call 51; (first | ((with_reducible refine (HK.out _).mono ?_); rintro e w1 ⟨rfl, b1⟩; have HC := Lib.hid (HC.out.step b1); obtain ⟨x0, x1, x2, x3, x4⟩ := op_cells HC.out.o; clear b1) | ((with_reducible refine (HD.out _).mono ?_); rintro e w1 ⟨rfl, b1⟩; have HC := Lib.hid (HC.out.step b1); obtain ⟨x0, x1, x2, x3, x4⟩ := op_cells HC.out.o; clear b1) | ((with_reducible refine (HA.out _).mono ?_); rintro e w1 ⟨rfl, b1⟩; have HC := Lib.hid (HC.out.step b1); obtain ⟨x0, x1, x2, x3, x4⟩ := op_cells HC.out.o; clear b1) | ((with_reducible refine (HB.out _).mono ?_); rintro e w1 ⟨rfl, b1⟩; have HC := Lib.hid (HC.out.step b1); obtain ⟨x0, x1, x2, x3, x4⟩ := op_cells HC.out.o; clear b1))) | (go_at_call 72; ((with_reducible refine (HI.out _).mono ?_); rintro e w1 ⟨rfl, b1⟩; have HC := Lib.hid (HC.out.step b1); obtain ⟨x0, x1, x2, x3, x4⟩ := op_cells HC.out.o; clear b1)))
    go_ret
    exact ⟨_, rfl, HE.out.symm, HC.out.bel⟩
  · as_aux_lemma =>
    go_enter Try.func52, Try.ntmps52
    go_wp2_with (first | (go_at_call 57; ((with_reducible refine (HH.out _).mono ?_); rintro e w9 ⟨rfl, rfl⟩)) | (go_at_call 51; (first | ((with_reducible refine (HK.out _).mono ?_); rintro e w1 ⟨rfl, b1⟩; have HC := Lib.hid (HC.out.step b1); obtain ⟨x0, x1, x2, x3, x4⟩ := op_cells HC.out.o; clear b1) | ((with_reducible refine (HD.out _).mono ?_); rintro e w1 ⟨rfl, b1⟩; have HC := Lib.hid (HC.out.step b1); obtain ⟨x0, x1, x2, x3, x4⟩ := op_cells HC.out.o; clear b1) | ((with_reducible refine (HA.out _).mono ?_); rintro e w1 ⟨rfl, b1⟩; have HC := Lib.hid (HC.out.step b1); obtain ⟨x0, x1, x2, x3, x4⟩ := op_cells HC.out.o; clear b1) | ((with_reducible refine (HB.out _).mono ?_); rintro e w1 ⟨rfl, b1⟩; have HC := Lib.hid (HC.out.step b1); obtain ⟨x0, x1, x2, x3, x4⟩ := op_cells HC.out.o; clear b1))) | (go_at_call 72; ((with_reducible refine (HI.out _).mono ?_); rintro e w1 ⟨rfl, b1⟩; have HC := Lib.hid (HC.out.step b1); obtain ⟨x0, x1, x2, x3, x4⟩ := op_cells HC.out.o; clear b1)))
    go_ret
    exact ⟨_, rfl, HE.out.symm, HC.out.bel⟩
  · as_aux_lemma =>
    go_enter Try.func52, Try.ntmps52
    go_wp2_with (first | (go_at_call 57; ((with_reducible refine (HH.out _).mono ?_); rintro e w9 ⟨rfl, rfl⟩)) | (go_at_call 51; (first | ((with_reducible refine (HK.out _).mono ?_); rintro e w1 ⟨rfl, b1⟩; have HC := Lib.hid (HC.out.step b1); obtain ⟨x0, x1, x2, x3, x4⟩ := op_cells HC.out.o; clear b1) | ((with_reducible refine (HD.out _).mono ?_); rintro e w1 ⟨rfl, b1⟩; have HC := Lib.hid (HC.out.step b1); obtain ⟨x0, x1, x2, x3, x4⟩ := op_cells HC.out.o; clear b1) | ((with_reducible refine (HA.out _).mono ?_); rintro e w1 ⟨rfl, b1⟩; have HC := Lib.hid (HC.out.step b1); obtain ⟨x0, x1, x2, x3, x4⟩ := op_cells HC.out.o; clear b1) | ((with_reducible refine (HB.out _).mono ?_); rintro e w1 ⟨rfl, b1⟩; have HC := Lib.hid (HC.out.step b1); obtain ⟨x0, x1, x2, x3, x4⟩ := op_cells HC.out.o; clear b1))) | (go_at_call 72; ((with_reducible refine (HI.out _).mono ?_); rintro e w1 ⟨rfl, b1⟩; have HC := Lib.hid (HC.out.step b1); obtain ⟨x0, x1, x2, x3, x4⟩ := op_cells HC.out.o; clear b1)))
    go_ret
    exact ⟨_, rfl, HE.out.symm, HC.out.bel⟩
  · as_aux_lemma =>
    go_enter Try.func52, Try.ntmps52
    go_wp2_with (first | (go_at_call 57; ((with_reducible refine (HH.out _).mono ?_); rintro e w9 ⟨rfl, rfl⟩)) | (go_at_call 51; (first | ((with_reducible refine (HK.out _).mono ?_); rintro e w1 ⟨rfl, b1⟩; have HC := Lib.hid (HC.out.step b1); obtain ⟨x0, x1, x2, x3, x4⟩ := op_cells HC.out.o; clear b1) | ((with_reducible refine (HD.out _).mono ?_); rintro e w1 ⟨rfl, b1⟩; have HC := Lib.hid (HC.out.step b1); obtain ⟨x0, x1, x2, x3, x4⟩ := op_cells HC.out.o; clear b1) | ((with_reducible refine (HA.out _).mono ?_); rintro e w1 ⟨rfl, b1⟩; have HC := Lib.hid (HC.out.step b1); obtain ⟨x0, x1, x2, x3, x4⟩ := op_cells HC.out.o; clear b1) | ((with_reducible refine (HB.out _).mono ?_); rintro e w1 ⟨rfl, b1⟩; have HC := Lib.hid (HC.out.step b1); obtain ⟨x0, x1, x2, x3, x4⟩ := op_cells HC.out.o; clear b1))) | (go_at_call 72; ((with_reducible refine (HI.out _).mono ?_); rintro e w1 ⟨rfl, b1⟩; have HC := Lib.hid (HC.out.step b1); obtain ⟨x0, x1, x2, x3, x4⟩ := op_cells HC.out.o; clear b1)))
    go_ret
    exact ⟨_, rfl, HE.out.symm, HC.out.bel⟩
  · as_aux_lemma =>
    go_enter Try.func52, Try.ntmps52
    go_wp2_with (first | (go_at_call 57; ((with_reducible refine (HH.out _).mono ?_); rintro e w9 ⟨rfl, rfl⟩)) | (go_at_call 51; (first | ((with_reducible refine (HK.out _).mono ?_); rintro e w1 ⟨rfl, b1⟩; have HC := Lib.hid (HC.out.step b1); obtain ⟨x0, x1, x2, x3, x4⟩ := op_cells HC.out.o; clear b1) | ((with_reducible refine (HD.out _).mono ?_); rintro e w1 ⟨rfl, b1⟩; have HC := Lib.hid (HC.out.step b1); obtain ⟨x0, x1, x2, x3, x4⟩ := op_cells HC.out.o; clear b1) | ((with_reducible refine (HA.out _).mono ?_); rintro e w1 ⟨rfl, b1⟩; have HC := Lib.hid (HC.out.step b1); obtain ⟨x0, x1, x2, x3, x4⟩ := op_cells HC.out.o; clear b1) | ((with_reducible refine (HB.out _).mono ?_); rintro e w1 ⟨rfl, b1⟩; have HC := Lib.hid (HC.out.step b1); obtain ⟨x0, x1, x2, x3, x4⟩ := op_cells HC.out.o; clear b1))) | (go_at_call 72; ((with_reducible refine (HI.out _).mono ?_); rintro e w1 ⟨rfl, b1⟩; have HC := Lib.hid (HC.out.step b1); obtain ⟨x0, x1, x2, x3, x4⟩ := op_cells HC.out.o; clear b1)))
    go_ret
    exact ⟨_, rfl, HE.out.symm, HC.out.bel⟩
  · as_aux_lemma =>
    go_enter Try.func52, Try.ntmps52
    go_wp2_with (first | (go_at_call 57; ((with_reducible refine (HH.out _).mono ?_); rintro e w9 ⟨rfl, rfl⟩)) | (go_at_call 51; (first | ((with_reducible refine (HK.out _).mono ?_); rintro e w1 ⟨rfl, b1⟩; have HC := Lib.hid (HC.out.step b1); obtain ⟨x0, x1, x2, x3, x4⟩ := op_cells HC.out.o; clear b1) | ((with_reducible refine (HD.out _).mono ?_); rintro e w1 ⟨rfl, b1⟩; have HC := Lib.hid (HC.out.step b1); obtain ⟨x0, x1, x2, x3, x4⟩ := op_cells HC.out.o; clear b1) | ((with_reducible refine (HA.out _).mono ?_); rintro e w1 ⟨rfl, b1⟩; have HC := Lib.hid (HC.out.step b1); obtain ⟨x0, x1, x2, x3, x4⟩ := op_cells HC.out.o; clear b1) | ((with_reducible refine (HB.out _).mono ?_); rintro e w1 ⟨rfl, b1⟩; have HC := Lib.hid (HC.out.step b1); obtain ⟨x0, x1, x2, x3, x4⟩ := op_cells HC.out.o; clear b1))) | (go_at_call 72; ((with_reducible refine (HI.out _).mono ?_); rintro e w1 ⟨rfl, b1⟩; have HC := Lib.hid (HC.out.step b1); obtain ⟨x0, x1, x2, x3, x4⟩ := op_cells HC.out.o; clear b1)))
    go_ret
    exact ⟨_, rfl, HE.out.symm, HC.out.bel⟩
  · as_aux_lemma =>
    go_enter Try.func52, Try.ntmps52
    go_wp2_with (first | (go_at_call 57; ((with_reducible refine (HH.out _).mono ?_); rintro e w9 ⟨rfl, rfl⟩)) | (go_at_call 51; (first | ((with_reducible refine (HK.out _).mono ?_); rintro e w1 ⟨rfl, b1⟩; have HC := Lib.hid (HC.out.step b1); obtain ⟨x0, x1, x2, x3, x4⟩ := op_cells HC.out.o; clear b1) | ((with_reducible refine (HD.out _).mono ?_); rintro e w1 ⟨rfl, b1⟩; have HC := Lib.hid (HC.out.step b1); obtain ⟨x0, x1, x2, x3, x4⟩ := op_cells HC.out.o; clear b1) | ((with_reducible refine (HA.out _).mono ?_); rintro e w1 ⟨rfl, b1⟩; have HC := Lib.hid (HC.out.step b1); obtain ⟨x0, x1, x2, x3, x4⟩ := op_cells HC.out.o; clear b1) | ((with_reducible refine (HB.out _).mono ?_); rintro e w1 ⟨rfl, b1⟩; have HC := Lib.hid (HC.out.step b1); obtain ⟨x0, x1, x2, x3, x4⟩ := op_cells HC.out.o; clear b1))) | (go_at_call 72; ((with_reducible refine (HI.out _).mono ?_); rintro e w1 ⟨rfl, b1⟩; have HC := Lib.hid (HC.out.step b1); obtain ⟨x0, x1, x2, x3, x4⟩ := op_cells HC.out.o; clear b1)))
    go_ret
    exact ⟨_, rfl, HE.out.symm, HC.out.bel⟩
  · as_aux_lemma =>
    go_enter Try.func52, Try.ntmps52
    go_wp2_with (first | (go_at_call 57; ((with_reducible refine (HH.out _).mono ?_); rintro e w9 ⟨rfl, rfl⟩)) | (go_at_call 51; (first | ((with_reducible refine (HK.out _).mono ?_); rintro e w1 ⟨rfl, b1⟩; have HC := Lib.hid (HC.out.step b1); obtain ⟨x0, x1, x2, x3, x4⟩ := op_cells HC.out.o; clear b1) | ((with_reducible refine (HD.out _).mono ?_); rintro e w1 ⟨rfl, b1⟩; have HC := Lib.hid (HC.out.step b1); obtain ⟨x0, x1, x2, x3, x4⟩ := op_cells HC.out.o; clear b1) | ((with_reducible refine (HA.out _).mono ?_); rintro e w1 ⟨rfl, b1⟩; have HC := Lib.hid (HC.out.step b1); obtain ⟨x0, x1, x2, x3, x4⟩ := op_cells HC.out.o; clear b1) | ((with_reducible refine (HB.out _).mono ?_); rintro e w1 ⟨rfl, b1⟩; have HC := Lib.hid (HC.out.step b1); obtain ⟨x0, x1, x2, x3, x4⟩ := op_cells HC.out.o; clear b1))) | (go_at_call 72; ((with_reducible refine (HI.out _).mono ?_); rintro e w1 ⟨rfl, b1⟩; have HC := Lib.hid (HC.out.step b1); obtain ⟨x0, x1, x2, x3, x4⟩ := op_cells HC.out.o; clear b1)))
    go_ret
    exact ⟨_, rfl, HE.out.symm, HC.out.bel⟩
  · as_aux_lemma =>
    go_enter Try.func52, Try.ntmps52
    go_wp2_with (first | (go_at_call 57; ((with_reducible refine (HH.out _).mono ?_); rintro e w9 ⟨rfl, rfl⟩)) | (go_at_call 51; (first | ((with_reducible refine (HK.out _).mono ?_); rintro e w1 ⟨rfl, b1⟩; have HC := Lib.hid (HC.out.step b1); obtain ⟨x0, x1, x2, x3, x4⟩ := op_cells HC.out.o; clear b1) | ((with_reducible refine (HD.out _).mono ?_); rintro e w1 ⟨rfl, b1⟩; have HC := Lib.hid (HC.out.step b1); obtain ⟨x0, x1, x2, x3, x4⟩ := op_cells HC.out.o; clear b1) | ((with_reducible refine (HA.out _).mono ?_); rintro e w1 ⟨rfl, b1⟩; have HC := Lib.hid (HC.out.step b1); obtain ⟨x0, x1, x2, x3, x4⟩ := op_cells HC.out.o; clear b1) | ((with_reducible refine (HB.out _).mono ?_); rintro e w1 ⟨rfl, b1⟩; have HC := Lib.hid (HC.out.step b1); obtain ⟨x0, x1, x2, x3, x4⟩ := op_cells HC.out.o; clear b1))) | (go_at_call 72; ((with_reducible refine (HI.out _).mono ?_); rintro e w1 ⟨rfl, b1⟩; have HC := Lib.hid (HC.out.step b1); obtain ⟨x0, x1, x2, x3, x4⟩ := op_cells HC.out.o; clear b1)))
    go_ret
    exact ⟨_, rfl, HE.out.symm, HC.out.bel⟩
  · as_aux_lemma =>
    go_enter Try.func52, Try.ntmps52
    go_wp2_with (first | (go_at_call 57; ((with_reducible refine (HH.out _).mono ?_); rintro e w9 ⟨rfl, rfl⟩)) | (go_at_call 51; (first | ((with_reducible refine (HK.out _).mono ?_); rintro e w1 ⟨rfl, b1⟩; have HC := Lib.hid (HC.out.step b1); obtain ⟨x0, x1, x2, x3, x4⟩ := op_cells HC.out.o; clear b1) | ((with_reducible refine (HD.out _).mono ?_); rintro e w1 ⟨rfl, b1⟩; have HC := Lib.hid (HC.out.step b1); obtain ⟨x0, x1, x2, x3, x4⟩ := op_cells HC.out.o; clear b1) | ((with_reducible refine (HA.out _).mono ?_); rintro e w1 ⟨rfl, b1⟩; have HC := Lib.hid (HC.out.step b1); obtain ⟨x0, x1, x2, x3, x4⟩ := op_cells HC.out.o; clear b1) | ((with_reducible refine (HB.out _).mono ?_); rintro e w1 ⟨rfl, b1⟩; have HC := Lib.hid (HC.out.step b1); obtain ⟨x0, x1, x2, x3, x4⟩ := op_cells HC.out.o; clear b1))) | (go_at_call 72; ((with_reducible refine (HI.out _).mono ?_); rintro e w1 ⟨rfl, b1⟩; have HC := Lib.hid (HC.out.step b1); obtain ⟨x0, x1, x2, x3, x4⟩ := op_cells HC.out.o; clear b1)))
    go_ret
    exact ⟨_, rfl, HE.out.symm, HC.out.bel⟩
  · as_aux_lemma =>
    go_enter Try.func52, Try.ntmps52
    go_wp2_with (first | (go_at_call 57; ((with_reducible refine (HH.out _).mono ?_); rintro e w9 ⟨rfl, rfl⟩)) | (go_at_call 51; (first | ((with_reducible refine (HK.out _).mono ?_); rintro e w1 ⟨rfl, b1⟩; have HC := Lib.hid (HC.out.step b1); obtain ⟨x0, x1, x2, x3, x4⟩ := op_cells HC.out.o; clear b1) | ((with_reducible refine (HD.out _).mono ?_); rintro e w1 ⟨rfl, b1⟩; have HC := Lib.hid (HC.out.step b1); obtain ⟨x0, x1, x2, x3, x4⟩ := op_cells HC.out.o; clear b1) | ((with_reducible refine (HA.out _).mono ?_); rintro e w1 ⟨rfl, b1⟩; have HC := Lib.hid (HC.out.step b1); obtain ⟨x0, x1, x2, x3, x4⟩ := op_cells HC.out.o; clear b1) | ((with_reducible refine (HB.out _).mono ?_); rintro e w1 ⟨rfl, b1⟩; have HC := Lib.hid (HC.out.step b1); obtain ⟨x0, x1, x2, x3, x4⟩ := op_cells HC.out.o; clear b1))) | (go_at_call 72; ((with_reducible refine (HI.out _).mono ?_); rintro e w1 ⟨rfl, b1⟩; have HC := Lib.hid (HC.out.step b1); obtain ⟨x0, x1, x2, x3, x4⟩ := op_cells HC.out.o; clear b1)))
    go_ret
    exact ⟨_, rfl, HE.out.symm, HC.out.bel⟩
  · as_aux_lemma =>
    go_enter Try.func52, Try.ntmps52
    go_wp2_with (first | (go_at_call 57; ((with_reducible refine (HH.out _).mono ?_); rintro e w9 ⟨rfl, rfl⟩)) | (go_at_call 51; (first | ((with_reducible refine (HK.out _).mono ?_); rintro e w1 ⟨rfl, b1⟩; have HC := Lib.hid (HC.out.step b1); obtain ⟨x0, x1, x2, x3, x4⟩ := op_cells HC.out.o; clear b1) | ((with_reducible refine (HD.out _).mono ?_); rintro e w1 ⟨rfl, b1⟩; have HC := Lib.hid (HC.out.step b1); obtain ⟨x0, x1, x2, x3, x4⟩ := op_cells HC.out.o; clear b1) | ((with_reducible refine (HA.out _).mono ?_); rintro e w1 ⟨rfl, b1⟩; have HC := Lib.hid (HC.out.step b1); obtain ⟨x0, x1, x2, x3, x4⟩ := op_cells HC.out.o; clear b1) | ((with_reducible refine (HB.out _).mono ?_); rintro e w1 ⟨rfl, b1⟩; have HC := Lib.hid (HC.out.step b1); obtain ⟨x0, x1, x2, x3, x4⟩ := op_cells HC.out.o; clear b1))) | (go_at_call 72; ((with_reducible refine (HI.out _).mono ?_); rintro e w1 ⟨rfl, b1⟩; have HC := Lib.hid (HC.out.step b1); obtain ⟨x0, x1, x2, x3, x4⟩ := op_cells HC.out.o; clear b1)))
    go_ret
    exact ⟨_, rfl, HE.out.symm, HC.out.bel⟩
  · as_aux_lemma =>
    go_enter Try.func52, Try.ntmps52
    go_wp2_with (first | (go_at_call 57; ((with_reducible refine (HH.out _).mono ?_); rintro e w9 ⟨rfl, rfl⟩)) | (go_at_call 51; (first | ((with_reducible refine (HK.out _).mono ?_); rintro e w1 ⟨rfl, b1⟩; have HC := Lib.hid (HC.out.step b1); obtain ⟨x0, x1, x2, x3, x4⟩ := op_cells HC.out.o; clear b1) | ((with_reducible refine (HD.out _).mono ?_); rintro e w1 ⟨rfl, b1⟩; have HC := Lib.hid (HC.out.step b1); obtain ⟨x0, x1, x2, x3, x4⟩ := op_cells HC.out.o; clear b1) | ((with_reducible refine (HA.out _).mono ?_); rintro e w1 ⟨rfl, b1⟩; have HC := Lib.hid (HC.out.step b1); obtain ⟨x0, x1, x2, x3, x4⟩ := op_cells HC.out.o; clear b1) | ((with_reducible refine (HB.out _).mono ?_); rintro e w1 ⟨rfl, b1⟩; have HC := Lib.hid (HC.out.step b1); obtain ⟨x0, x1, x2, x3, x4⟩ := op_cells HC.out.o; clear b1))) | (go_at_call 72; ((with_reducible refine (HI.out _).mono ?_); rintro e w1 ⟨rfl, b1⟩; have HC := Lib.hid (HC.out.step b1); obtain ⟨x0, x1, x2, x3, x4⟩ := op_cells HC.out.o; clear b1)))
    go_ret
    exact ⟨_, rfl, HE.out.symm, HC.out.bel⟩
  · as_aux_lemma =>
    go_enter Try.func52, Try.ntmps52
    go_wp2_with (first | (go_at_call 57; ((with_reducible refine (HH.out _).mono ?_); rintro e w9 ⟨rfl, rfl⟩)) | (go_at_call 51; (first | ((with_reducible refine (HK.out _).mono ?_); rintro e w1 ⟨rfl, b1⟩; have HC := Lib.hid (HC.out.step b1); obtain ⟨x0, x1, x2, x3, x4⟩ := op_cells HC.out.o; clear b1) | ((with_reducible refine (HD.out _).mono ?_); rintro e w1 ⟨rfl, b1⟩; have HC := Lib.hid (HC.out.step b1); obtain ⟨x0, x1, x2, x3, x4⟩ := op_cells HC.out.o; clear b1) | ((with_reducible refine (HA.out _).mono ?_); rintro e w1 ⟨rfl, b1⟩; have HC := Lib.hid (HC.out.step b1); obtain ⟨x0, x1, x2, x3, x4⟩ := op_cells HC.out.o; clear b1) | ((with_reducible refine (HB.out _).mono ?_); rintro e w1 ⟨rfl, b1⟩; have HC := Lib.hid (HC.out.step b1); obtain ⟨x0, x1, x2, x3, x4⟩ := op_cells HC.out.o; clear b1))) | (go_at_call 72; ((with_reducible refine (HI.out _).mono ?_); rintro e w1 ⟨rfl, b1⟩; have HC := Lib.hid (HC.out.step b1); obtain ⟨x0, x1, x2, x3, x4⟩ := op_cells HC.out.o; clear b1)))
    go_ret
    exact ⟨_, rfl, HE.out.symm, HC.out.bel⟩
  · as_aux_lemma =>
    go_enter Try.func52, Try.ntmps52
    go_wp2_with (first | (go_at_call 57; ((with_reducible refine (HH.out _).mono ?_); rintro e w9 ⟨rfl, rfl⟩)) | (go_at_call 51; (first | ((with_reducible refine (HK.out _).mono ?_); rintro e w1 ⟨rfl, b1⟩; have HC := Lib.hid (HC.out.step b1); obtain ⟨x0, x1, x2, x3, x4⟩ := op_cells HC.out.o; clear b1) | ((with_reducible refine (HD.out _).mono ?_); rintro e w1 ⟨rfl, b1⟩; have HC := Lib.hid (HC.out.step b1); obtain ⟨x0, x1, x2, x3, x4⟩ := op_cells HC.out.o; clear b1) | ((with_reducible refine (HA.out _).mono ?_); rintro e w1 ⟨rfl, b1⟩; have HC := Lib.hid (HC.out.step b1); obtain ⟨x0, x1, x2, x3, x4⟩ := op_cells HC.out.o; clear b1) | ((with_reducible refine (HB.out _).mono ?_); rintro e w1 ⟨rfl, b1⟩; have HC := Lib.hid (HC.out.step b1); obtain ⟨x0, x1, x2, x3, x4⟩ := op_cells HC.out.o; clear b1))) | (go_at_call 72; ((with_reducible refine (HI.out _).mono ?_); rintro e w1 ⟨rfl, b1⟩; have HC := Lib.hid (HC.out.step b1); obtain ⟨x0, x1, x2, x3, x4⟩ := op_cells HC.out.o; clear b1)))
    go_ret
    exact ⟨_, rfl, HE.out.symm, HC.out.bel⟩
  · as_aux_lemma =>
    go_enter Try.func52, Try.ntmps52
    go_wp2_with (first | (go_at_call 57; ((with_reducible refine (HH.out _).mono ?_); rintro e w9 ⟨rfl, rfl⟩)) | (go_at_call 51; (first | ((with_reducible refine (HK.out _).mono ?_); rintro e w1 ⟨rfl, b1⟩; have HC := Lib.hid (HC.out.step b1); obtain ⟨x0, x1, x2, x3, x4⟩ := op_cells HC.out.o; clear b1) | ((with_reducible refine (HD.out _).mono ?_); rintro e w1 ⟨rfl, b1⟩; have HC := Lib.hid (HC.out.step b1); obtain ⟨x0, x1, x2, x3, x4⟩ := op_cells HC.out.o; clear b1) | ((with_reducible refine (HA.out _).mono ?_); rintro e w1 ⟨rfl, b1⟩; have HC := Lib.hid (HC.out.step b1); obtain ⟨x0, x1, x2, x3, x4⟩ := op_cells HC.out.o; clear b1) | ((with_reducible refine (HB.out _).mono ?_); rintro e w1 ⟨rfl, b1⟩; have HC := Lib.hid (HC.out.step b1); obtain ⟨x0, x1, x2, x3, x4⟩ := op_cells HC.out.o; clear b1))) | (go_at_call 72; ((with_reducible refine (HI.out _).mono ?_); rintro e w1 ⟨rfl, b1⟩; have HC := Lib.hid (HC.out.step b1); obtain ⟨x0, x1, x2, x3, x4⟩ := op_cells HC.out.o; clear b1)))
    go_ret
    exact ⟨_, rfl, HE.out.symm, HC.out.bel⟩
theorem ropbytes_any (o : OpV) (ho : OkO o) (hf : formB o = true) (w : World) : Calls Try.prog 52 #[.agg (opA o)] w fun e w' => e = .returned (.string (opS o)) ∧ Below w.heap.size w w' :=
  (ropbytes_go o ho hf w).mono fun e w' ⟨r, he, hr, hb⟩ => ⟨by rw [he, hr], hb⟩
end Go.Proofs.Ytbpakckiglgjfaa
