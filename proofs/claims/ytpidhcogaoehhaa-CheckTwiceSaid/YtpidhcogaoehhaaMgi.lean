import Derived.Test.YtpidhcogaoehhaaMgh
import Derived.Test.YtpidhcogaoehhaaMgd

/- The walks of the document's reader of bricks, second part. No condition but that numbers fit their kinds. -/
namespace Go.Proofs.Ytpidhcogaoehhaa
open Go.RowKit Wire
set_option linter.unusedVariables false
theorem uC_max (s : ByteArray) : uC s 18446744073709551615 = 0 := by
  unfold uC; rw [if_neg]; have := (xI_U64 s).2; omega
theorem num0_bad {s : ByteArray} {e : Int} (h : ¬ (e = 0 ∧ (rdS s).2.2 = 0)) (c : Int) : numV s e c = 0 ∧ numS s e c = s ∧ numE s e c = numE s e 0 ∧ numE s e 0 ≠ 0 := by
  refine ⟨?_, ?_, ?_, ?_⟩
  · unfold numV; rw [if_neg]; exact fun hh => h ⟨hh.1, hh.2.1⟩
  · unfold numS; rw [if_neg]; exact fun hh => h ⟨hh.1, hh.2.1⟩
  · unfold numE
    by_cases he : e = 0
    · rw [if_pos he, if_pos he, if_neg (fun hr => h ⟨he, hr⟩), if_neg (fun hr => h ⟨he, hr⟩)]
    · rw [if_neg he, if_neg he]
  · unfold numE
    by_cases he : e = 0
    · rw [if_pos he, if_neg (fun hr => h ⟨he, hr⟩)]
      intro hh; exact h ⟨he, by omega⟩
    · rw [if_neg he]; exact he
theorem num0_ok {s : ByteArray} (h : (rdS s).2.2 = 0) : numV s 0 0 = xI s ∧ numS s 0 0 = tl s (rdS s).2.1 ∧ numE s 0 0 = 0 := by
  refine ⟨by unfold numV; rw [if_pos ⟨rfl, h, rfl⟩]; rfl, by unfold numS; rw [if_pos ⟨rfl, h, rfl⟩], by unfold numE; rw [if_pos rfl, if_pos h]⟩
theorem numc {s : ByteArray} (h : (rdS s).2.2 = 0) {c : Int} (hc : c ≠ 0) : numV s 0 c = 0 ∧ numS s 0 c = s ∧ numE s 0 c = c := by
  refine ⟨by unfold numV; rw [if_neg (fun hh => hc hh.2.2)], by unfold numS; rw [if_neg (fun hh => hc hh.2.2)], by unfold numE; rw [if_pos rfl, if_pos h]⟩
theorem cC_cases (s : ByteArray) (most : Int) : ((most < 0 ∨ most < xI s) ∧ cC s most = 4) ∨ (0 ≤ most ∧ xI s ≤ most ∧ s.size - nI s < xI s ∧ cC s most = 10) ∨ (0 ≤ most ∧ xI s ≤ most ∧ xI s ≤ s.size - nI s ∧ cC s most = 0) := by
  unfold cC cntC
  by_cases h1 : most < 0 ∨ most < xI s
  · exact .inl ⟨h1, by rw [if_pos h1]⟩
  · by_cases h2 : (s.size : Int) - nI s < xI s
    · exact .inr (.inl ⟨by omega, by omega, h2, by rw [if_neg h1, if_pos h2]⟩)
    · exact .inr (.inr ⟨by omega, by omega, by omega, by rw [if_neg h1, if_neg h2]⟩)
theorem tl_zero (s : ByteArray) : tl s 0 = s := by
  apply ba_eq; unfold tl; simp
end Go.Proofs.Ytpidhcogaoehhaa


/- The walks of the program's writers of programs: an op's bytes. No condition but that the op has its form. -/
namespace Go.Proofs.Ytpidhcogaoehhaa
open Go.RowKit Cd Wire
set_option linter.unusedVariables false
theorem nil_app (b : ByteArray) : (⟨#[]⟩ : ByteArray) ++ b = b := by apply ByteArray.ext; rw [ByteArray.data_append]; simp
theorem catS1 (g : Nat → ByteArray) : catS g 1 = g 0 := by rw [← catS_succ, catS_zero, nil_app]
theorem catS2 (g : Nat → ByteArray) : catS g 2 = g 0 ++ g 1 := by rw [← catS_succ, catS1]
theorem catS3 (g : Nat → ByteArray) : catS g 3 = g 0 ++ g 1 ++ g 2 := by rw [← catS_succ, catS2]
theorem uints1_any {x : Int} (hx : U64 x) {w : World} {g : Nat} {T : TypeId} (hb : Blk w g T #[.int .u64 x]) :
    Calls Try.prog 24 #[.slice (some ⟨g, 0, none⟩) 1 1] w fun e w' => e = .returned (.string (Num.lebS x)) ∧ Below w.heap.size w w' := by
  have := alls (uints_any (w := w) (v := .slice (some ⟨g, 0, none⟩) 1 1) (n := 1) (x := fun i => x) ⟨_, _, rfl, fun _ => ⟨g, 0, rfl, hb.lt, fun i hi => by
    have := hb.cell i
    rw [Nat.zero_add, this]
    have : i = 0 := by omega
    subst this; rfl⟩⟩ (by decide) (fun i hi => hx))
  exact this.mono fun e w' ⟨h1, h2⟩ => ⟨by rw [h1, catS1], h2⟩
theorem uints2_any {x y : Int} (hx : U64 x) (hy : U64 y) {w : World} {g : Nat} {T : TypeId} (hb : Blk w g T #[.int .u64 x, .int .u64 y]) :
    Calls Try.prog 24 #[.slice (some ⟨g, 0, none⟩) 2 2] w fun e w' => e = .returned (.string (Num.lebS x ++ Num.lebS y)) ∧ Below w.heap.size w w' := by
  have := alls (uints_any (w := w) (v := .slice (some ⟨g, 0, none⟩) 2 2) (n := 2) (x := fun i => if i = 0 then x else y) ⟨_, _, rfl, fun _ => ⟨g, 0, rfl, hb.lt, fun i hi => by
    have := hb.cell i
    rw [Nat.zero_add, this]
    have : i = 0 ∨ i = 1 := by omega
    rcases this with rfl | rfl <;> rfl⟩⟩ (by decide) (fun i hi => by
    have : i = 0 ∨ i = 1 := by omega
    rcases this with rfl | rfl
    · exact hx
    · exact hy))
  exact this.mono fun e w' ⟨h1, h2⟩ => ⟨by rw [h1, catS2]; rfl, h2⟩
theorem uints3_any {x y z : Int} (hx : U64 x) (hy : U64 y) (hz : U64 z) {w : World} {g : Nat} {T : TypeId} (hb : Blk w g T #[.int .u64 x, .int .u64 y, .int .u64 z]) :
    Calls Try.prog 24 #[.slice (some ⟨g, 0, none⟩) 3 3] w fun e w' => e = .returned (.string (Num.lebS x ++ Num.lebS y ++ Num.lebS z)) ∧ Below w.heap.size w w' := by
  have := alls (uints_any (w := w) (v := .slice (some ⟨g, 0, none⟩) 3 3) (n := 3) (x := fun i => if i = 0 then x else if i = 1 then y else z) ⟨_, _, rfl, fun _ => ⟨g, 0, rfl, hb.lt, fun i hi => by
    have := hb.cell i
    rw [Nat.zero_add, this]
    have : i = 0 ∨ i = 1 ∨ i = 2 := by omega
    rcases this with rfl | rfl | rfl <;> rfl⟩⟩ (by decide) (fun i hi => by
    have : i = 0 ∨ i = 1 ∨ i = 2 := by omega
    rcases this with rfl | rfl | rfl
    · exact hx
    · exact hy
    · exact hz))
  exact this.mono fun e w' ⟨h1, h2⟩ => ⟨by rw [h1, catS3]; rfl, h2⟩
theorem ints1_any {x : Int} (hx : I64 x) {w : World} {g : Nat} {T : TypeId} (hb : Blk w g T #[.int .i64 x]) :
    Calls Try.prog 49 #[.slice (some ⟨g, 0, none⟩) 1 1] w fun e w' => e = .returned (.string (intS x)) ∧ Below w.heap.size w w' := by
  have := alls (ints_any (w := w) (v := .slice (some ⟨g, 0, none⟩) 1 1) (n := 1) (x := fun i => x) ⟨_, _, rfl, fun _ => ⟨g, 0, rfl, hb.lt, fun i hi => by
    have := hb.cell i
    rw [Nat.zero_add, this]
    have : i = 0 := by omega
    subst this; rfl⟩⟩ (by decide) (fun i hi => hx))
  exact this.mono fun e w' ⟨h1, h2⟩ => ⟨by rw [h1, catS1], h2⟩
namespace Cd
def isE (o : OpV) (j : Nat) : Bool := if j = 0 then kd o.k else if j = 1 then ka o.k else kb o.k
def nE (o : OpV) (j : Nat) : Int := if j = 0 then o.d else if j = 1 then o.a else o.b
def acc (o : OpV) : Nat → ByteArray
  | 0 => Num.lebS o.k
  | j + 1 => if isE o j = true then acc o j ++ Num.lebS (nE o j) else acc o j
/-- An op's bytes. -/
def opS (o : OpV) : ByteArray := if kn o.k = true then acc o 3 ++ intS o.n else acc o 3
theorem form_reg {o : OpV} (h : formB o = true) (j : Nat) : 0 ≤ nE o j ∧ nE o j ≤ 16 := by
  unfold formB regB at h
  simp only [Bool.and_eq_true, decide_eq_true_eq] at h
  unfold nE
  split
  · omega
  · split <;> omega
theorem app_size (a b : ByteArray) : (a ++ b).size = a.size + b.size := ByteArray.size_append
theorem acc_size {o : OpV} (hk : U8 o.k) (h : formB o = true) (j : Nat) : (acc o j).size ≤ 10 * (j + 1) := by
  induction j with
  | zero => have := lebS_size (x := o.k) (by unfold U8 at hk; omega); simpa [acc] using this
  | succ j ih =>
    have h2 := form_reg h j
    have := lebS_size (x := nE o j) (by omega)
    unfold acc
    split
    · rw [app_size]; omega
    · omega
theorem opS_size {o : OpV} (ho : OkO o) (h : formB o = true) : (opS o).size ≤ 50 := by
  have h1 := acc_size ho.1 h 3
  have h2 := lebS_size (U64_zig ho.2.2.2.2).2
  unfold opS
  split
  · rw [app_size]; unfold intS; omega
  · omega
end Cd
end Go.Proofs.Ytpidhcogaoehhaa


/- The walks of the program's writers of programs: 'written'. No condition but that the op has its form. -/
namespace Go.Proofs.Ytpidhcogaoehhaa
open Go.RowKit Cd Wire
set_option linter.unusedVariables false
theorem Blk.new2 (w : World) (o : Obj) (T : TypeId) (A : Array Value) : Blk ((w.alloc o).alloc (.cells A T)) (w.heap.size + 1) T A := by
  have := Blk.new (w.alloc o) T A
  simpa using this
def PCut (w : World) (o : OpV) (p : Value) (wc : World) : Prop := ∃ b, p = .pointer (some ⟨b, 0, none⟩) ∧ Blk wc b 86 #[.bool (kd o.k), .bool (ka o.k), .bool (kb o.k), .bool (kn o.k)] ∧ Below (w.alloc (.cells (opA o) 50)).heap.size (w.alloc (.cells (opA o) 50)) wc
def WRel (w2 : World) (o : OpV) (s u : Value) (wr : World) : Prop := ∃ j : Nat, j ≤ 3 ∧ u = .int .i64 j ∧ s = .string (acc o j) ∧ Below w2.heap.size w2 wr
set_option maxRecDepth 100000 in
set_option maxHeartbeats 4000000 in
theorem written_go (o : OpV) (ho : OkO o) (hf : formB o = true) (w : World) : Calls Try.prog 25 #[.agg (opA o)] w fun e w' => ∃ r, e = .returned (.string r) ∧ r = opS o ∧ Below w.heap.size w w' := by
  have hk8 := ho.1
  have HT := Lib.hid (Blk.new w 50 (opA o))
  have HS := Lib.hid (acc_size hk8 hf)
  have HN := Lib.hid (form_reg hf)
  have HI64 := Lib.hid ho.2.2.2.2
  have hz := lebS_size (U64_zig ho.2.2.2.2).2
  have HU := Lib.hid (show U64 o.k by unfold U8 at hk8; unfold U64; omega)
  have ek : IntKind.u64.wrap o.k = o.k := by rw [IntKind.wrap_u64]; unfold U8 at hk8; omega
  clear ho hf
  go_enter Try.func25, Try.ntmps25
  go_upto_region 1 with fail
  go_cut [3] (fun p wc => PCut w o p wc)
  case first => as_aux_lemma =>
    clear HS HN HI64 hz HU ek
    obtain ⟨k, d, a, b, n⟩ := o
    simp only [opA] at HT ⊢
    have HI := Lib.hid hk8
    clear hk8
    go_region_with (go_at_call 48; ((with_reducible refine (has_any _).mono ?_); rintro e w9 ⟨bm, rfl, hL, hB0⟩; have hB := below_undrew hB0; clear hB0; have hTp : Blk w9 w.heap.size 50 #[.int .u8 k, .int .i64 d, .int .i64 a, .int .i64 b, .int .i64 n] := (by first | exact HT.out.below hB | exact (HT.out.alloc _).below hB); have z0 : w9.cell? ⟨w.heap.size, 0, none⟩ = some (.int .u8 k) := hTp.cell 0; have z1 : ∀ o, (w9.alloc o).cell? ⟨w.heap.size, 0, none⟩ = some (.int .u8 k) := (fun o => (hTp.alloc o).cell 0); have l0 := hL.at HI.out; have l1 := fun o => (hL.alloc o).at HI.out; have HL := Lib.hid hL; (try (have hTq : Blk w9 (w.heap.size + 1) 86 #[.bool false, .bool false, .bool false, .bool false] := (by have := (Blk.new (w.alloc (.cells #[.int .u8 k, .int .i64 d, .int .i64 a, .int .i64 b, .int .i64 n] 50)) 86 #[.bool false, .bool false, .bool false, .bool false]).below hB; simpa using this); have HTq := Lib.hid hTq; have q0 := hTq.cell 0; have q1 := hTq.cell 1; have q2 := hTq.cell 2; have q3 := hTq.cell 3; have qf : ∀ o, w9.frozen? ⟨w.heap.size + 1, o, none⟩ = false := hTq.frozen; clear hTq)); have HB := Lib.hid hB; clear hL hB hTp))
    all_goals (go_wp2_with fail; go_meet)
    all_goals first
      | exact ⟨_, rfl, Blk.new _ _ _, HB.out.alloc HB.out.size _⟩
      | exact ⟨_, rfl, (((HTq.out.set 0 _).set 1 _).set 2 _).set 3 _, by
          have hsz : (w.alloc (.cells #[.int .u8 k, .int .i64 d, .int .i64 a, .int .i64 b, .int .i64 n] 50)).heap.size = w.heap.size + 1 := by simp
          have h1 := ((Below.refl _ _).alloc (Nat.le_refl _) (.cells #[.bool false, .bool false, .bool false, .bool false] 86)).step HB.out
          exact (((h1.setCell (by rw [hsz]; exact Nat.le_refl _) _).setCell (by rw [hsz]; exact Nat.le_refl _) _).setCell (by rw [hsz]; exact Nat.le_refl _) _).setCell (by rw [hsz]; exact Nat.le_refl _) _⟩
  case rest =>
    obtain ⟨bp, rfl, hP, hB⟩ := hcut
    have HBc := Lib.hid (((Below.refl _ _).alloc (Nat.le_refl _) (.cells (opA o) 50)).step hB)
    have HTc := Lib.hid (HT.out.below hB)
    have HPc := Lib.hid hP
    have x0 : wc.cell? ⟨w.heap.size, 0, none⟩ = some (.int .u8 o.k) := HTc.out.cell 0
    have hlt1 := hP.lt
    have hlt2 := HTc.out.lt
    clear HT hP hB hk8
    go_wp2_with (go_at_call 24; ((with_reducible refine (uints1_any HU.out (Blk.new _ _ _)).mono ?_); rintro e w1 ⟨rfl, b1⟩; have HB1 := Lib.hid ((HBc.out.alloc HBc.out.size (.cells #[.int .u64 o.k] 60)).step b1); have HT1 := Lib.hid ((HTc.out.alloc (.cells #[.int .u64 o.k] 60)).below b1); have HP1 := Lib.hid ((HPc.out.alloc (.cells #[.int .u64 o.k] 60)).below b1); have z1 : w1.cell? ⟨w.heap.size, 1, none⟩ = some (.int .i64 o.d) := HT1.out.cell 1; have z2 : w1.cell? ⟨w.heap.size, 2, none⟩ = some (.int .i64 o.a) := HT1.out.cell 2; have z3 : w1.cell? ⟨w.heap.size, 3, none⟩ = some (.int .i64 o.b) := HT1.out.cell 3; have y0 : w1.cell? ⟨bp, 0, none⟩ = some (.bool (kd o.k)) := HP1.out.cell 0; have y1 : w1.cell? ⟨bp, 1, none⟩ = some (.bool (ka o.k)) := HP1.out.cell 1; have y2 : w1.cell? ⟨bp, 2, none⟩ = some (.bool (kb o.k)) := HP1.out.cell 2; clear b1 hlt1 hlt2 x0))
    have hz0 : WRel (w1.alloc (.cells #[.bool (kd o.k), .int .i64 o.d, .bool (ka o.k), .int .i64 o.a, .bool (kb o.k), .int .i64 o.b] 89)) o (.string (Num.lebS o.k)) (.int .i64 0) (w1.alloc (.cells #[.bool (kd o.k), .int .i64 o.d, .bool (ka o.k), .int .i64 o.a, .bool (kb o.k), .int .i64 o.b] 89)) := ⟨0, by omega, rfl, rfl, Below.refl _ _⟩
    have HE := Lib.hid (Blk.new w1 89 #[.bool (kd o.k), .int .i64 o.d, .bool (ka o.k), .int .i64 o.a, .bool (kb o.k), .int .i64 o.b])
    have HB2 := Lib.hid (HB1.out.alloc HB1.out.size (.cells #[.bool (kd o.k), .int .i64 o.d, .bool (ka o.k), .int .i64 o.a, .bool (kb o.k), .int .i64 o.b] 89))
    have HT2 := Lib.hid (HT1.out.alloc (.cells #[.bool (kd o.k), .int .i64 o.d, .bool (ka o.k), .int .i64 o.a, .bool (kb o.k), .int .i64 o.b] 89))
    have HP2 := Lib.hid (HP1.out.alloc (.cells #[.bool (kd o.k), .int .i64 o.d, .bool (ka o.k), .int .i64 o.a, .bool (kb o.k), .int .i64 o.b] 89))
    clear HB1 HT1 HP1 z1 z2 z3 y0 y1 y2 HTc HPc HBc
    generalize w1.alloc (.cells #[.bool (kd o.k), .int .i64 o.d, .bool (ka o.k), .int .i64 o.a, .bool (kb o.k), .int .i64 o.b] 89) = w2 at *
    generalize w1.heap.size = g at *
    go_loopw [4, 33] (fun s u wr => WRel w2 o s u wr) (fun s u _ => ((3 : Int) - intOf u).toNat)
    case atStart => exact hz0
    case round =>
      obtain ⟨j, hj1, rfl, rfl, hb⟩ := hrel
      have HB := Lib.hid hb
      clear hz0
      by_cases hj : j < 3
      · as_aux_lemma =>
        have he := HE.out.below hb
        have x0 : wr.cell? ⟨g, j * 2, none⟩ = some (.bool (isE o j)) := by
          rw [he.cell]
          have : j = 0 ∨ j = 1 ∨ j = 2 := by omega
          rcases this with rfl | rfl | rfl <;> rfl
        have x1 : wr.cell? ⟨g, j * 2 + 1, none⟩ = some (.int .i64 (nE o j)) := by
          rw [he.cell]
          have : j = 0 ∨ j = 1 ∨ j = 2 := by omega
          rcases this with rfl | rfl | rfl <;> rfl
        have hn := HN.out j
        have hzj := HS.out j
        have hz1 := lebS_size (x := nE o j) (by omega)
        have HU2 := Lib.hid (show U64 (nE o j) by unfold U64; omega)
        have ew : IntKind.u64.wrap (nE o j) = nE o j := by rw [IntKind.wrap_u64]; omega
        have hac : acc o (j + 1) = if isE o j = true then acc o j ++ Num.lebS (nE o j) else acc o j := rfl
        clear hb he HT2 HP2 HE HN HS HI64 HU
        cases hi : isE o j with
        | true =>
          rw [hi, if_pos rfl] at hac
          rw [hi] at x0
          clear hi
          have HA := Lib.hid hac
          clear hac
          generalize nE o j = nj at *
          generalize acc o j = sj at *
          go_wp2_with (go_at_call 24; ((with_reducible refine (uints1_any HU2.out (Blk.new2 _ _ _ _)).mono ?_); rintro e w3 ⟨rfl, b1⟩; have HB3 := Lib.hid (((HB.out.alloc HB.out.size (.cells #[.bool true, .int .i64 nj] 89)).alloc (by have := HB.out.size; simp; omega) (.cells #[.int .u64 nj] 60)).step b1); clear b1))
          go_roundw
          case rel => exact ⟨j + 1, by omega, rfl, congrArg Value.string HA.out.symm, HB3.out⟩
          case measure => simp [intOf]; omega
        | false =>
          rw [hi, if_neg (by decide)] at hac
          rw [hi] at x0
          clear hi
          have HA := Lib.hid hac
          clear hac
          generalize nE o j = nj at *
          generalize acc o j = sj at *
          go_wp2_with fail
          go_roundw
          case rel => exact ⟨j + 1, by omega, rfl, congrArg Value.string HA.out.symm, HB.out.alloc HB.out.size _⟩
          case measure => simp [intOf]; omega
      · have : j = 3 := by omega
        subst this
        have y3 : wr.cell? ⟨bp, 3, none⟩ = some (.bool (kn o.k)) := (HP2.out.below hb).cell 3
        have z4 : wr.cell? ⟨w.heap.size, 4, none⟩ = some (.int .i64 o.n) := (HT2.out.below hb).cell 4
        have hzj := HS.out 3
        have hop : opS o = if kn o.k = true then acc o 3 ++ intS o.n else acc o 3 := rfl
        clear hb HT2 HP2 HE HN HS HU hj hj1 ek
        have hz' : (intS o.n).size ≤ 10 := hz
        clear hz
        cases hk : kn o.k with
        | true =>
          rw [hk, if_pos rfl] at hop
          rw [hk] at y3
          clear hk
          have HO := Lib.hid hop
          clear hop
          generalize acc o 3 = sj at *
          go_wp2_with (go_at_call 49; ((with_reducible refine (ints1_any HI64.out (Blk.new _ _ _)).mono ?_); rintro e w3 ⟨rfl, b1⟩; have HB3 := Lib.hid ((HB.out.alloc HB.out.size (.cells #[.int .i64 o.n] 2)).step b1); clear b1))
          go_ret
          exact ⟨_, rfl, HO.out.symm, HB2.out.trans (HB3.out.mono HB2.out.size)⟩
        | false =>
          rw [hk, if_neg (by decide)] at hop
          rw [hk] at y3
          clear hk
          have HO := Lib.hid hop
          clear hop
          generalize acc o 3 = sj at *
          go_wp2_with fail
          go_ret
          exact ⟨_, rfl, HO.out.symm, HB2.out.trans (HB.out.mono HB2.out.size)⟩
theorem written_any (o : OpV) (ho : OkO o) (hf : formB o = true) (w : World) : Calls Try.prog 25 #[.agg (opA o)] w fun e w' => e = .returned (.string (opS o)) ∧ Below w.heap.size w w' :=
  (written_go o ho hf w).mono fun e w' ⟨r, he, hr, hb⟩ => ⟨by rw [he, hr], hb⟩
end Go.Proofs.Ytpidhcogaoehhaa


/- The walk of the program's reader of an op: 'read'. No condition. -/
namespace Go.Proofs.Ytpidhcogaoehhaa
open Go.RowKit Cd Wire
set_option linter.unusedVariables false
namespace Cd
/-- A reader's state. -/
structure RS where
  s : ByteArray
  e : Int
def uV (most : Int) (r : RS) : Int := numV r.s r.e (uC r.s most)
def uS (most : Int) (r : RS) : RS := ⟨numS r.s r.e (uC r.s most), numE r.s r.e (uC r.s most)⟩
def cV (most : Int) (r : RS) : Int := numV r.s r.e (cC r.s most)
def cS (most : Int) (r : RS) : RS := ⟨numS r.s r.e (cC r.s most), numE r.s r.e (cC r.s most)⟩
def iV (r : RS) : Int := Num.zag (numV r.s r.e (iC r.s (-9223372036854775808) 9223372036854775807))
def iS (r : RS) : RS := ⟨numS r.s r.e (iC r.s (-9223372036854775808) 9223372036854775807), numE r.s r.e (iC r.s (-9223372036854775808) 9223372036854775807)⟩
theorem uV_range {most : Int} {r : RS} (h : 0 ≤ most) : 0 ≤ uV most r ∧ uV most r ≤ most := by
  have h0 := (numV_U64 r.s r.e (uC r.s most)).1
  refine ⟨h0, ?_⟩
  unfold uV numV
  split
  · rename_i hc
    have := hc.2.2
    unfold uC xI at this
    split at this
    · omega
    · omega
  · exact h
theorem cV_range {most : Int} {r : RS} (h : 0 ≤ most) : 0 ≤ cV most r ∧ cV most r ≤ most := by
  have h0 := (numV_U64 r.s r.e (cC r.s most)).1
  refine ⟨h0, ?_⟩
  unfold cV numV
  split
  · rename_i hc
    have := hc.2.2
    unfold cC cntC xI at this
    split at this
    · omega
    · rename_i h2; omega
  · exact h
def setE (o : OpV) (j : Nat) (x : Int) : OpV := if j = 0 then { o with d := x } else if j = 1 then { o with a := x } else { o with b := x }
def hasE (k : Int) (j : Nat) : Bool := if j = 0 then kd k else if j = 1 then ka k else kb k
/-- What has been read of an op when its kind and j of its parts are. -/
def ptS (r : RS) : Nat → RS
  | 0 => uS 255 r
  | j + 1 => if hasE (uV 255 r) j = true then uS 16 (ptS r j) else ptS r j
def ptF (r : RS) : Nat → OpV
  | 0 => ⟨uV 255 r, 0, 0, 0, 0⟩
  | j + 1 => if hasE (uV 255 r) j = true then setE (ptF r j) j (uV 16 (ptS r j)) else ptF r j
def roS (r : RS) : RS := if kn (uV 255 r) = true then iS (ptS r 3) else ptS r 3
def roV (r : RS) : OpV := if kn (uV 255 r) = true then { ptF r 3 with n := iV (ptS r 3) } else ptF r 3
def roB (r : RS) : Bool := known (uV 255 r) && ((roS r).e == 0)
theorem setE_k (o : OpV) (j : Nat) (x : Int) : (setE o j x).k = o.k := by unfold setE; split; rfl; split <;> rfl
theorem ptF_k (r : RS) (j : Nat) : (ptF r j).k = uV 255 r := by
  induction j with
  | zero => rfl
  | succ j ih => unfold ptF; split; rw [setE_k]; exact ih; exact ih
theorem ptF_n (r : RS) (j : Nat) : (ptF r j).n = 0 := by
  induction j with
  | zero => rfl
  | succ j ih => unfold ptF; split; unfold setE; split; exact ih; split <;> exact ih; exact ih
theorem opA_setE (o : OpV) {j : Nat} (h : j < 3) (x : Int) : (opA o).setIfInBounds (j + 1) (.int .i64 x) = opA (setE o j x) := by
  have : j = 0 ∨ j = 1 ∨ j = 2 := by omega
  rcases this with rfl | rfl | rfl <;> rfl
end Cd
end Go.Proofs.Ytpidhcogaoehhaa
