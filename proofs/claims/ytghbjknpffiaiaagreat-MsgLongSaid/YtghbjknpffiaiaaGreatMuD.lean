import Derived.Test.YtghbjknpffiaiaaGreatMuC
import Derived.Test.YtghbjknpffiaiaaGreatMgl
import Derived.Test.YtghbjknpffiaiaaGreatMtU
import Derived.Laws.OwnMore
import Derived.Deep.CutBlock
namespace Go.Proofs.YtghbjknpffiaiaaGreat
open Go.RowKit Wire Ms
set_option linter.unusedVariables false
set_option linter.unusedSimpArgs false
theorem raw_max {m : M} (t : TyM m) (l : Lite m) (n : NN m) : (rawS m).size ≤ 100000000 := by
 rw [← raw_ifp, st_size]
 simp only [List.length_append]
 have h := fun p => ifp_len t l n p
 have h0 := wU_len (x := m.kind) (by have := t.kind; unfold U64; omega)
 have := h .J; have := h .T; have := h .P; have := h .I; have := h .F; have := h .K; have := h .E; have := h .N; have := h .H; have := h .A; have := h .C; have := h .S; have := h .R; have := h .X
 omega
def lgm (r : Int) (n b : Nat) : M := if r = 0 then long0 n else if r = 1 then long1 n else long2 ⟨(List.replicate b (0 : UInt8)).toArray⟩
theorem lg_str (b : Nat) : (⟨(List.replicate b (0 : UInt8)).toArray⟩ : ByteArray).size = b := by
 show (List.replicate b (0 : UInt8)).toArray.size = b
 simp
theorem lgm_ty (r : Int) (n b : Nat) : TyM (lgm r n b) := by
 unfold lgm
 split
 ·exact ty_long0 n
 ·split
  ·exact ty_long1 n
  ·exact ty_long2 _
theorem lgm_lite {r : Int} {n b : Nat} (hn : n ≤ 300) (hb : b ≤ 9000) : Lite (lgm r n b) := by
 unfold lgm
 split
 ·exact { lite_k 8 with codes := by show (List.replicate n (0 : Int)).length ≤ 1000; rw [List.length_replicate]; omega }
 ·split
  ·exact { lite_k 12 with names := ⟨by show (List.replicate n (⟨0, ⟨#[]⟩⟩ : Nm)).length ≤ 1000; rw [List.length_replicate]; omega, fun x hx => by rw [List.eq_of_mem_replicate hx]; exact Nat.zero_le _⟩, epochs := by show (List.replicate n (0 : Int)).length ≤ 1000; rw [List.length_replicate]; omega }
  ·exact { lite_k 13 with prog := by show (⟨(List.replicate b (0 : UInt8)).toArray⟩ : ByteArray).size ≤ 1000000; rw [lg_str]; omega }
theorem lgm_nn (r : Int) (n b : Nat) : NN (lgm r n b) := by
 unfold lgm
 split
 ·exact ⟨Int.le_refl 0, Int.le_refl 0, Int.le_refl 0, fun e h => (by cases h), fun x hx => (by rw [List.eq_of_mem_replicate hx]; decide), Int.le_refl 0, Int.le_refl 0⟩
 ·split
  ·exact ⟨Int.le_refl 0, Int.le_refl 0, Int.le_refl 0, fun e h => (by cases h), fun x hx => (by cases hx), Int.le_refl 0, Int.le_refl 0⟩
  ·exact ⟨Int.le_refl 0, Int.le_refl 0, Int.le_refl 0, fun e h => (by cases h), fun x hx => (by cases hx), Int.le_refl 0, Int.le_refl 0⟩
theorem lgm_may {r z : Int} {n b : Nat} (hz : -128 ≤ z ∧ z ≤ 127) (hn : 128 + z = n) (hb : 8186 + z = b) : mayM (lgm r n b) = decide (z ≤ 0) := by
 have e1 : decide (n ≤ 128) = decide (z ≤ 0) := decide_eq_decide.2 (by omega)
 unfold lgm
 split
 ·rw [may_long0 n (by omega), e1]
 ·split
  ·rw [may_long1 n (by omega), e1]
  ·rw [may_long2 _ (by rw [lg_str]; omega) (by rw [lg_str]; omega), lg_str]
   exact decide_eq_decide.2 (by omega)
theorem made_get {z : Value} {sz : Nat} (hz : z.cells.size = sz) (hs : 0 < sz) (n i j : Nat) (hi : i < n) (hj : j < sz) (x : Value) (hx : z.cells[j]? = some x) : (madeCells z.cells (n * sz))[i * sz + j]? = some x := by
 have hlt : i * sz + j < n * sz := by
  have h7 := Nat.mul_le_mul_right sz (show i + 1 ≤ n from hi)
  rw [Nat.succ_mul] at h7
  omega
 unfold madeCells
 rw [Array.getElem?_map, Array.getElem?_range, if_pos hlt]
 show some (z.cells[(i * sz + j) % z.cells.size]!) = _
 have e : (i * sz + j) % z.cells.size = j := by rw [hz, Nat.mul_comm, Nat.mul_add_mod, Nat.mod_eq_of_lt hj]
 rw [e]
 have h3 := (Array.getElem?_eq_some_iff.1 hx)
 obtain ⟨h4, h5⟩ := h3
 simp [h4, h5]
theorem rw_made {α : Type} {LAY : α → List Value} {w : World} {g n sz B : Nat} {T : TypeId} {z : Value} {a : α} (hb : Blk w g T (madeCells z.cells (n * sz))) (hz : z.cells.size = sz) (hs : 0 < sz) (hl : LAY a = z.cells.toList) (hg : g < B) : Rw sz LAY w B (.slice (some ⟨g, 0, none⟩) n n) (List.replicate n a) := by
 refine ⟨some ⟨g, 0, none⟩, n, by rw [List.length_replicate], fun _ => ⟨g, 0, rfl, hg, fun i h j x hx => ?_⟩⟩
 rw [List.getElem_replicate, hl, Array.getElem?_toList] at hx
 rw [hb.cell, Nat.zero_add]
 rw [List.length_replicate] at h
 exact made_get hz hs n i j h (by rw [← hz]; exact (Array.getElem?_eq_some_iff.1 hx).1) x hx
theorem mkRun {P : Program} {op : Oper} {a : Act} {w : World} {x : Operand} {t e : TypeId} {z : Value} {size bytes n : Nat} {c : Int}
  (ho : op.op = .makeSlice t x x) (hx : a.eval x = .int .i64 c) (hc : c = (n : Nat)) (ht : P.underlying t = some (.slice e)) (hi : Info P e z size bytes) (hb : bytes ≤ 1024) (hn : n ≤ 1000000) {A : Array Value} (hA : A = madeCells z.cells (n * size)) {B : Nat} (hB : B < w.heap.size) :
  op.wp P a w (fun a' w' => ∃ v', a' = a.put op.dst v' ∧ (∃ gl, v' = .slice (some ⟨gl, 0, none⟩) n n ∧ B < gl ∧ Blk w' gl e A) ∧ Reg.Grow w w') (fun _ _ _ => False) := by
 subst hc hA
 obtain ⟨i, hi1, hi2, hi3, hi4⟩ := info_parts hi
 have hr := run_make (P := P) (w := w) t e i z ht hi1 hi2 .i64 .i64 n n (by omega) (Int.le_refl _) (by rw [hi4]; have : bytes * n ≤ 1024 * 1000000 := Nat.mul_le_mul hb hn; omega) (by omega)
 simp only [Int.toNat_natCast, hi3] at hr
 unfold Oper.wp execOp
 simp only [ho, hx, hr, Sem.run_bind, Result.andThen_ok, Sem.run_pure]
 exact ⟨_, rfl, ⟨_, rfl, hB, Blk.new w e _⟩, (Below.refl _ w).alloc (Nat.le_refl _) _⟩
section
variable {P : Program} {ops : Array Oper} {rest : List Oper} {o : Oper} {a : Act} {Q : Exit → Act → World → Prop}
theorem wpl_make_bytes {w : World} {x : Operand} {t e : TypeId} {z : Value} {bytes n : Nat} {c : Int}
  (hgd : o.guard = none) (ho : o.op = .makeSlice t x x) (hx : a.eval x = .int .i64 c) (hc : c = (n : Int))
  (ht : P.underlying t = some (.slice e)) (hi : Info P e z 1 bytes) (hz : z.cells = #[.int .u8 0]) (hb : bytes ≤ 1024) (hn : n ≤ 1000000)
  (h : ∀ w', w'.ownsRow w.heap.size e 1 (.slice (some ⟨w.heap.size, 0, none⟩) n n) n (List.replicate n (.int .u8 0)) → Below w.heap.size w w' → wpList P ops Q rest (a.put o.dst (.slice (some ⟨w.heap.size, 0, none⟩) n n)) w') :
  wpList P ops Q (o :: rest) a w := by
 subst hc
 obtain ⟨i, hi1, hi2, hi3, hi4⟩ := info_parts hi
 obtain ⟨w', hr, h2, h3⟩ := run_makeSlice_full (P := P) (w := w) w.heap.size t e i z 1 ht hi1 hi2 hi3 .i64 .i64 n (by omega) (by rw [hi4]; have : bytes * n ≤ 1024 * 1000000 := Nat.mul_le_mul hb hn; omega) (by unfold maxLen; omega) (Nat.le_refl _)
 have e1 : (madeCells z.cells (n * 1)).toList = List.replicate n (.int .u8 0) := by
  rw [hz, Nat.mul_one]
  apply List.ext_getElem?
  intro k
  unfold madeCells
  rw [Array.getElem?_toList, Array.getElem?_map, List.getElem?_replicate, Array.getElem?_range]
  by_cases hk : k < n
  ·rw [if_pos hk, if_pos hk]
   simp [Nat.mod_one]
  ·rw [if_neg hk, if_neg hk]
   rfl
 rw [e1] at h2
 refine wpList_plain hgd fun K hK => ?_
 unfold Oper.wp execOp
 simp only [ho, hx, hr, Sem.run_bind, Result.andThen_ok, Sem.run_pure]
 exact hK _ _ (h w' h2 ⟨h3.os, h3.tape, h3.output, h3.size, fun k hk => h3.block k hk (by simp)⟩)
theorem wpl_made {w : World} {x : Operand} {t e : TypeId} {z : Value} {size bytes n : Nat} {c : Int}
  (hgd : o.guard = none) (ho : o.op = .makeSlice t x x) (hx : a.eval x = .int .i64 c) (hc : c = (n : Nat)) (ht : P.underlying t = some (.slice e)) (hi : Info P e z size bytes) (hb : bytes ≤ 1024) (hn : n ≤ 1000000)
  (h : ∀ w', Blk w' w.heap.size e (madeCells z.cells (n * size)) → Below w.heap.size w w' → wpList P ops Q rest (a.put o.dst (.slice (some ⟨w.heap.size, 0, none⟩) n n)) w') : wpList P ops Q (o :: rest) a w := by
 subst hc
 obtain ⟨i, hi1, hi2, hi3, hi4⟩ := info_parts hi
 have hr := run_make (P := P) (w := w) t e i z ht hi1 hi2 .i64 .i64 n n (by omega) (Int.le_refl _) (by rw [hi4]; have : bytes * n ≤ 1024 * 1000000 := Nat.mul_le_mul hb hn; omega) (by omega)
 simp only [Int.toNat_natCast, hi3] at hr
 refine wpList_plain hgd fun K hK => ?_
 unfold Oper.wp execOp
 simp only [ho, hx, hr, Sem.run_bind, Result.andThen_ok, Sem.run_pure]
 exact hK _ _ (h _ (Blk.new w e _) ((Below.refl _ w).alloc (Nat.le_refl _) _))
end
def LgR (W : World) (L : M) (w : World) : Prop := ∃ v, Blk w W.heap.size 34 (mcells L v) ∧ MR w w.heap.size L v ∧ Below W.heap.size W w
theorem lg_nil {α : Type} {sz : Nat} {LAY : α → List Value} {w : World} {B : Nat} : Rw sz LAY w B nilV [] := ⟨none, 0, rfl, fun h => absurd h (Nat.lt_irrefl 0)⟩
theorem lg0 {W w w6 : World} {n g : Nat} {T : TypeId} (hb : Blk w g T (madeCells (Value.int .i64 0).cells (n * 1))) (hB : Below W.heap.size W w) (hg : W.heap.size < g) (h6 : Blk w6 W.heap.size 34 (mcells (long0 n) ⟨nilV, nilV, nilV, nilV, nilV, .slice (some ⟨g, 0, none⟩) n n⟩)) (ho : Only (· = W.heap.size) w w6) : LgR W (long0 n) w6 := by
 have hl := hb.lt
 have hs := ho.size
 exact ⟨_, h6, ⟨lg_nil, lg_nil, lg_nil, lg_nil, lg_nil, rw_made (hb.only ho (by omega)) rfl (by decide) rfl (by omega)⟩, hB.trans (Only.below ho hB.size fun k e => Nat.le_of_eq e.symm)⟩
theorem lg1 {W w w6 : World} {n g g2 : Nat} {T T2 : TypeId} (hb : Blk w g T (madeCells (Value.agg #[.int .u64 0, .string ⟨#[]⟩]).cells (n * 2))) (hb2 : Blk w g2 T2 (madeCells (Value.int .u64 0).cells (n * 1))) (hB : Below W.heap.size W w) (hg : g ≠ W.heap.size) (hg2 : g2 ≠ W.heap.size) (h6 : Blk w6 W.heap.size 34 (mcells (long1 n) ⟨nilV, nilV, nilV, .slice (some ⟨g2, 0, none⟩) n n, .slice (some ⟨g, 0, none⟩) n n, nilV⟩)) (ho : Only (· = W.heap.size) w w6) : LgR W (long1 n) w6 := by
 have hl := hb.lt
 have hl2 := hb2.lt
 have hs := ho.size
 exact ⟨_, h6, ⟨lg_nil, lg_nil, lg_nil, rw_made (hb2.only ho hg2) rfl (by decide) rfl (by omega), rw_made (hb.only ho hg) rfl (by decide) rfl (by omega), lg_nil⟩, hB.trans (Only.below ho hB.size fun k e => Nat.le_of_eq e.symm)⟩
theorem lg2 {W w w6 : World} {s : ByteArray} (hB : Below W.heap.size W w) (h6 : Blk w6 W.heap.size 34 (mcells (long2 s) nilVS)) (ho : Only (· = W.heap.size) w w6) : LgR W (long2 s) w6 :=
 ⟨nilVS, h6, ⟨lg_nil, lg_nil, lg_nil, lg_nil, lg_nil, lg_nil⟩, hB.trans (Only.below ho hB.size fun k e => Nat.le_of_eq e.symm)⟩
set_option maxRecDepth 100000 in
set_option maxHeartbeats 8000000 in
theorem long_run {z x : Int} (hz : -128 ≤ z ∧ z ≤ 127) (hx : 0 ≤ x ∧ x ≤ 255) (W : World) :
  Calls Tryz.prog 5 #[.int .i8 z, .int .u8 x] W fun e w' => e = .returned (.bool true) ∧ Below W.heap.size W w' := by
 obtain ⟨n, hn⟩ : ∃ n : Nat, 128 + z = n := ⟨(128 + z).toNat, by omega⟩
 obtain ⟨b, hb⟩ : ∃ b : Nat, 8186 + z = b := ⟨(8186 + z).toNat, by omega⟩
 have HN := Lib.hid hn
 have HNB := Lib.hid hb
 have HNL : Hid (n ≤ 300 ∧ b ≤ 9000) := Lib.hid (by omega)
 have HMY := Lib.hid (lgm_may (r := x % 3) hz hn hb)
 have HTY := Lib.hid (lgm_ty (x % 3) n b)
 have HLI := Lib.hid (lgm_lite (r := x % 3) HNL.out.1 HNL.out.2)
 have HNN := Lib.hid (lgm_nn (x % 3) n b)
 have HLG : Hid (lgm (x % 3) n b = if x % 3 = 0 then long0 n else if x % 3 = 1 then long1 n else long2 ⟨(List.replicate b (0 : UInt8)).toArray⟩) := Lib.hid rfl
 have HR3 : Hid (0 ≤ x % 3 ∧ x % 3 ≤ 2) := Lib.hid (by omega)
 clear hn hb
 generalize lgm (x % 3) n b = L at *
 obtain ⟨A0, hA0⟩ : ∃ A0 : Array Value, A0 = #[.int .u8 0, .int .u64 0, .string ⟨#[]⟩, .string ⟨#[]⟩, .slice none 0 0, .int .i64 0, .string ⟨#[]⟩, .int .i64 0, .slice none 0 0, .int .i64 0, .int .u64 0, .slice none 0 0, .slice none 0 0, .slice none 0 0, .slice none 0 0, .int .u8 0, .int .i64 0, .int .i64 0, .int .i64 0] := ⟨_, rfl⟩
 have HI0 : Hid (Blk (W.alloc (.cells #[.int .u8 0, .int .u64 0, .string ⟨#[]⟩, .string ⟨#[]⟩, .slice none 0 0, .int .i64 0, .string ⟨#[]⟩, .int .i64 0, .slice none 0 0, .int .i64 0, .int .u64 0, .slice none 0 0, .slice none 0 0, .slice none 0 0, .slice none 0 0, .int .u8 0, .int .i64 0, .int .i64 0, .int .i64 0] 34)) W.heap.size 34 A0 ∧ Below W.heap.size W (W.alloc (.cells #[.int .u8 0, .int .u64 0, .string ⟨#[]⟩, .string ⟨#[]⟩, .slice none 0 0, .int .i64 0, .string ⟨#[]⟩, .int .i64 0, .slice none 0 0, .int .i64 0, .int .u64 0, .slice none 0 0, .slice none 0 0, .slice none 0 0, .slice none 0 0, .int .u8 0, .int .i64 0, .int .i64 0, .int .i64 0] 34))) := Lib.hid ⟨by rw [hA0]; exact Blk.new W _ _, (Below.refl _ W).alloc (Nat.le_refl _) _⟩
 have HA0 : Hid (A0.size = 19) := Lib.hid (by rw [hA0]; rfl)
 clear hA0
 go_enter Tryz.func5, Tryz.ntmps5
 go_upto_block 0 with fail
 generalize W.alloc (.cells #[.int .u8 0, .int .u64 0, .string ⟨#[]⟩, .string ⟨#[]⟩, .slice none 0 0, .int .i64 0, .string ⟨#[]⟩, .int .i64 0, .slice none 0 0, .int .i64 0, .int .u64 0, .slice none 0 0, .slice none 0 0, .slice none 0 0, .slice none 0 0, .int .u8 0, .int .i64 0, .int .i64 0, .int .i64 0] 34) = w0 at *
 go_cut [] (fun wc => LgR W L wc)
 case first =>
  by_cases h0 : x % 3 = 0
  ·have h0' : (x % 3 == 0) = true := by simpa using h0
   have HLL : Hid (L = long0 n) := Lib.hid (by have h := HLG.out; rw [if_pos h0] at h; exact h)
   clear h0 HLG
   go_wp2_with (first
    | (refine wpl_made (n := n) rfl rfl rfl HN.out Tryz.underlying29 info_err (by decide) (by have := HNL.out; omega) ?_; go_loud (intro w1 hb1 hw1; have HB1 := Lib.hid hb1; have HBK := Lib.hid (HI0.out.1.below hw1); have HBW := Lib.hid (HI0.out.2.trans (hw1.mono HI0.out.2.size)); clear hb1 hw1))
    | (refine wpl_store_blk (c' := mcells (long0 n) ⟨nilV, nilV, nilV, nilV, nilV, .slice (some ⟨w0.heap.size, 0, none⟩) n n⟩) HBK.out rfl _ _ _ rfl rfl rfl (by kernel_rfl) HA0.out mc_one ?_; go_loud (intro w6 hb6 ho6; have HLX := Lib.hid (lg0 HB1.out HBW.out HI0.out.1.lt hb6 ho6); clear hb6 ho6)))
   go_meet
   exact HLL.out ▸ HLX.out
  ·have h0' : (x % 3 == 0) = false := by simpa using h0
   by_cases h1 : x % 3 = 1
   ·have h1' : (x % 3 == 1) = true := by simpa using h1
    have HLL : Hid (L = long1 n) := Lib.hid (by have h := HLG.out; rw [if_neg h0, if_pos h1] at h; exact h)
    clear h0 h1 HLG
    obtain ⟨A1, hA1⟩ : ∃ A1, A1 = madeCells (Value.agg #[.int .u64 0, .string ⟨#[]⟩]).cells (n * 2) := ⟨_, rfl⟩
    obtain ⟨A2, hA2⟩ : ∃ A2, A2 = madeCells (Value.int .u64 0).cells (n * 1) := ⟨_, rfl⟩
    have HA1 := Lib.hid hA1
    have HA2 := Lib.hid hA2
    go_upto_region 8 with fail
    refine Reg.wp_rely 4 (fun w => Blk w W.heap.size 34 A0 ∧ Below W.heap.size W w) (by kernel_rfl) (Reg.relyOk_of (by kernel_rfl)) ⟨HI0.out.1.drew, HI0.out.2.drew⟩ (fun w w' h hI => ⟨hI.1.below h, hI.2.trans (h.mono (by have := hI.2.size; omega))⟩) ?_
    refine Reg.rely_plain (.int .i64 (128 + z)) rfl (fun a w hI hF => by
      have f1 : a.tmps.getD 5 undef = .int .i64 (128 + z) := hF 5 (Reg.looksB (by kernel_rfl))
      clear hF hI
      simp only [Array.getD_eq_getD_getElem?] at f1
      simp only [execOp]; go_simp) ?_
    refine Reg.rely_rel (fun v w => ∃ gl, v = .slice (some ⟨gl, 0, none⟩) n n ∧ W.heap.size < gl ∧ Blk w gl 52 A1) (fun v w w' h hS => by obtain ⟨gl, h1, h2, h3⟩ := hS; exact ⟨gl, h1, h2, h3.below h⟩) (fun G hG => by cases hG) rfl (fun a w hI hF => ?_) ?_
    ·have f1 : a.tmps.getD 34 undef = .int .i64 (128 + z) := hF 34 (Reg.looksB (by kernel_rfl))
     exact mkRun (x := .tmp 34) (t := 28) rfl f1 HN.out Tryz.underlying28 info_nm (by decide) (by have := HNL.out; omega) HA1.out hI.1.lt
    refine Reg.rely_plain (.int .i64 (128 + z)) rfl (fun a w hI hF => by
      have f1 : a.tmps.getD 5 undef = .int .i64 (128 + z) := hF 5 (Reg.looksB (by kernel_rfl))
      clear hF hI
      simp only [Array.getD_eq_getD_getElem?] at f1
      simp only [execOp]; go_simp) ?_
    refine Reg.rely_rel (fun v w => ∃ gl, v = .slice (some ⟨gl, 0, none⟩) n n ∧ W.heap.size < gl ∧ Blk w gl 22 A2) (fun v w w' h hS => by obtain ⟨gl, h1, h2, h3⟩ := hS; exact ⟨gl, h1, h2, h3.below h⟩) (fun G hG => by cases hG) rfl (fun a w hI hF => ?_) ?_
    ·have f1 : a.tmps.getD 36 undef = .int .i64 (128 + z) := hF 36 (Reg.looksB (by kernel_rfl))
     exact mkRun (x := .tmp 36) (t := 27) rfl f1 HN.out Tryz.underlying27 info_u64 (by decide) (by have := HNL.out; omega) HA2.out hI.1.lt
    refine Reg.rely_nil ?_
    refine Reg.final_rel (fun v3 => ?_)
    refine Reg.final_is ?_
    refine Reg.final_rel (fun v1 => ?_)
    refine Reg.final_is ?_
    refine Reg.final_nil (fun w9 hF => ?_)
    simp only [List.drop_succ_cons, List.drop_zero]
    go_simp
    obtain ⟨⟨hI9, g2, rfl, hg2, hb2⟩, g1, rfl, hg1, hb1⟩ := hF
    have HBK := Lib.hid hI9.1
    have HLX := Lib.hid (fun w6 => lg1 (w6 := w6) (HA1.out ▸ hb1) (HA2.out ▸ hb2) hI9.2 (by omega) (by omega))
    clear hI9 hb1 hb2 hA1 hA2 hg1 hg2
    go_wp2_with (refine wpl_store_blk (c' := mcells (long1 n) ⟨nilV, nilV, nilV, .slice (some ⟨g2, 0, none⟩) n n, .slice (some ⟨g1, 0, none⟩) n n, nilV⟩) HBK.out rfl _ _ _ rfl rfl rfl (by kernel_rfl) HA0.out mc_one ?_; go_loud (intro w6 hb6 ho6; have HLY := Lib.hid (HLX.out w6 hb6 ho6); clear hb6 ho6))
    refine Reg.fin (by kernel_rfl) ?_
    go_wp2_with fail
    go_meet
    exact HLL.out ▸ HLY.out
   ·have h1' : (x % 3 == 1) = false := by simpa using h1
    have HLL : Hid (L = long2 ⟨(List.replicate b (0 : UInt8)).toArray⟩) := Lib.hid (by have h := HLG.out; rw [if_neg h0, if_neg h1] at h; exact h)
    clear h0 h1 HLG
    go_wp2_with (first
     | (refine wpl_make_bytes (n := b) rfl rfl rfl HNB.out Tryz.underlying48 info_u8 rfl (by decide) (by have := HNL.out; omega) ?_; go_loud (intro w1 hb1 hw1; have HB1 := Lib.hid hb1; have HBK := Lib.hid (HI0.out.1.below hw1); have HBW := Lib.hid (HI0.out.2.trans (hw1.mono HI0.out.2.size)); clear hb1 hw1))
     | (refine wpl_bytes_string (List.replicate b (0 : UInt8)) rfl rfl rfl Tryz.underlying48 Tryz.underlying5 Tryz.underlying9 (by rw [List.map_replicate]; exact HB1.out) ?_)
     | (refine wpl_store_blk (c' := mcells (long2 ⟨(List.replicate b (0 : UInt8)).toArray⟩) nilVS) HBK.out rfl _ _ _ rfl rfl rfl (by kernel_rfl) HA0.out mc_one ?_; go_loud (intro w6 hb6 ho6; have HLX := Lib.hid (lg2 HBW.out hb6 ho6); clear hb6 ho6)))
    go_meet
    exact HLL.out ▸ HLX.out
 case rest =>
  obtain ⟨v, hv, hr, hw⟩ := hcut
  have HA := Lib.hid (fun w (k : Below wc.heap.size wc w) => hv.below k)
  have RA : Hid (∀ w, Below wc.heap.size wc w → MR w w.heap.size L v) := Lib.hid (fun w k => (hr.keep fun b o x h1 h2 => Below.cellq k h1 h2).mono k.size)
  have HB := Lib.hid hw
  have K0 := Lib.hid (Below.refl wc.heap.size wc)
  obtain ⟨p1, c1, p2, c2, p3, c3, p4, c4, p5, c5, p6, c6, rfl⟩ := hr.vs
  have HEa := Lib.hid (fun w k => enc_any (RA.out w k) (Nat.le_refl _) HTY.out HLI.out)
  have HEr := Lib.hid (fun w k => renc26_any (RA.out w k) HTY.out HLI.out)
  have HRa := Lib.hid (fun w k => raw26_any (RA.out w k) HTY.out HLI.out HNN.out)
  have HDs := Lib.hid (fun w => dec_any (rawS L) (by have := raw_max HTY.out HLI.out HNN.out; unfold maxLen; omega) w)
  have HDr := Lib.hid (fun w => rdec26_any (rawS L) (by have := raw_max HTY.out HLI.out HNN.out; unfold maxLen; omega) w)
  have HL2 := Lib.hid (lite_dec (rawS L))
  unfold EncP9 at HEr
  rw [enc_eq HTY.out] at HEa
  clear hv hr hw RA HLG HTY HLI HNN HI0 HA0 HNL
  generalize decS (rawS L) = nc at *
  obtain ⟨n2, c2'⟩ := nc
  dsimp only at *
  by_cases hz0 : z ≤ 0
  ·rw [decide_eq_true hz0] at HMY
   rw [HMY.out, if_pos rfl] at HEa
   dsimp only at HEa
   simp only [HMY.out, if_pos] at HEr
   clear HMY
   generalize rawS L = rs at *
   have hst := str_of (a := rs) rfl
   have hz9 : decide (z ≤ 0) = true := decide_eq_true hz0
   go_upto_region 10 with (first | (refine wpl_load_blk (HA.out _ K0.out) rfl _ _ rfl rfl Tryz.underlying34 rfl (by kernel_rfl) ?_) | (go_at_call 8; ((with_reducible refine (HEa.out _ K0.out).mono ?_); rintro e w1 ⟨rfl, hbq⟩; have K1 := Lib.hid (K0.out.step hbq); clear hbq)))
   go_upto_region 11 with (first | (refine wpl_load_blk (HA.out _ K1.out) rfl _ _ rfl rfl Tryz.underlying34 rfl (by kernel_rfl) ?_) | (go_at_call 9; ((with_reducible refine (HEr.out _ K1.out).mono ?_); rintro e w2 ⟨rfl, hbq⟩; have K2 := Lib.hid (K1.out.step hbq); clear hbq)))
   go_upto_region 12 with (first | (refine wpl_load_blk (HA.out _ K2.out) rfl _ _ rfl rfl Tryz.underlying34 rfl (by kernel_rfl) ?_) | (go_at_call 16; ((with_reducible refine (HRa.out _ K2.out).mono ?_); rintro e w3 ⟨rfl, hbq⟩; have K3 := Lib.hid (K2.out.step hbq); clear hbq)))
   clear HEa HEr HRa K0 K1 K2
   go_upto_region 13 with (first
    | (go_at_call 14; go_loud ((with_reducible refine (HDs.out _).mono ?_); rintro e w4 ⟨v4, rfl, hr, hbq⟩; obtain ⟨q1, qc1, q2, qc2, q3, qc3, q4, qc4, q5, qc5, q6, qc6, rfl⟩ := hr.vs; have R4 := Lib.hid hr; have K4 := Lib.hid (K3.out.step hbq); clear hr hbq))
    | (refine wpl_store_blk (Blk.new _ _ _) rfl _ _ _ rfl rfl rfl (by kernel_rfl) rfl mc_one ?_; go_loud (intro w5 hbk ho; have HU5 := Lib.hid hbk; have L5 := Lib.hid (al_step ho); have K5 := Lib.hid (K4.out.step L5.out); clear hbk ho)))
   go_upto_region 14 with (first
    | (go_at_call 15; go_loud ((with_reducible refine (HDr.out _).mono ?_); rintro e w6 ⟨v6, rfl, hr, hbq⟩; obtain ⟨t1, tc1, t2, tc2, t3, tc3, t4, tc4, t5, tc5, t6, tc6, rfl⟩ := hr.vs; have R6 := Lib.hid hr; have L6 := Lib.hid (L5.out.step hbq); have K6 := Lib.hid (K5.out.step hbq); have HU6 := Lib.hid (HU5.out.below hbq); clear hr hbq))
    | (refine wpl_store_blk (Blk.new _ _ _) rfl _ _ _ rfl rfl rfl (by kernel_rfl) rfl mc_one ?_; go_loud (intro w7 hbk ho; have HV7 := Lib.hid hbk; have M7 := Lib.hid (al_step ho); have L7 := Lib.hid (L6.out.step (al_step ho)); have K7 := Lib.hid (K6.out.step (al_step ho)); have HU7 := Lib.hid (HU6.out.below (al_step ho)); clear hbk ho)))
   have HS := Lib.hid (show Calls Tryz.prog 13 #[.agg (mcells n2 _), .agg (mcells n2 _)] w7 (EqP true w7) from by have h := rsame_any ((R4.out.keep fun b o x h1 h2 => Below.cellq L7.out h1 h2).mono L7.out.size) ((R6.out.keep fun b o x h1 h2 => Below.cellq M7.out h1 h2).mono M7.out.size) (Nat.le_refl _) HL2.out; rw [decide_eq_true rfl] at h; exact h)
   clear HDs HDr HU5 HU6 K3 K4 K5 K6 L5 L6 HL2 R4 R6 L7 M7 HA
   go_wp2_with (first | (refine wpl_load_blk HU7.out rfl _ _ rfl rfl Tryz.underlying34 rfl (by kernel_rfl) ?_) | (refine wpl_load_blkg HU7.out rfl _ _ rfl rfl Tryz.underlying34 rfl (by kernel_rfl) ?_) | (refine wpl_load_blk HV7.out rfl _ _ rfl rfl Tryz.underlying34 rfl (by kernel_rfl) ?_) | (refine wpl_load_blkg HV7.out rfl _ _ rfl rfl Tryz.underlying34 rfl (by kernel_rfl) ?_) | (go_at_call 13; ((with_reducible refine HS.out.mono ?_); rintro e w8 ⟨rfl, hbq⟩; have K8 := Lib.hid (K7.out.step hbq); clear hbq)) | (go_at_call 7; ((with_reducible refine (alive26_any _).mono ?_); rintro e wz ⟨rfl, hbq⟩; have KZ := Lib.hid (K8.out.step hbq); clear hbq)))
   go_ret
   exact ⟨rfl, HB.out.trans (KZ.out.mono HB.out.size)⟩
  ·rw [decide_eq_false hz0] at HMY
   rw [HMY.out, if_neg (by decide)] at HEa
   dsimp only at HEa
   simp only [HMY.out, if_neg] at HEr
   clear HMY
   generalize rawS L = rs at *
   have hz9 : decide (z ≤ 0) = false := decide_eq_false hz0
   go_upto_region 10 with (first | (refine wpl_load_blk (HA.out _ K0.out) rfl _ _ rfl rfl Tryz.underlying34 rfl (by kernel_rfl) ?_) | (go_at_call 8; ((with_reducible refine (HEa.out _ K0.out).mono ?_); rintro e w1 ⟨rfl, hbq⟩; have K1 := Lib.hid (K0.out.step hbq); clear hbq)))
   go_upto_region 11 with (first | (refine wpl_load_blk (HA.out _ K1.out) rfl _ _ rfl rfl Tryz.underlying34 rfl (by kernel_rfl) ?_) | (go_at_call 9; ((with_reducible refine (HEr.out _ K1.out).mono ?_); rintro e w2 ⟨rfl, hbq⟩; have K2 := Lib.hid (K1.out.step hbq); clear hbq)))
   go_upto_region 12 with (first | (refine wpl_load_blk (HA.out _ K2.out) rfl _ _ rfl rfl Tryz.underlying34 rfl (by kernel_rfl) ?_) | (go_at_call 16; ((with_reducible refine (HRa.out _ K2.out).mono ?_); rintro e w3 ⟨rfl, hbq⟩; have K3 := Lib.hid (K2.out.step hbq); clear hbq)))
   clear HEa HEr HRa K0 K1 K2
   go_upto_region 13 with (first
    | (go_at_call 14; go_loud ((with_reducible refine (HDs.out _).mono ?_); rintro e w4 ⟨v4, rfl, hr, hbq⟩; obtain ⟨q1, qc1, q2, qc2, q3, qc3, q4, qc4, q5, qc5, q6, qc6, rfl⟩ := hr.vs; have R4 := Lib.hid hr; have K4 := Lib.hid (K3.out.step hbq); clear hr hbq))
    | (refine wpl_store_blk (Blk.new _ _ _) rfl _ _ _ rfl rfl rfl (by kernel_rfl) rfl mc_one ?_; go_loud (intro w5 hbk ho; have HU5 := Lib.hid hbk; have L5 := Lib.hid (al_step ho); have K5 := Lib.hid (K4.out.step L5.out); clear hbk ho)))
   go_upto_region 14 with (first
    | (go_at_call 15; go_loud ((with_reducible refine (HDr.out _).mono ?_); rintro e w6 ⟨v6, rfl, hr, hbq⟩; obtain ⟨t1, tc1, t2, tc2, t3, tc3, t4, tc4, t5, tc5, t6, tc6, rfl⟩ := hr.vs; have R6 := Lib.hid hr; have L6 := Lib.hid (L5.out.step hbq); have K6 := Lib.hid (K5.out.step hbq); have HU6 := Lib.hid (HU5.out.below hbq); clear hr hbq))
    | (refine wpl_store_blk (Blk.new _ _ _) rfl _ _ _ rfl rfl rfl (by kernel_rfl) rfl mc_one ?_; go_loud (intro w7 hbk ho; have HV7 := Lib.hid hbk; have M7 := Lib.hid (al_step ho); have L7 := Lib.hid (L6.out.step (al_step ho)); have K7 := Lib.hid (K6.out.step (al_step ho)); have HU7 := Lib.hid (HU6.out.below (al_step ho)); clear hbk ho)))
   have HS := Lib.hid (show Calls Tryz.prog 13 #[.agg (mcells n2 _), .agg (mcells n2 _)] w7 (EqP true w7) from by have h := rsame_any ((R4.out.keep fun b o x h1 h2 => Below.cellq L7.out h1 h2).mono L7.out.size) ((R6.out.keep fun b o x h1 h2 => Below.cellq M7.out h1 h2).mono M7.out.size) (Nat.le_refl _) HL2.out; rw [decide_eq_true rfl] at h; exact h)
   clear HDs HDr HU5 HU6 K3 K4 K5 K6 L5 L6 HL2 R4 R6 L7 M7 HA
   go_wp2_with (first | (refine wpl_load_blk HU7.out rfl _ _ rfl rfl Tryz.underlying34 rfl (by kernel_rfl) ?_) | (refine wpl_load_blkg HU7.out rfl _ _ rfl rfl Tryz.underlying34 rfl (by kernel_rfl) ?_) | (refine wpl_load_blk HV7.out rfl _ _ rfl rfl Tryz.underlying34 rfl (by kernel_rfl) ?_) | (refine wpl_load_blkg HV7.out rfl _ _ rfl rfl Tryz.underlying34 rfl (by kernel_rfl) ?_) | (go_at_call 13; ((with_reducible refine HS.out.mono ?_); rintro e w8 ⟨rfl, hbq⟩; have K8 := Lib.hid (K7.out.step hbq); clear hbq)) | (go_at_call 7; ((with_reducible refine (alive26_any _).mono ?_); rintro e wz ⟨rfl, hbq⟩; have KZ := Lib.hid (K8.out.step hbq); clear hbq)))
   go_ret
   exact ⟨rfl, HB.out.trans (KZ.out.mono HB.out.size)⟩
theorem long_all (z x : Int) (hz : (Lit.int .i8 z).wf = true) (hx : (Lit.int .u8 x).wf = true) (W : World) : Calls Tryz.prog 5 #[.int .i8 z, .int .u8 x] W fun e w' => e = .returned (.bool true) ∧ Below W.heap.size W w' :=
 long_run (Go.bounds_i8 hz) (Go.bounds_u8 hx) W
end Go.Proofs.YtghbjknpffiaiaaGreat
