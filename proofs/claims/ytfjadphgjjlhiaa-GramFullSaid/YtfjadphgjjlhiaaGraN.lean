
/- The walk of GramFull: no more than there is room for. No condition but that the number is a uint16. -/
import Derived.Test.YtfjadphgjjlhiaaGraM
namespace Go.Proofs.Ytfjadphgjjlhiaa
open Go.RowKit Go.Maps Gr Sok
set_option linter.unusedVariables false
set_option linter.unusedSimpArgs false
namespace Gr
def seg (a n : Nat) : List G := (List.range n).map fun (j : Nat) => ⟨(a + j + 1 : Nat), 1, 0, (⟨#[120]⟩ : ByteArray)⟩
theorem seg_len (a n : Nat) : (seg a n).length = n := by simp [seg]
def zer (n : Nat) : List Int := List.replicate n 0
theorem zer_len (n : Nat) : (zer n).length = n := by simp [zer]
theorem zer_get {n j : Nat} (h : j < n) : (zer n)[j]! = 0 := by unfold zer; rw [getElem!_pos _ j (by simpa using h)]; simp
theorem laid_seg (a n m : Nat) : seg a n ++ laid ((a + n : Nat) : Int) 1 (⟨#[120]⟩ : ByteArray) (zer m) m = seg a (n + m) := by
  have h : laid ((a + n : Nat) : Int) 1 (⟨#[120]⟩ : ByteArray) (zer m) m = (List.range m).map fun (j : Nat) => (⟨(a + (n + j) + 1 : Nat), 1, 0, (⟨#[120]⟩ : ByteArray)⟩ : G) := by
    unfold laid
    apply List.map_congr_left
    intro j hj
    rw [zer_get (by simpa using hj)]
    congr 1
    omega
  rw [h]
  unfold seg
  apply List.ext_getElem
  · simp
  · intro i h1 h2
    by_cases hi : i < n
    · rw [List.getElem_append_left (by simpa using hi)]; simp
    · rw [List.getElem_append_right (by simpa using hi)]; simp; omega
theorem seg_cons (a n : Nat) : seg a (n + 1) = ⟨(a + 1 : Nat), 1, 0, (⟨#[120]⟩ : ByteArray)⟩ :: seg (a + 1) n := by
  unfold seg
  rw [List.range_succ_eq_map, List.map_cons, List.map_map]
  congr 1
  apply List.map_congr_left
  intro j hj
  simp only [Function.comp]
  congr 1
  omega
theorem seg_take (a n : Nat) : takeG (fun _ _ => false) (seg a (n + 1)) ((a + 1 : Nat) : Int) = (⟨(a + 1 : Nat), 1, 0, (⟨#[120]⟩ : ByteArray)⟩, 0, seg (a + 1) n) := by
  rw [seg_cons]
  have h1 : ((⟨(a + 1 : Nat), 1, 0, (⟨#[120]⟩ : ByteArray)⟩ : G) :: seg (a + 1) n).find? (fun g => g.id == ((a + 1 : Nat) : Int)) = some ⟨(a + 1 : Nat), 1, 0, (⟨#[120]⟩ : ByteArray)⟩ := by simp
  unfold takeG
  rw [h1]
  have h2 : rem ((⟨(a + 1 : Nat), 1, 0, (⟨#[120]⟩ : ByteArray)⟩ : G) :: seg (a + 1) n) ((a + 1 : Nat) : Int) = seg (a + 1) n := by
    unfold rem
    rw [List.filter_cons_of_neg (by simp), List.filter_eq_self]
    intro g hg
    unfold seg at hg
    obtain ⟨j, _, rfl⟩ := List.mem_map.1 hg
    simp; omega
  dsimp only
  rw [if_neg (by simp), h2]
theorem zer_bad (n : Nat) : ((1 : Int) :: zer n).any bad = false := by
  rw [List.any_cons, show bad 1 = false by decide, Bool.false_or, List.any_eq_false]
  intro x hx
  rw [List.eq_of_mem_replicate hx]; decide
end Gr
theorem info_i1 : Info Try.prog 3 (.int .i64 0) 1 8 := by unfold Info; kernel_rfl
theorem mk_cells (sz : Nat) (hs : sz = 1) (n : Nat) : ((zer n).map (Value.int .i64)).toArray = madeCells (Value.int .i64 0).cells (n * sz) := by
  subst hs
  apply Array.toList_inj.1
  apply List.ext_getElem?
  intro k
  unfold madeCells zer
  simp only [Array.getElem?_toList, List.toList_toArray, List.map_replicate, List.getElem?_replicate, Array.getElem?_map, Array.getElem?_range, Nat.mul_one]
  by_cases hk : k < n
  · rw [if_pos hk, if_pos hk]
    simp [Nat.mod_one, Value.cells]
  · rw [if_neg hk, if_neg hk]
    rfl
theorem mk_zer (n : Nat) (hn : n ≤ 1000000) (w : World) : (Instr.makeSlice 25 (.int .i64 n) (.int .i64 n)).run Try.prog w = .ok (.slice (some ⟨w.heap.size, 0, none⟩) n n) (w.alloc (.cells ((zer n).map (Value.int .i64)).toArray 3)) := by
  obtain ⟨i, hi1, hi2, hi3, hi4⟩ := info_parts info_i1
  rw [mk_cells i.size hi3 n]
  exact run_make (P := Try.prog) (w := w) 25 3 i _ Try.underlying25 hi1 hi2 .i64 .i64 n n (by omega) (Int.le_refl _) (by rw [hi4]; omega) (by omega)
theorem zer_cells (n : Nat) : (List.replicate n (Value.int .i64 0)).toArray = ((zer n).map (Value.int .i64)).toArray := by unfold zer; rw [List.map_replicate]
/-- The 64 zeros in block Z; i rounds. -/
def FtR (w0 : World) (b h c t : Nat) (u : Value) (wr : World) : Prop := ∃ j : Nat, j ≤ t ∧ u = .int .i64 ((j + 1 : Nat) : Int) ∧ NT w0 wr b h c 4096 (seg j (4096 - j)) (fun _ _ => false) 4096
theorem tmod60 {a : Int} (h : 0 ≤ a ∧ a ≤ 65535) : ∃ t : Nat, (wrap64 a).tmod 60 = (t : Int) ∧ t < 60 := by
  have e : wrap64 a = a := by unfold wrap64; omega
  rw [e, Int.tmod_eq_emod_of_nonneg h.1]
  exact ⟨(a % 60).toNat, by omega, by omega⟩
theorem seg_dbl : dblG 4096 (seg 0 4096) 1 = (0, 6, 4096, seg 0 4096, 0) := by
  have h : (seg 0 4096).find? (fun g => g.id == 1) = some ⟨1, 1, 0, (⟨#[120]⟩ : ByteArray)⟩ := by
    rw [seg_cons 0 4095]; simp
  unfold dblG
  rw [h]
  simp [seg_len]
theorem sc_full (t : Nat) (h : t < 60) : sc (((1 : Int) :: zer (t + 1)).any bad) (⟨#[121]⟩ : ByteArray).size (t + 1) (seg t (4096 - t)).length = 6 := by
  rw [zer_bad, seg_len]
  unfold sc
  rw [if_neg (by decide), if_neg (by decide), if_pos (by omega)]
theorem sc_fits (t : Nat) (h : t < 60) : sc (((1 : Int) :: zer t).any bad) (⟨#[121]⟩ : ByteArray).size t (seg t (4096 - t)).length = 0 := by
  rw [zer_bad, seg_len]
  unfold sc
  rw [if_neg (by decide), if_neg (by decide), if_neg (by omega)]
def FlR (w0 : World) (b h c Z : Nat) (u : Value) (wr : World) : Prop := ∃ i : Nat, i ≤ 64 ∧ u = .int .i64 i ∧ NT w0 wr b h c ((64 * i : Nat) : Int) (seg 0 (64 * i)) (fun _ _ => false) (64 * i) ∧ Blk wr Z 3 ((zer 64).map (Value.int .i64)).toArray
theorem to_blk {w : World} {g cap : Nat} {T : TypeId} {xs : List Int} (h : Blk w g T (xs.map (Value.int .i64)).toArray) : To w (some ⟨g, 0, none⟩) cap xs := by
  refine .inr ⟨_, 0, rfl, fun i hi => ?_⟩
  rw [show (0 + i) = i by omega, h.cell i, List.getElem?_toArray, List.getElem?_map, List.getElem?_eq_getElem hi, getElem!_pos xs i hi]; rfl
theorem fl_step {w0 w' : World} {b h c i : Nat} (ht : NT w0 w' b h c (((64 * i : Nat) : Int) + (zer 64).length) (seg 0 (64 * i) ++ laid ((64 * i : Nat) : Int) 1 (⟨#[120]⟩ : ByteArray) (zer 64) (zer 64).length) (fun _ _ => false) (64 * i + (zer 64).length)) :
    NT w0 w' b h c ((64 * (i + 1) : Nat) : Int) (seg 0 (64 * (i + 1))) (fun _ _ => false) (64 * (i + 1)) := by
  have h1 := laid_seg 0 (64 * i) 64
  rw [Nat.zero_add] at h1
  rw [zer_len, h1] at ht
  rw [show 64 * (i + 1) = 64 * i + 64 by omega]
  rw [show (((64 * i + 64 : Nat)) : Int) = ((64 * i : Nat) : Int) + ((64 : Nat) : Int) by omega]
  exact ht
set_option maxRecDepth 100000 in
set_option maxHeartbeats 4000000 in
theorem full_t (k : Int) (hk : (Lit.int .u16 k).wf = true) (w0 : World) :
    Calls Try.prog 3 #[.int .u16 k] w0 (WaysPost w0) := by
  have HB0 := Lib.hid (Below.refl w0.heap.size w0)
  have HK := Lib.hid (bounds_u16 hk)
  clear hk
  go_enter Try.func3, Try.ntmps3
  go_upto_region 4 with (go_loud (go_at_call 8; (with_reducible refine Calls.mono (nt_new HB0.out) ?_); rintro e w1 ⟨b, h, c, rfl, ht, hbn⟩; have HT1 := Lib.hid ht; have HBN := Lib.hid hbn; clear ht hbn))
  have HMK : Hid (∀ w : World, (Instr.makeSlice 25 (.int .i64 64) (.int .i64 64)).run Try.prog w = .ok (.slice (some ⟨w.heap.size, 0, none⟩) 64 64) (w.alloc (.cells ((zer 64).map (Value.int .i64)).toArray 3))) := Lib.hid (mk_zer 64 (by decide))
  have hmk := HMK.out w1
  obtain ⟨zs, hzs⟩ : ∃ zs, zs = ((zer 64).map (Value.int .i64)).toArray := ⟨_, rfl⟩
  rw [← hzs] at hmk
  have HZS := Lib.hid hzs
  clear hzs HMK
  go_upto_region 5 with fail
  have HZB := Lib.hid (show Blk (w1.alloc (.cells zs 3)) w1.heap.size 3 ((zer 64).map (Value.int .i64)).toArray by rw [← HZS.out]; exact Blk.new _ _ _)
  have HT2 := Lib.hid (HT1.out.alloc (.cells zs 3))
  have HNZ : Hid (¬ (w1.heap.size = b ∨ w1.heap.size = h ∨ w1.heap.size = c)) := Lib.hid (by have h1 := HT1.out.nw.blk.lt; have h2 := HT1.out.nw.gm.lt; have h3 := HT1.out.nw.cm.lt; omega)
  clear hmk HBN HT1 HZS
  generalize w1.alloc (.cells zs 3) = w2 at *
  generalize w1.heap.size = Z at *
  go_upto_block 0 with fail
  go_cut [] (fun wc => FlR w0 b h c Z (.int .i64 64) wc)
  case first =>
    go_wp2_with fail
    go_loopw [5] (fun u wr => FlR w0 b h c Z u wr) (fun u _ => ((64 : Int) - intOf u).toNat)
    case atStart => exact ⟨0, by decide, rfl, HT2.out, HZB.out⟩
    case round =>
      obtain ⟨i, hi, rfl, ht, hzb⟩ := hrel
      have HT := Lib.hid ht
      have HZB2 := Lib.hid hzb
      clear HT2 HZB
      by_cases hil : i < 64
      · have hil' : (i : Int) < 64 := by omega
        have HI := Lib.hid hil
        have HE : Hid (wrap64 ((i : Int) + 1) = ((i + 1 : Nat) : Int)) := Lib.hid (Sou.w64n rfl (by omega))
        have HSEND : Hid (Calls Try.prog 9 #[.pointer (some ⟨b, 0, none⟩), .int .i64 1, .string ⟨#[120]⟩, .slice (some ⟨Z, 0, none⟩) 64 64] wr fun e w5 => e = .returned (.tuple #[.int .i64 64, .int .i64 0]) ∧ FlR w0 b h c Z (.int .i64 ((i + 1 : Nat) : Int)) w5) := Lib.hid (by
          refine Calls.mono (nt_send ht (fr := 1) (tx := (⟨#[120]⟩ : ByteArray)) (cap := 64) (to_blk hzb) (zer_len 64) (by decide) (by rintro g o e; injection e with e; injection e with e1 e2; subst e1; exact ⟨hzb.lt, fun h => HNZ.out (by rcases h with h | h; exact .inl h; exact .inr (.inl h))⟩) (by rw [seg_len]; omega) (by omega) (by omega) (k := 0) (sc_ok (zer_bad 64) (by decide) (by rw [seg_len]; omega))) ?_
          rintro e w5 ⟨rfl, ho, _, hs⟩
          exact ⟨by rw [zer_len]; rfl, i + 1, HI.out, rfl, fl_step (hs rfl), HZB2.out.only ho HNZ.out⟩)
        clear ht hzb hi hil
        go_wp2_with (go_at_call 9; (with_reducible refine Calls.mono HSEND.out ?_); rintro e w5 ⟨rfl, hz5⟩; have HZ := Lib.hid hz5; clear hz5)
        go_roundw
        case rel => first | exact HZ.out | (rw [HE.out]; exact HZ.out)
        case measure => have := HI.out; first | (simp [intOf]; omega) | (rw [HE.out]; simp [intOf]; omega)
      · obtain rfl : i = 64 := by omega
        clear ht hzb hi hil
        go_wp2_with fail
        go_meet
        exact ⟨64, by decide, rfl, HT.out, HZB2.out⟩
  case rest =>
    have HT3 : Hid (NT w0 wc b h c 4096 (seg 0 4096) (fun _ _ => false) 4096) := Lib.hid (by
      obtain ⟨i, hi, he, ht, _⟩ := hcut
      have : i = 64 := by injection he; omega
      subst this
      exact ht)
    clear hcut HT2 HZB
    go_upto_region 12 with (go_at_call 9; (with_reducible refine Calls.mono (nt_send_new HT3.out [0] 6 rfl (by kernel_rfl) (by kernel_rfl) (by decide) (by rw [seg_len]; decide) (by decide) (by decide) (by rw [seg_len]; kernel_rfl)) ?_); rintro e w4 ⟨rfl, _, ht, _⟩; have HT4 := Lib.hid (ht (by decide)); clear ht)
    clear HT3
    go_upto_region 13 with (go_at_call 10; (with_reducible refine Calls.mono (nt_double HT4.out (by unfold U64; omega) (by decide) (by decide) seg_dbl) ?_); rintro e w5 ⟨rfl, ht, _⟩; dsimp only; have HT5 := Lib.hid ht; clear ht)
    clear HT4
    obtain ⟨t, ht, ht60⟩ := tmod60 HK.out
    have H60 := Lib.hid ht60
    clear ht60
    go_upto_region 14 with fail
    clear ht
    go_upto_block 2 with fail
    go_cut [] (fun wz => FtR w0 b h c t (.int .i64 ((t + 1 : Nat) : Int)) wz)
    case first =>
      go_wp2_with fail
      go_loopw [13] (fun u wr => FtR w0 b h c t u wr) (fun u _ => ((t + 1 : Int) - intOf u).toNat)
      case atStart => exact ⟨0, Nat.zero_le _, rfl, HT5.out⟩
      case round =>
        obtain ⟨j, hj, rfl, hn⟩ := hrel
        clear HT5
        have HN := Lib.hid hn
        by_cases hjt : j < t
        · have h60 := H60.out
          have hjt' : (((j + 1 : Nat)) : Int) ≤ (t : Int) := by omega
          have HTK : Hid (takeG (fun _ _ => false) (seg j (4096 - j)) ((j + 1 : Nat) : Int) = (⟨(j + 1 : Nat), 1, 0, ⟨#[120]⟩⟩, 0, seg (j + 1) (4096 - (j + 1)))) := Lib.hid (by
            have := seg_take j (4096 - (j + 1))
            rwa [show 4096 - (j + 1) + 1 = 4096 - j by omega] at this)
          have hcv : IntKind.u64.wrap ((j + 1 : Nat) : Int) = ((j + 1 : Nat) : Int) := by rw [IntKind.wrap_u64]; omega
          have HE : Hid (wrap64 (((j + 1 : Nat) : Int) + 1) = ((j + 1 + 1 : Nat) : Int)) := Lib.hid (Sou.w64n rfl (by omega))
          have HU : Hid (U64 ((j + 1 : Nat) : Int)) := Lib.hid (by unfold U64; omega)
          have HJ := Lib.hid hjt
          clear h60 hn hj hjt
          obtain ⟨q, hq⟩ : ∃ q : Int, q = ((j + 1 : Nat) : Int) := ⟨_, rfl⟩
          rw [← hq] at HTK HU hcv HE hjt' ⊢
          have HQ := Lib.hid hq
          clear hq
          go_wp2_with (go_at_call 11; (with_reducible refine Calls.mono (nt_take HN.out HU.out HTK.out) ?_); rintro e w6 ⟨rfl, hn6, _⟩; unfold gv; dsimp only; have HN6 := Lib.hid hn6; clear hn6)
          have HZ : Hid (FtR w0 b h c t (.int .i64 ((j + 1 + 1 : Nat) : Int)) (w6.alloc (.cells #[.int .u64 q, .int .i64 1, .int .i64 0, .string ⟨#[120]⟩] 33))) := Lib.hid ⟨j + 1, HJ.out, rfl, HN6.out.alloc _⟩
          go_roundw
          case rel => rw [HE.out]; exact HZ.out
          case measure => have := HJ.out; have := HQ.out; rw [HE.out]; simp [intOf]; omega
        · obtain rfl : j = t := by omega
          have hjt' : ¬ (((j + 1 : Nat)) : Int) ≤ (j : Int) := by omega
          clear hn hj hjt
          go_wp2_with fail
          go_meet
          exact ⟨j, Nat.le_refl _, rfl, HN.out⟩
    case rest =>
      have HT6 : Hid (NT w0 wc b h c 4096 (seg t (4096 - t)) (fun _ _ => false) 4096) := Lib.hid (by
        obtain ⟨i, hi, he, ht⟩ := hcut
        have : i = t := by injection he; omega
        subst this
        exact ht)
      clear hcut HT5
      have HE : Hid (wrap64 ((t : Int) + 1) = ((t + 1 : Nat) : Int)) := Lib.hid (Sou.w64n rfl (by have := H60.out; omega))
      have hmk : ∀ w : World, (Instr.makeSlice 25 (.int .i64 (wrap64 ((t : Int) + 1))) (.int .i64 (wrap64 ((t : Int) + 1)))).run Try.prog w = .ok (.slice (some ⟨w.heap.size, 0, none⟩) (t + 1) (t + 1)) (w.alloc (.cells ((zer (t + 1)).map (Value.int .i64)).toArray 3)) := by
        rw [HE.out]; exact mk_zer (t + 1) (by have := H60.out; omega)
      go_upto_region 21 with (go_at_call 9; (with_reducible refine Calls.mono (nt_send_new HT6.out (zer (t + 1)) 6 rfl rfl (zer_len _) (by have := H60.out; omega) (by rw [seg_len]; have := H60.out; omega) (by have := H60.out; omega) (by have := H60.out; omega) (sc_full t H60.out)) ?_); rintro e w7 ⟨rfl, _, hn, _⟩; have HT7 := Lib.hid (hn (by decide)); clear hn)
      clear hmk HE
      have hmk := mk_zer t (by have := H60.out; omega)
      go_upto_region 22 with (go_at_call 9; (with_reducible refine Calls.mono (nt_send_new HT7.out (zer t) 0 rfl rfl (zer_len _) (by have := H60.out; omega) (by rw [seg_len]; have := H60.out; omega) (by have := H60.out; omega) (by have := H60.out; omega) (sc_fits t H60.out)) ?_); rintro e w8 ⟨rfl, _, _, hn⟩; have HT8 := Lib.hid (hn rfl); clear hn)
      have HLEN : Hid ((seg t (4096 - t) ++ laid 4096 1 ⟨#[121]⟩ (zer t) (zer t).length).length = 4096) := Lib.hid (by rw [List.length_append, seg_len]; unfold laid; rw [List.length_map, List.length_range, zer_len]; have := H60.out; omega)
      have hzl : ((zer t).length : Int) = (t : Int) := by rw [zer_len]
      clear hmk HT6 HT7
      rw [hzl]
      generalize (4096 : Int) + ((zer t).length : Int) = lst at *
      generalize seg t (4096 - t) ++ laid 4096 1 ⟨#[121]⟩ (zer t) (zer t).length = LL at *
      generalize 4096 + (zer t).length = NN at *
      clear hzl
      go_wp2_with (first | (go_at_call 12; (with_reducible refine Calls.mono (nt_list HT8.out (by rw [HLEN.out]; decide)) ?_); rintro e w9 ⟨v, rfl, hrow, hn, _⟩; obtain ⟨pv, cv, rfl⟩ := owns_slice hrow; have HT9 := Lib.hid hn; rw [HLEN.out]; clear hrow hn) | (go_at_call 13; ((with_reducible refine Calls.mono (works_t _) ?_); rintro e w9 ⟨rfl, hb⟩)))
      go_ret
      exact ⟨rfl, HT9.out.bel.step hb⟩
end Go.Proofs.Ytfjadphgjjlhiaa
