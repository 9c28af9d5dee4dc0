import Derived.Test.YtlahficmkfgooaaGreatSoD
import Derived.RangeFuncNested
import Derived.RangeFuncBound
import Derived.RangeFuncCalls
import Derived.RangeFuncLeaves
import Derived.RangeFuncBox
import Derived.Maps.AppendAt
import Derived.Sort.MapsRangeIn
import Derived.WalkKit
import Derived.OwnWalkIn
import Derived.TacticsInMore
import Derived.RegionIn
import Derived.LoopNIn
import Derived.LoopIn
import Derived.Test.YtlahficmkfgooaaGreatMgk
import Derived.Test.YtlahficmkfgooaaGreatMgl
import Derived.StringKeys
import Derived.Test.YtlahficmkfgooaaGreatCodeX
import Derived.Test.YtlahficmkfgooaaGreatMgi
import Derived.Test.YtlahficmkfgooaaGreatMgf
import Derived.Test.YtlahficmkfgooaaGreatCodeZ

/- slices.Sort at []uint64: it sorts. No condition but that the row is not too long. -/
namespace Go.Proofs.YtlahficmkfgooaaGreat
open Go.RowKit Sou
set_option linter.unusedVariables false
set_option linter.unusedSimpArgs false
set_option maxRecDepth 100000 in
theorem ins_nil (p : Option Addr) (cap : Nat) (w : World) : Calls Tryz.prog 134 #[.slice p 0 cap, .int .i64 0, .int .i64 0] w fun e w' => e = .returned (.tuple #[]) ∧ w' = w := by
  go_enter Tryz.func134, Tryz.ntmps134
  go_wp2_with fail
  go_loopw [6] (fun u wr => u = .int .i64 1 ∧ wr = w) (fun _ _ => 0)
  case atStart => exact ⟨rfl, rfl⟩
  case round =>
    obtain ⟨rfl, rfl⟩ := hrel
    go_wp2_with fail
    go_end0
    exact ⟨rfl, rfl⟩
set_option maxRecDepth 100000 in
theorem pdq_nil (p : Option Addr) (cap : Nat) (lim : Int) (w : World) : Calls Tryz.prog 120 #[.slice p 0 cap, .int .i64 0, .int .i64 0, .int .i64 lim] w fun e w' => e = .returned (.tuple #[]) ∧ w' = w := by
  go_enter Tryz.func120, Tryz.ntmps120
  go_wp2_with fail
  go_loopw [1, 2] (fun u v wr => u = .int .i64 0 ∧ v = .int .i64 0 ∧ wr = w) (fun _ _ _ => 0)
  case atStart => exact ⟨rfl, rfl, rfl⟩
  case round =>
    obtain ⟨rfl, rfl, rfl⟩ := hrel
    go_wp2_with (go_at_call 134; ((with_reducible refine (ins_nil _ _ _).mono ?_); rintro e w' ⟨rfl, rfl⟩))
    refine bodyPost_ret (results_none rfl _ _ _) rfl ?_
    exact ⟨rfl, rfl⟩
set_option maxRecDepth 100000 in
theorem sort_nil (p : Option Addr) (cap : Nat) (w : World) : Calls Tryz.prog 108 #[.slice p 0 cap] w fun e w' => e = .returned (.tuple #[]) ∧ w' = w := by
  have HB : Hid (∀ W : World, Calls Tryz.prog 121 #[.int .u64 0] W fun e w' => e = .returned (.int .i64 0) ∧ w' = W) := Lib.hid (fun W => bitsLen_u (w := W) (n := 0) (by decide))
  go_enter Tryz.func108, Tryz.ntmps108
  go_wp2_with (first | (go_at_call 121; ((with_reducible refine (HB.out _).mono ?_); rintro e w' ⟨rfl, rfl⟩)) | (go_at_call 120; ((with_reducible refine (pdq_nil _ _ _ _).mono ?_); rintro e w' ⟨rfl, rfl⟩)))
  go_end0
  exact ⟨rfl, rfl⟩
set_option maxRecDepth 100000 in
theorem sort_u {w : World} {g n cap : Nat} {d : Array Int} {tl : List Value} (h : UR w g d tl) (hn : d.size = n) (hs : n ≤ 1000000) :
    Calls Tryz.prog 108 #[.slice (some ⟨g, 0, none⟩) n cap] w (PdPost w g 0 n d tl) := by
  obtain ⟨lim, hlim⟩ : ∃ lim, lim = Go.Sort.bitsLen n := ⟨_, rfl⟩
  have hl : lim ≤ 1000 := by
    rw [hlim]
    exact Nat.le_trans ((Go.Sort.bitsLen_le_iff n 62).2 (by omega)) (by decide)
  have HB : Hid (∀ W : World, Calls Tryz.prog 121 #[.int .u64 (n : Int)] W fun e w' => e = .returned (.int .i64 (lim : Int)) ∧ w' = W) := Lib.hid (by rw [hlim]; exact fun W => bitsLen_u (by omega))
  have hp := pdq_u (g := g) (n := n) (cap := cap) (tl := tl) hs (n + 1) w 0 n lim d h hn (Nat.zero_le _) (Nat.le_refl _) (by omega) hl (Or.inl rfl)
  have HP : Hid (Calls Tryz.prog 120 #[.slice (some ⟨g, 0, none⟩) n cap, .int .i64 0, .int .i64 (n : Int), .int .i64 (lim : Int)] w (PdPost w g 0 n d tl)) := Lib.hid hp
  have e1 : IntKind.u64.wrap (n : Int) = (n : Int) := by clear hp; rw [IntKind.wrap_u64]; omega
  clear hp hl hlim h hn hs
  go_enter Tryz.func108, Tryz.ntmps108
  go_wp2_with (first | (go_at_call 121; ((with_reducible refine (HB.out _).mono ?_); rintro e w' ⟨rfl, rfl⟩)) | (go_at_call 120; ((with_reducible refine HP.out.mono ?_); rintro e w' ⟨rfl, hq⟩)))
  go_end0
  exact ⟨rfl, hq⟩
end Go.Proofs.YtlahficmkfgooaaGreat


/- slices.Sorted(maps.Keys(m)) at a map keyed by uint64: the keys, each once, rising. No condition but that they are not too many. -/
namespace Go.Proofs.YtlahficmkfgooaaGreat
open Go.RowKit Sou Go.Maps
set_option linter.unusedVariables false
set_option linter.unusedSimpArgs false
attribute [local go_sem] Oper.semAt_some
namespace Sok
theorem keyOf_u {P : Program} {k : TypeId} (hk : P.underlying k = some (.int .u64)) {key : Value} {kl : Lit} (h : keyOf P k key = some kl) : ∃ x : Int, key = .int .u64 x ∧ kl = .int .u64 x := by
  cases key <;> simp [keyOf, hk, mapKey] at h
  rename_i q a
  obtain ⟨⟨rfl, hw⟩, rfl⟩ := h
  exact ⟨a, rfl, rfl⟩
/-- No key twice; a key is on the list just where the map has it and it is no longer to come. -/
def Col {H : Type} (D0 : DataW H) (left : Lit → Bool) (ss : List Int) : Prop := ss.Nodup ∧ ∀ x, x ∈ ss ↔ (Maps.has D0 (.int .u64 x) = true ∧ left (.int .u64 x) = false)
section
variable {H : Type} {D0 : DataW H} {left : Lit → Bool} {ss : List Int}
theorem Col.start (D0 : DataW H) : Col D0 (Maps.has D0) [] := ⟨List.nodup_nil, fun x => by cases Maps.has D0 (.int .u64 x) <;> simp⟩
theorem Col.step (h : Col D0 left ss) {x : Int} {y : DataW H} (hlk : left (.int .u64 x) = true) (hat : ∀ zd, D0.atKey (.int .u64 x) zd = y) : Col D0 (fun z => left z && !z.sameKey (.int .u64 x)) (ss ++ [x]) := by
  have hhas : Maps.has D0 (.int .u64 x) = true := has_true_of_atKey hat
  have hnew : x ∉ ss := fun hx => by have := ((h.2 x).1 hx).2; rw [hlk] at this; cases this
  refine ⟨List.nodup_append.2 ⟨h.1, by simp, fun a ha b hb => by simp at hb; subst hb; exact fun e => hnew (e ▸ ha)⟩, fun y => ?_⟩
  by_cases hy : y = x
  · subst hy; simp [hhas, Lit.sameKey]
  · simp [h.2 y, hy, Lit.sameKey]
end
def KeysAll {H : Type} (D0 : DataW H) (ss : List Int) : Prop := ss.Nodup ∧ (∀ x, x ∈ ss ↔ Maps.has D0 (.int .u64 x) = true) ∧ ss.length ≤ Maps.size D0
theorem law : Keyed Tryz.prog 37 := int_keyed Tryz.underlying37
end Sok
open Sok
set_option maxRecDepth 100000 in
set_option maxHeartbeats 1000000 in
theorem keys1_p {H : Type} (n : Nat) (hn : 1 ≤ n) (l Bm b nn : Nat) (D0 : DataW H) {R : Value → Option (DataW H × List MemPlace)} (J Jx : List Int → World → Prop)
    (hY : ∀ pre x W, J pre W → pre.length < Maps.size D0 → YieldAt Fence.wide (n - 1) Tryz.prog l #[.int .u64 x] W fun e W' =>
      (e = .returned (.bool true) ∧ J (pre ++ [x]) W' ∧ KeepsWalks W W') ∨ (e = .returned (.bool false) ∧ Jx (pre ++ [x]) W'))
    (W : World) (hJ : AbidesFrom W.heap.size J) (hm : W.cell? ⟨Bm, 0, none⟩ = some (.map (some b))) (hown : W.ownsMap Tryz.prog 37 R b nn D0) (h0 : J [] W) :
    CallsIn Fence.wide n Tryz.prog 109 #[.func (.yield l) #[] #[], .pointer (some ⟨Bm, 0, none⟩)] W fun e W' => (∃ v, e = .returned v) ∧
      ((∃ ss : List Int, KeysAll D0 ss ∧ J ss W') ∨ (∃ pre : List Int, True ∧ Jx pre W')) := by
  refine callsIn_of_wp Tryz.func109 rfl trivial ?_ rfl
  simp only [Tryz.ntmps109, List.size_toArray, List.length_cons, List.length_nil, Nat.reduceAdd, Nat.reduceSub, Array.replicate_succ, Array.replicate_zero, List.push_toArray, List.append_toArray, List.nil_append, List.cons_append]
  gi_wp2_with (first
    | (gi_at_range; refine wpListIn_range_own _ rfl _ 93 rfl 37 91 Sok.law Tryz.underlying93 _ b nn _ rfl hown ?_; intro w0 hrg0 hg0 hs0)
    | gi_in)
  go_frame
  gi_loopw [3] (fun _ wr => ∃ (left : Lit → Bool) (cnt : Nat) (ss : List Int), wr.ranges Tryz.prog 37 R b W.heap.size nn D0 left cnt ∧ ss.length + cnt ≤ Maps.size D0 ∧ Col D0 left ss ∧ J ss wr)
    (fun _ wr => wr.rangeLeft b W.heap.size)
  case atStart =>
    exact ⟨_, _, [], hrg0, by simp, Col.start D0, hJ [] W w0 none h0 hg0 (fun r e => by cases e)⟩
  case round =>
    obtain ⟨left, cnt, ss, hrg, hcs, hC, hJs⟩ := hrel
    gi_wp2_with (first
      | (gi_at_next; refine wpListIn_next_ranges _ rfl _ rfl 37 Sok.law R (Value.int .u64) id (fun key kl hk => by obtain ⟨x, hx, _⟩ := Sok.keyOf_u Tryz.underlying37 hk; exact ⟨x, hx⟩) (fun v _ _ => ⟨v, rfl⟩) b W.heap.size nn _ _ _ rfl hrg ?_ ?_)
      | gi_in)
    · intro hc0 hl0
      gi_wp2
      go_end0
      exact ⟨⟨_, rfl⟩, .inl ⟨ss, ⟨hC.1, fun x => by rw [hC.2 x, hl0]; simp, by omega⟩, hJs⟩⟩
    · intro x c kl yd yp w2 cnt2 hkey hlk hv hat hrg2 hlt hg2 hs2 hen
      obtain ⟨x', ex, rfl⟩ := Sok.keyOf_u Tryz.underlying37 hkey
      obtain rfl : x = x' := by simpa using ex
      have hJ2 : J ss w2 := hJ ss wr w2 (some W.heap.size) hJs hg2 (fun r e => by cases e; exact ⟨Nat.le_refl _, hrg.iter_walk⟩)
      obtain ⟨fn, tmps, assign, body, hy, hR⟩ := hY ss x w2 hJ2 (by omega)
      clear hs2
      gi_wp2
      refine hR.mono ?_
      have hC2 := hC.step hlk hat
      rintro e W3 (⟨rfl, hJ3, hk3⟩ | ⟨rfl, hJx3⟩)
      · gi_wp2
        have hrg3 := hrg2.of_walks hk3
        go_roundw
        case rel => exact ⟨_, cnt2, ss ++ [x], hrg3, by simp; omega, hC2, hJ3⟩
        case measure => rw [hrg3.left_eq, hrg.left_eq]; exact hlt
      · gi_wp2
        refine bodyPost_ret (results_none rfl _ _ _) rfl ?_
        exact ⟨⟨_, rfl⟩, .inr ⟨ss ++ [x], trivial, hJx3⟩⟩
theorem keys_stops_p {H : Type} (n : Nat) (hn : 1 ≤ n) (Bm b nn : Nat) (D0 : DataW H) {R : Value → Option (DataW H × List MemPlace)} (w : World) (hBm : Bm < w.heap.size)
    (hm : w.cell? ⟨Bm, 0, none⟩ = some (.map (some b))) (hown : w.ownsMap Tryz.prog 37 R b nn D0) :
    SeqStopsK Fence.wide n Tryz.prog 109 #[.pointer (some ⟨Bm, 0, none⟩)] (fun x : Int => #[Value.int .u64 x]) KeepsWalks (KeysAll D0) (fun _ => True) (Maps.size D0) w := fun l J Jx W hW hJ _ hY h0 => by
  have hown' : W.ownsMap Tryz.prog 37 R b nn D0 := by
    have hbl := hown.lt
    obtain ⟨es, clock, hb, Ft, hs, hD⟩ := hown
    exact ⟨es, clock, (hW.block b hbl).trans hb, Ft, hs, hD⟩
  exact keys1_p n hn l Bm b nn D0 J Jx hY W hJ ((hW.cell (p := ⟨Bm, 0, none⟩) hBm).trans hm) hown' h0
theorem info_u64 : (Tryz.prog.info? 37).map (fun i => (i.zero, i.size, i.bytes)) = some (some (.int .u64 0), 1, 8) := by kernel_rfl
set_option maxRecDepth 100000 in
set_option maxHeartbeats 2000000 in
theorem appendSeq_u (n : Nat) (hn : 3 ≤ n) (gf : Nat) (lb : Array Value) (eg : ∀ args w, (callFunc gf args).run Tryz.prog w = .ok (.enter gf args) w) (S Sp : List Int → Prop) (N : Nat) (hN : N ≤ 1000000) (w : World)
    (hseq : SeqStopsK Fence.wide (n - 1) Tryz.prog gf lb (fun x : Int => #[Value.int .u64 x]) KeepsWalks S Sp N w) :
    CallsIn Fence.wide n Tryz.prog 119 #[.slice none 0 0, .func (.func gf) #[] lb] w fun e W' => ∃ v ss, e = .returned v ∧ S ss ∧ W'.ownsRow w.heap.size 37 1 v ss.length (ss.map (Value.int .u64)) ∧ (v = .slice none 0 0 ↔ ss = []) ∧ Below w.heap.size w W' := by
  have h1 : 1 ≤ n := by omega
  obtain ⟨i0, hi, hz0, hz1, hz2⟩ := info_parts info_u64
  refine callsIn_of_wp_marks Tryz.func119 rfl trivial ?_ rfl
  simp only [Tryz.ntmps119, List.size_toArray, List.length_cons, List.length_nil, Nat.reduceAdd, Nat.reduceSub, Array.replicate_succ, Array.replicate_zero, List.push_toArray, List.append_toArray, List.nil_append, List.cons_append]
  gi_wp2
  have bO := Boxed.new w 54 (.slice none 0 0)
  have hB0 : Below w.heap.size w (w.alloc (.cells #[.slice none 0 0] 54)) := (Below.refl _ w).alloc (Nat.le_refl _) _
  refine wpIn_rangeFunc_ownF rfl h1 (gf := gf) (lb := lb) rfl trivial eg hseq walksK_t walksK_b hB0 (fun _ => rfl)
    (fun pre W => (∃ v, Boxed W w.heap.size 54 v ∧ W.ownsRow w.heap.size 37 1 v pre.length (pre.map (Value.int .u64)) ∧ (v = .slice none 0 0 ↔ pre = [])) ∧ Below w.heap.size w W)
    (fun _ _ _ => False)
    (OwnFrom.and (Own.from (holdsRow_own w.heap.size w.heap.size 54 37 1 (fun pre => pre.length) (fun pre => pre.map (Value.int .u64)) (fun pre v => v = .slice none 0 0 ↔ pre = [])) _) (ownFrom_below (Nat.le_refl _) (by simp)))
    (fun _ _ _ _ _ hs _ _ => hs)
    ⟨⟨_, bO, World.ownsRow_nil _ _ _ _, by simp⟩, hB0⟩
    (fun x => { tmps := #[.slice none 0 0, .func (.func gf) #[] lb, .pointer (some ⟨w.heap.size, 0, none⟩), undef, .slice none 0 0, .int .u64 x, .func (.func gf) #[] lb, .int .u64 x, undef, undef, undef, undef, undef], defers := [] }) ?assign ?body ?done ?stop
  case assign =>
    intro l x W K hK
    gi_wp2
    exact hK
  case body =>
    rintro l pre x W ⟨⟨v, hv, hrow, hnil⟩, hB⟩ hlt
    have hc := hv.cell
    gi_wp2_with (gi_at_builtin; refine wpListIn_append_own _ rfl _ _ 54 rfl w.heap.size 37 i0 (.int .u64 0) 1 8 Tryz.underlying54 hi hz0 hz1 hz2 rfl (by decide) _ _ _ rfl (hrow.alloc _) ⟨W.heap.size, 0, none⟩ 1 1 [.int .u64 x] rfl rfl (cell_one_new _ _ _) (by simp [Value.oneCell']) (by unfold maxLen; omega) (by omega) (by have := hB.size; simp; omega) ?_; intro v' w1 hown' hgrow _; obtain ⟨g', cap', rfl⟩ := ownsRow_succ hown'; obtain ⟨hv1, hv2, hr2, hk2, hb2⟩ := hv.appended (by decide) hrow hB.size (Nat.le_refl _) hown' hgrow; have hc1 := hv1.cell; have hf1 := hv1.frozen)
    exact ⟨hk2, hk2.walks, ⟨_, hv2, by simpa using hr2, by simp⟩, hB.trans hb2⟩
  case done =>
    rintro D ys W hD hS ⟨⟨v, hv, hrow, hnil⟩, hB⟩ hK
    have hc := hv.cell
    gi_wp2
    refine ⟨by simp, .inl ⟨_, _, rfl, run_takeDeferred hK, ?_⟩⟩
    exact ⟨_, results_tmp rfl _ _ _, v, ys, rfl, hS, ownsRow_putObj hrow _ hK rfl, hnil, hB.trans (belowK_b (w := w) (Nat.le_refl _) W D _ _ (by simp at hD; omega) hK rfl rfl)⟩
  case stop =>
    rintro D c pre W _ _ h _
    exact h.elim
end Go.Proofs.YtlahficmkfgooaaGreat


/- slices.Sorted(maps.Keys(m)) at a map keyed by uint64, joined: a new row of the keys, each once, rising. No condition but that they are not too many. -/
namespace Go.Proofs.YtlahficmkfgooaaGreat
open Go.RowKit Sou Sok Go.Maps
set_option linter.unusedVariables false
set_option linter.unusedSimpArgs false
set_option maxRecDepth 100000 in
theorem keys_p (b : Option Nat) (w : World) : Calls Tryz.prog 90 #[.map b] w fun e w' => e = .returned (.func (.func 109) #[] #[.pointer (some ⟨w.heap.size, 0, none⟩)]) ∧ w' = w.alloc (.cells #[.map b] 93) := by
  go_enter Tryz.func90, Tryz.ntmps90
  go_wp2
  go_ret
  exact ⟨rfl, rfl⟩
def CkPost {H : Type} (w : World) (D0 : DataW H) (e : Ending) (w' : World) : Prop := ∃ v ss, e = .returned v ∧ KeysAll D0 ss ∧ w'.ownsRow w.heap.size 37 1 v ss.length (ss.map (Value.int .u64)) ∧ (v = .slice none 0 0 ↔ ss = []) ∧ Below w.heap.size w w'
theorem appendKeys_p {H : Type} {Bm b nn : Nat} {D0 : DataW H} {R : Value → Option (DataW H × List MemPlace)} {w : World} (hBm : Bm < w.heap.size)
    (hm : w.cell? ⟨Bm, 0, none⟩ = some (.map (some b))) (hown : w.ownsMap Tryz.prog 37 R b nn D0) (hN : Maps.size D0 ≤ 1000000) :
    Calls Tryz.prog 119 #[.slice none 0 0, .func (.func 109) #[] #[.pointer (some ⟨Bm, 0, none⟩)]] w (CkPost w D0) :=
  callsIn_wide.1 (appendSeq_u 3 (Nat.le_refl _) 109 _ (enters_of Tryz.func109 (by kernel_rfl) rfl) _ _ _ hN w (keys_stops_p 2 (by decide) Bm b nn D0 w hBm hm hown))
set_option maxRecDepth 100000 in
theorem collectKeys_p {H : Type} {Bm b nn : Nat} {D0 : DataW H} {R : Value → Option (DataW H × List MemPlace)} {w : World} (hBm : Bm < w.heap.size)
    (hm : w.cell? ⟨Bm, 0, none⟩ = some (.map (some b))) (hown : w.ownsMap Tryz.prog 37 R b nn D0) (hN : Maps.size D0 ≤ 1000000) :
    Calls Tryz.prog 107 #[.func (.func 109) #[] #[.pointer (some ⟨Bm, 0, none⟩)]] w (CkPost w D0) := by
  have HC := Lib.hid (appendKeys_p hBm hm hown hN)
  clear hBm hm hown hN
  go_enter Tryz.func107, Tryz.ntmps107
  go_wp2_with (go_at_call 119; ((with_reducible refine HC.out.mono ?_); rintro e w' ⟨v, ss, rfl, hq⟩))
  go_ret
  exact ⟨v, ss, rfl, hq⟩
def SkPost {H : Type} (w : World) (D0 : DataW H) (e : Ending) (w' : World) : Prop := ∃ (v : Value) (L : List Int), e = .returned v ∧ L.Pairwise (· < ·) ∧ (∀ x, x ∈ L ↔ Maps.has D0 (.int .u64 x) = true) ∧ L.length ≤ Maps.size D0 ∧ w'.ownsRow w.heap.size 37 1 v L.length (L.map (Value.int .u64)) ∧ (v = .slice none 0 0 ↔ L = []) ∧ Below w.heap.size w w'
theorem sk_of {H : Type} {w w1 w2 : World} {D0 : DataW H} {g cap : Nat} {cur : Array Value} {ss : List Int} (hk : KeysAll D0 ss) (hbase : w.heap.size ≤ g) (hcap : ss.length ≤ cap) (hmax : cap ≤ maxLen) (hsz : cur.size = cap * 1)
    (hd : cur.toList.take (ss.length * 1) = ss.map (Value.int .u64)) (hb : Below w.heap.size w w1) (hgl : g < w1.heap.size) (hpos : ss ≠ [])
    (hp : PdPost w1 g 0 ss.length ss.toArray (cur.toList.drop ss.length) (.returned (.tuple #[])) w2) : SkPost w D0 (.returned (.slice (some ⟨g, 0, none⟩) ss.length cap)) w2 := by
  obtain ⟨_, R, hperm, hsort, hU⟩ := hp
  have hRs : R.size = ss.length := by have := hperm.1; simpa using this
  have hpm : R.toList.Perm ss := by
    have := hperm.2.2
    simpa [Array.extract_eq_self_of_le, hRs] using this
  have hnd : R.toList.Nodup := hpm.nodup_iff.2 hk.1
  have hlen : R.toList.length = ss.length := by simpa using hRs
  refine ⟨.slice (some ⟨g, 0, none⟩) ss.length cap, R.toList, rfl, ?_, fun x => by rw [← hk.2.1 x]; exact hpm.mem_iff, by rw [hlen]; exact hk.2.2, ?_, ?_, ?_⟩
  · refine List.pairwise_iff_getElem.2 fun i j hi hj hij => ?_
    have h1 := hsort i j (Nat.zero_le _) hij (by simpa [hRs] using hj)
    rw [getElem!_pos R i (by simpa using hi), getElem!_pos R j (by simpa using hj)] at h1
    have h2 : ¬ R[j]'(by simpa using hj) < R[i]'(by simpa using hi) := by simpa [Go.Sort.ltInt] using h1
    have h3 : R.toList[i] ≠ R.toList[j] := (List.pairwise_iff_getElem.1 hnd) i j hi hj hij
    simp only [Array.getElem_toList] at h3 ⊢
    omega
  · have hblk : w2.heap[g]? = some (.cells (R.map (Value.int .u64) ++ (cur.toList.drop ss.length).toArray) 37 (0, 0)) := hU.r
    refine ⟨by simp, .inr ⟨g, cap, _, by rw [hlen], hbase, hblk, by rw [hlen]; exact hcap, hmax, ?_, ?_⟩⟩
    · have hc : cur.toList.length = cap := by simpa using hsz
      simp [hRs] at hc ⊢; omega
    · simp [hRs]
  · constructor
    · intro e; cases e
    · intro e; rw [e] at hlen; exact absurd (List.eq_nil_of_length_eq_zero hlen.symm) hpos
  · exact hb.trans (hU.o.below hb.size (fun k e => by subst e; exact hbase))
set_option maxRecDepth 100000 in
set_option maxHeartbeats 2000000 in
theorem sortedKeys_p {H : Type} {Bm b nn : Nat} {D0 : DataW H} {R : Value → Option (DataW H × List MemPlace)} {w : World} (hBm : Bm < w.heap.size)
    (hm : w.cell? ⟨Bm, 0, none⟩ = some (.map (some b))) (hown : w.ownsMap Tryz.prog 37 R b nn D0) (hN : Maps.size D0 ≤ 1000000) :
    Calls Tryz.prog 89 #[.func (.func 109) #[] #[.pointer (some ⟨Bm, 0, none⟩)]] w (SkPost w D0) := by
  have HC := Lib.hid (collectKeys_p hBm hm hown hN)
  have HN := Lib.hid hN
  clear hBm hm hown hN
  go_enter Tryz.func89, Tryz.ntmps89
  go_upto_region 2 with (go_at_call 107; ((with_reducible refine HC.out.mono ?_); rintro e w1 ⟨v, ss, rfl, hk, hrow, hnil, hb⟩))
  have HK := Lib.hid (And.intro hk (And.intro hnil hb))
  clear HC hk hnil hb
  rcases hrow.2 with ⟨rfl, hz⟩ | ⟨g, cap, cur, rfl, hbase, hgb, r1, r2, r3, r4⟩
  · have hss : ss = [] := List.eq_nil_of_length_eq_zero hz
    have HR := Lib.hid (And.intro hrow hss)
    clear hrow hz hss
    go_wp2_with (go_at_call 108; ((with_reducible refine (sort_nil _ _ _).mono ?_); rintro e w' ⟨rfl, rfl⟩))
    go_ret
    obtain ⟨hrow, rfl⟩ := HR.out
    exact ⟨_, [], rfl, List.Pairwise.nil, HK.out.1.2.1, Nat.zero_le _, hrow, by simp, HK.out.2.2⟩
  · have hpos : ss ≠ [] := fun e => by have := HK.out.2.1.2 e; cases this
    have hUR : UR w1 g ss.toArray (cur.toList.drop ss.length) := by
      show w1.heap[g]? = _
      rw [hgb]
      congr 2
      apply Array.ext'
      rw [← List.take_append_drop (ss.length * 1) cur.toList, r4]
      simp
    have HS := Lib.hid (sort_u (cap := cap) hUR (by simp) (show ss.length ≤ 1000000 from Nat.le_trans HK.out.1.2.2 HN.out))
    have HF := Lib.hid (fun w2 hp => sk_of (w2 := w2) HK.out.1 hbase r1 r2 r3 r4 HK.out.2.2 (Array.getElem?_eq_some_iff.1 hgb).1 hpos hp)
    clear hrow hbase hgb r1 r2 r3 r4 hpos hUR HK HN
    go_wp2_with (go_at_call 108; ((with_reducible refine HS.out.mono ?_); rintro e w' ⟨rfl, hq⟩))
    go_ret
    exact HF.out _ ⟨rfl, hq⟩
end Go.Proofs.YtlahficmkfgooaaGreat


/- Jobs in the world: their rows by number and by token. No condition. -/
namespace Go.Proofs.YtlahficmkfgooaaGreat
open Go.RowKit Go.Maps Jb
set_option linter.unusedVariables false
set_option linter.unusedSimpArgs false
namespace Jb
def KU (x : Int) : Lit := .int .u64 x
def KT (s : ByteArray) : Lit := .string s.data.toList
/-- A map's element that is a pointer reads as its block's number. -/
def ptE : Value → Option (Ml.DV × List MemPlace)
  | .pointer (some ⟨b, 0, none⟩) => some (.lit (.int .i64 b), [])
  | .pointer none => some (.lit (.int .i64 (-1)), [])
  | _ => none
theorem ptE_inv {v : Value} {b : Nat} {ps : List MemPlace} (h : ptE v = some (.lit (.int .i64 (b : Int)), ps)) : v = .pointer (some ⟨b, 0, none⟩) := by
  unfold ptE at h
  split at h
  · simp only [Option.some.injEq, Prod.mk.injEq, DataW.lit.injEq, Lit.int.injEq, true_and] at h
    have : _ = b := Int.ofNat.inj h.1
    rw [this]
  · simp only [Option.some.injEq, Prod.mk.injEq, DataW.lit.injEq, Lit.int.injEq, true_and] at h
    omega
  · cases h
theorem ptE_none {v : Value} {ps : List MemPlace} (h : ptE v = some (.lit (.int .i64 (-1)), ps)) : v = .pointer none := by
  unfold ptE at h
  split at h
  · simp only [Option.some.injEq, Prod.mk.injEq, DataW.lit.injEq, Lit.int.injEq, true_and] at h
    omega
  · rfl
  · cases h
def layU : Ml.Lay (Int × Nat) where
  key a := KU a.1
  val a := .pointer (some ⟨a.2, 0, none⟩)
  dat a := .lit (.int .i64 (a.2 : Int))
  rd := ptE
  rdm _ := rfl
  inv _ _ _ h := ptE_inv h
  lit _ := trivial
def layT : Ml.Lay (ByteArray × Nat) where
  key a := KT a.1
  val a := .pointer (some ⟨a.2, 0, none⟩)
  dat a := .lit (.int .i64 (a.2 : Int))
  rd := ptE
  rdm _ := rfl
  inv _ _ _ h := ptE_inv h
  lit _ := trivial
theorem KU_inj {x y : Int} (h : KU x = KU y) : x = y := by unfold KU at h; injection h
theorem KT_inj {x y : ByteArray} (h : KT x = KT y) : x = y := by unfold KT at h; injection h with h; exact ByteArray.ext (Array.toList_inj.1 h)
end Jb
theorem jkdU : Keyed Tryz.prog 37 := int_keyed Tryz.underlying37
theorem jkdT : Keyed Tryz.prog 9 := string_keyed Tryz.underlying9
theorem jkeyU {x : Int} (h : U64 x) : keyOf Tryz.prog 37 (.int .u64 x) = some (KU x) := keyOf_int_mk Tryz.underlying37 (WalkArith.wf_u64 (by unfold U64 at h; omega))
theorem jkeyT {s : ByteArray} (h : s.size ≤ maxLen) : keyOf Tryz.prog 9 (.string s) = some (KT s) := Go.WideMaps.keyOf_string_mk Tryz.underlying9 h
theorem jzP (w : World) : (zeroValue 91).run Tryz.prog w = .ok (.pointer none) w := Tryz.zeroValue91 w
def keysU (B : Int → Nat) (l : List JR) : List (Int × Nat) := l.map fun r => (r.job, B r.job)
def keysT (B : Int → Nat) (l : List JR) : List (ByteArray × Nat) := l.map fun r => (r.tok, B r.job)
theorem only_map {w w' : World} {b : Nat} (t : w.grownBy w' (some b)) : Only (· = b) w w' := ⟨t.os, t.tape, t.output, t.size, fun i hi hne => t.block i hi (fun e => hne (by injection e))⟩
/-- What a call of jobs' may turn: its own blocks, told by their types. -/
def OnJ (B0 b h t : Nat) (w w' : World) : Prop := Only (fun k => k = b ∨ k = h ∨ k = t ∨ (B0 ≤ k ∧ ∃ A, Blk w k 99 A)) w w'
/-- Jobs: the struct in block b, the maps h (by number) and t (by token), each job in a block of its own. -/
structure JW (w : World) (B0 b h t : Nat) (B : Int → Nat) (V : Int → Value) (s : JS) (N : Nat) : Prop where
  blk : Blk w b 96 #[.int .i64 s.most, .int .u64 s.last, .map (some h), .map (some t)]
  mp : Ml.At layU Tryz.prog 37 w h (keysU B s.rows) N
  tk : Ml.At layT Tryz.prog 9 w t (keysT B s.rows) N
  jb : ∀ r ∈ s.rows, Blk w (B r.job) 99 (jcells r (V r.job)).toArray ∧ B0 ≤ B r.job ∧ IRow w B0 (V r.job) r.inp
  inj : ∀ r ∈ s.rows, ∀ q ∈ s.rows, B r.job = B q.job → r.job = q.job
  ne : h ≠ t
  ge : B0 ≤ b ∧ B0 ≤ h ∧ B0 ≤ t
  sz : B0 ≤ w.heap.size
  ok : ∀ r ∈ s.rows, U64 r.job ∧ r.inp.length ≤ 100
  inv : JInv s
theorem mapk_no {α : Type} {l : Ml.Lay α} {K : TypeId} {w : World} {h N : Nat} {L : List α} (m : Ml.At l Tryz.prog K w h L N) {k : Nat} {T : TypeId} {A : Array Value} (hk : Blk w k T A) : h ≠ k := fun e => by subst e; exact m.no_cells hk
section
variable {w w' w1 : World} {B0 b h t N : Nat} {B : Int → Nat} {V : Int → Value} {s : JS}
theorem OnJ.refl (B0 b h t : Nat) (w : World) : OnJ B0 b h t w w := Only.refl _ _
theorem OnJ.of_below (hb : Below w.heap.size w w') : OnJ B0 b h t w w' := Only.of_below hb
theorem OnJ.trans (h1 : OnJ B0 b h t w w1) (h2 : OnJ B0 b h t w1 w') : OnJ B0 b h t w w' :=
  ⟨h2.os.trans h1.os, h2.tape.trans h1.tape, h2.output.trans h1.output, Nat.le_trans h1.size h2.size, fun k hk hne => by
    have e1 := h1.block k hk hne
    rw [← e1]
    refine h2.block k (Nat.lt_of_lt_of_le hk h1.size) fun hs => hne ?_
    unfold Blk at hs ⊢
    rwa [e1] at hs⟩
theorem OnJ.step (h1 : OnJ B0 b h t w w1) (h2 : Below w1.heap.size w1 w') : OnJ B0 b h t w w' := h1.trans (.of_below h2)
theorem OnJ.undrew (o : OnJ B0 b h t w.drew w') : OnJ B0 b h t w w' := ⟨o.os, o.tape, o.output, o.size, o.block⟩
/-- What turns jobs' blocks alone leaves what lies below. -/
theorem OnJ.below (c : JW w B0 b h t B V s N) (o : OnJ B0 b h t w w') : Below B0 w w' := Only.below o c.sz fun k hs => by
  have := c.ge
  rcases hs with e | e | e | e
  · omega
  · omega
  · omega
  · exact e.1
/-- What leaves jobs' blocks leaves jobs. -/
theorem JW.only {S : Nat → Prop} (c : JW w B0 b h t B V s N) (o : Only S w w') (h1 : ¬ S b) (h2 : ¬ S h) (h3 : ¬ S t) (h4 : ∀ g T A, B0 ≤ g → Blk w g T A → T = 99 ∨ T = 2 → ¬ S g) : JW w' B0 b h t B V s N :=
  ⟨c.blk.only o h1, c.mp.only o h2, c.tk.only o h3, fun r hr => by
    obtain ⟨a1, a2, a3⟩ := c.jb r hr
    exact ⟨a1.only o (h4 _ _ _ a2 a1 (.inl rfl)), a2, a3.only o fun g A hg hA => h4 g _ A hg hA (.inr rfl)⟩, c.inj, c.ne, c.ge, Nat.le_trans c.sz o.size, c.ok, c.inv⟩
theorem JW.below (c : JW w B0 b h t B V s N) (hb : Below w.heap.size w w') : JW w' B0 b h t B V s N := c.only (S := fun _ => False) (.of_below hb) id id id (fun _ _ _ _ _ _ => id)
theorem JW.drew (c : JW w B0 b h t B V s N) : JW w.drew B0 b h t B V s N := c.below (Below.refl _ w).drew
theorem JW.mono {M : Nat} (c : JW w B0 b h t B V s N) (hM : N ≤ M) : JW w B0 b h t B V s M := ⟨c.blk, c.mp.mono hM, c.tk.mono hM, c.jb, c.inj, c.ne, c.ge, c.sz, c.ok, c.inv⟩
theorem JW.c0 (c : JW w B0 b h t B V s N) : w.cell? ⟨b, 0, none⟩ = some (.int .i64 s.most) := c.blk.cell 0
theorem JW.c1 (c : JW w B0 b h t B V s N) : w.cell? ⟨b, 1, none⟩ = some (.int .u64 s.last) := c.blk.cell 1
theorem JW.c2 (c : JW w B0 b h t B V s N) : w.cell? ⟨b, 2, none⟩ = some (.map (some h)) := c.blk.cell 2
theorem JW.c3 (c : JW w B0 b h t B V s N) : w.cell? ⟨b, 3, none⟩ = some (.map (some t)) := c.blk.cell 3
theorem JW.hb (c : JW w B0 b h t B V s N) : h ≠ b ∧ t ≠ b := ⟨mapk_no c.mp c.blk, mapk_no c.tk c.blk⟩
/-- What a set of blocks that are told by a type other than jobs' turns. -/
theorem JW.other {g : Nat} {T : TypeId} {A : Array Value} (c : JW w B0 b h t B V s N) (o : Only (· = g) w w') (hg : Blk w g T A) (hT : T ≠ 96 ∧ T ≠ 99 ∧ T ≠ 2) : JW w' B0 b h t B V s N :=
  c.only o (fun e => hT.1 (by have e' : b = g := e; subst e'; exact blk_ty hg c.blk)) (fun e => mapk_no c.mp hg e) (fun e => mapk_no c.tk hg e) fun k T' A' _ hA ht e => by
    have e' : k = g := e
    subst e'
    have := blk_ty hg hA
    rcases ht with ht | ht
    · exact hT.2.1 (by rw [this, ht])
    · exact hT.2.2 (by rw [this, ht])
def addB (B : Int → Nat) (x : Int) (Q : Nat) : Int → Nat := fun k => if k = x then Q else B k
def addV (V : Int → Value) (x : Int) (v : Value) : Int → Value := fun k => if k = x then v else V k
theorem keys_fresh {l : List JR} {x : JR} (hx : ∀ y ∈ l, y.job ≠ x.job) (B : Int → Nat) (Q : Nat) : keysU (addB B x.job Q) (l ++ [x]) = keysU B l ++ [(x.job, Q)] ∧ keysT (addB B x.job Q) (l ++ [x]) = keysT B l ++ [(x.tok, Q)] := by
  have h0 : ∀ y ∈ l, addB B x.job Q y.job = B y.job := fun y hy => if_neg (hx y hy)
  constructor
  · unfold keysU
    rw [List.map_append]
    congr 1
    · exact List.map_congr_left fun y hy => by rw [h0 y hy]
    · simp [addB]
  · unfold keysT
    rw [List.map_append]
    congr 1
    · exact List.map_congr_left fun y hy => by rw [h0 y hy]
    · simp [addB]
/-- A row more: its block, its places in the maps. -/
theorem JW.add (c : JW w B0 b h t B V s N) {x : JR} {vq : Value} {X : World} {Q : Nat} (hX : Below w.heap.size w X) (hQ : Blk X Q 99 (jcells x vq).toArray) (hQB : w.heap.size ≤ Q) (hq : IRow X B0 vq x.inp) (hv : JInv { s with rows := s.rows ++ [x] }) (hx : U64 x.job ∧ x.inp.length ≤ 100) (hN : N < maxLen) :
    ∃ st1 X1 X2 st2 X3 X4, (Instr.mapEntry 93 (.map (some h)) (.int .u64 x.job)).run Tryz.prog X = .ok (.tuple #[.pointer none, st1]) X1 ∧ (Instr.entryStore 93 (.map (some h)) st1 (.pointer (some ⟨Q, 0, none⟩))).run Tryz.prog X1 = .ok () X2 ∧
      (Instr.mapEntry 94 (.map (some t)) (.string x.tok)).run Tryz.prog X2 = .ok (.tuple #[.pointer none, st2]) X3 ∧ (Instr.entryStore 94 (.map (some t)) st2 (.pointer (some ⟨Q, 0, none⟩))).run Tryz.prog X3 = .ok () X4 ∧
      JW X4 B0 b h t (addB B x.job Q) (addV V x.job vq) { s with rows := s.rows ++ [x] } (N + 1) ∧ OnJ B0 b h t w X4 ∧ (∀ k T A, Blk X k T A → Blk X1 k T A ∧ Blk X2 k T A ∧ Blk X3 k T A) := by
  have cX := c.below hX
  have hg := hv.good.1
  have hgo := (List.pairwise_append.1 hg.ris).2.2
  have hgt := (List.pairwise_append.1 hg.tok).2.2
  have hfr : ∀ y ∈ s.rows, y.job ≠ x.job := fun y hy => by have := hgo y hy x (by simp); omega
  have hft : ∀ y ∈ s.rows, y.tok ≠ x.tok := fun y hy => hgt y hy x (by simp)
  have htok : x.tok.size ≤ maxLen := by
    have := (hg.one x (by simp)).2.2.1
    unfold tokB at this
    simp only [Bool.and_eq_true, decide_eq_true_eq] at this
    unfold maxLen; omega
  obtain ⟨D, o, d1, d2, d3⟩ := cX.mp
  have hnu : ¬ ∃ a ∈ keysU B s.rows, layU.key a = KU x.job := by
    rintro ⟨a, ha, e⟩
    obtain ⟨y, hy, rfl⟩ := List.mem_map.1 ha
    exact hfr y hy (KU_inj e)
  have hnt : ¬ ∃ a ∈ keysT B s.rows, layT.key a = KT x.tok := by
    rintro ⟨a, ha, e⟩
    obtain ⟨y, hy, rfl⟩ := List.mem_map.1 ha
    exact hft y hy (KT_inj e)
  have hfu : Maps.has D (KU x.job) = false := by
    cases hh : Maps.has D (KU x.job) with
    | false => rfl
    | true => exact absurd ((d2 _).1 hh) hnu
  obtain ⟨st1, X1, r1, p1, g1⟩ := Ml.entry_new (z := .pointer none) o jkdU Tryz.underlying93 hN (jkeyU hx.1) hfu (jzP X) (zd := .lit (.int .i64 (-1))) (zp := []) rfl
  obtain ⟨X2, r2, o2, g2⟩ := Ml.entry_store (P := Tryz.prog) (t := 93) p1 (val := .pointer (some ⟨Q, 0, none⟩)) (d := .lit (.int .i64 (Q : Int))) (ps := []) rfl
  have hX2 : Only (· = h) X X2 := (only_map g1).trans (only_map g2)
  obtain ⟨E, oe, f1, f2, f3⟩ := (cX.tk.only hX2 (fun e => c.ne e.symm))
  have hfe : Maps.has E (KT x.tok) = false := by
    cases hh : Maps.has E (KT x.tok) with
    | false => rfl
    | true => exact absurd ((f2 _).1 hh) hnt
  obtain ⟨st2, X3, r3, p3, g3⟩ := Ml.entry_new (z := .pointer none) oe jkdT Tryz.underlying94 hN (jkeyT htok) hfe (jzP X2) (zd := .lit (.int .i64 (-1))) (zp := []) rfl
  obtain ⟨X4, r4, o4, g4⟩ := Ml.entry_store (P := Tryz.prog) (t := 94) p3 (val := .pointer (some ⟨Q, 0, none⟩)) (d := .lit (.int .i64 (Q : Int))) (ps := []) rfl
  have hX4 : Only (· = t) X2 X4 := (only_map g3).trans (only_map g4)
  refine ⟨st1, X1, X2, st2, X3, X4, r1, r2, r3, r4, ?_, ?_, fun k T A hk => ?_⟩
  · have hk := keys_fresh hfr B Q
    have m2 : Ml.At layU Tryz.prog 37 X2 h (keysU B s.rows ++ [(x.job, Q)]) (N + 1) := Ml.At.of_put (l := layU) (g := (x.job, Q)) jkdU o d1 d2 d3 hnu o2
    have m4 : Ml.At layT Tryz.prog 9 X4 t (keysT B s.rows ++ [(x.tok, Q)]) (N + 1) := Ml.At.of_put (l := layT) (g := (x.tok, Q)) jkdT oe f1 f2 f3 hnt o4
    have nb : ∀ {k : Nat} {T : TypeId} {A : Array Value}, Blk X k T A → Blk X4 k T A := fun hk => by
      have h2 := hk.only hX2 (fun e => mapk_no cX.mp hk e.symm)
      exact h2.only hX4 (fun e => mapk_no (cX.tk.only hX2 (fun e => c.ne e.symm)) h2 e.symm)
    have ni : ∀ {v : Value} {l : List Int}, IRow X B0 v l → IRow X4 B0 v l := fun hi => (hi.only hX2 (fun g A _ hA e => mapk_no cX.mp hA e.symm)).only hX4 (fun g A _ hA e => mapk_no (cX.tk.only hX2 (fun e => c.ne e.symm)) hA e.symm)
    have hlt : ∀ y ∈ s.rows, B y.job ≠ Q := fun y hy e => by have := (c.jb y hy).1.lt; omega
    refine ⟨nb cX.blk, by rw [hk.1]; exact m2.only hX4 (fun e => c.ne e), by rw [hk.2]; exact m4, fun r hr => ?_, fun r hr q hq' => ?_, c.ne, c.ge, by have := c.sz; have := hX.size; have := hX2.size; have := hX4.size; omega, fun r hr => ?_, hv⟩
    · rcases List.mem_append.1 hr with hr | hr
      · have e1 : addB B x.job Q r.job = B r.job := if_neg (hfr r hr)
        have e2 : addV V x.job vq r.job = V r.job := if_neg (hfr r hr)
        rw [e1, e2]
        obtain ⟨a1, a2, a3⟩ := cX.jb r hr
        exact ⟨nb a1, a2, ni a3⟩
      · simp at hr; subst hr
        have e1 : addB B r.job Q r.job = Q := if_pos rfl
        have e2 : addV V r.job vq r.job = vq := if_pos rfl
        rw [e1, e2]
        exact ⟨nb hQ, by have := c.sz; omega, ni hq⟩
    · rcases List.mem_append.1 hr with h4 | h4 <;> rcases List.mem_append.1 hq' with h5 | h5
      · rw [show addB B x.job Q r.job = B r.job from if_neg (hfr r h4), show addB B x.job Q q.job = B q.job from if_neg (hfr q h5)]; exact c.inj r h4 q h5
      · have e5 : q = x := by simpa using h5
        rw [show addB B x.job Q r.job = B r.job from if_neg (hfr r h4), e5, show addB B x.job Q x.job = Q from if_pos rfl]
        intro e; exact absurd e (hlt r h4)
      · have e4 : r = x := by simpa using h4
        rw [show addB B x.job Q q.job = B q.job from if_neg (hfr q h5), e4, show addB B x.job Q x.job = Q from if_pos rfl]
        intro e; exact absurd e.symm (hlt q h5)
      · have e4 : r = x := by simpa using h4
        have e5 : q = x := by simpa using h5
        intro _; rw [e4, e5]
    · rcases List.mem_append.1 hr with hr | hr
      · exact c.ok r hr
      · simp at hr; subst hr; exact hx
  · exact (OnJ.of_below hX).trans ((hX2.mono fun k _ e => .inr (.inl e)).trans (hX4.mono fun k _ e => .inr (.inr (.inl e))))
  · have hk1 := hk.only (only_map g1) (fun e => mapk_no cX.mp hk e.symm)
    have hk2 := hk.only hX2 (fun e => mapk_no cX.mp hk e.symm)
    exact ⟨hk1, hk2, hk2.only (only_map g3) (fun e => mapk_no (cX.tk.only hX2 (fun e => c.ne e.symm)) hk2 e.symm)⟩
end
section
variable {α : Type} {l : Ml.Lay α} {P : Program} {K : TypeId} {w : World} {h N : Nat} {L : List α}
theorem lk_hit (m : Ml.At l P K w h L N) (kd : Keyed P K) {T V : TypeId} (ht : P.underlying T = some (.map K V)) {z : Value} {zd : Ml.DV} (hz : (zeroValue V).run P w = .ok z w) (hzd : l.rd z = some (zd, [])) {a : α} (ha : a ∈ L) {k : Value} (hk : keyOf P K k = some (l.key a)) :
    (Instr.lookup T (.map (some h)) k true).run P w = .ok (.tuple #[l.val a, .bool true]) w := by
  obtain ⟨D, o, h1, h2, h3⟩ := m
  obtain ⟨v, ps, hr, hv⟩ := World.ownsMap.look_ok o kd ht hz hzd hk
  rw [h1 a ha] at hv
  rw [hr, l.inv _ _ _ hv, (h2 (l.key a)).2 ⟨a, ha, rfl⟩]
theorem lk_miss (m : Ml.At l P K w h L N) (kd : Keyed P K) {T V : TypeId} (ht : P.underlying T = some (.map K V)) {z : Value} {zd : Ml.DV} (hz : (zeroValue V).run P w = .ok z w) (hzd : l.rd z = some (zd, [])) (hzi : ∀ v ps, l.rd v = some (zd, ps) → v = z) {kl : Lit} (ha : ¬ ∃ a ∈ L, l.key a = kl) {k : Value} (hk : keyOf P K k = some kl) :
    (Instr.lookup T (.map (some h)) k true).run P w = .ok (.tuple #[z, .bool false]) w := by
  obtain ⟨D, o, h1, h2, h3⟩ := m
  obtain ⟨v, ps, hr, hv⟩ := World.ownsMap.look_ok o kd ht hz hzd hk
  have hf : Maps.has D kl = false := by
    cases hh : Maps.has D kl with
    | false => rfl
    | true => exact absurd ((h2 kl).1 hh) ha
  rw [atKey_of_not_has hf] at hv
  rw [hr, hzi _ _ hv, hf]
end
section
variable {w : World} {B0 b h t N : Nat} {B : Int → Nat} {V : Int → Value} {s : JS}
theorem JW.num_hit (c : JW w B0 b h t B V s N) {r : JR} (hr : r ∈ s.rows) : (Instr.lookup 93 (.map (some h)) (.int .u64 r.job) true).run Tryz.prog w = .ok (.tuple #[.pointer (some ⟨B r.job, 0, none⟩), .bool true]) w :=
  lk_hit c.mp jkdU Tryz.underlying93 (jzP w) (zd := .lit (.int .i64 (-1))) rfl (a := (r.job, B r.job)) (List.mem_map.2 ⟨r, hr, rfl⟩) (jkeyU (c.ok r hr).1)
theorem JW.num_at (c : JW w B0 b h t B V s N) {r : JR} (hr : r ∈ s.rows) : (Instr.lookup 93 (.map (some h)) (.int .u64 r.job) false).run Tryz.prog w = .ok (.pointer (some ⟨B r.job, 0, none⟩)) w :=
  c.mp.at jkdU Tryz.underlying93 (jzP w) (zd := .lit (.int .i64 (-1))) rfl (a := (r.job, B r.job)) (List.mem_map.2 ⟨r, hr, rfl⟩) (jkeyU (c.ok r hr).1)
theorem JW.num_miss (c : JW w B0 b h t B V s N) {j : Int} (hj : U64 j) (hs : seek s.rows j = none) : (Instr.lookup 93 (.map (some h)) (.int .u64 j) true).run Tryz.prog w = .ok (.tuple #[.pointer none, .bool false]) w :=
  lk_miss c.mp jkdU Tryz.underlying93 (jzP w) (zd := .lit (.int .i64 (-1))) rfl (fun v ps h => ptE_none h) (kl := KU j) (by
    rintro ⟨a, ha, e⟩
    obtain ⟨y, hy, rfl⟩ := List.mem_map.1 ha
    have := List.find?_eq_none.1 hs y hy
    simp only [decide_eq_true_eq] at this
    exact this (KU_inj e)) (jkeyU hj)
theorem JW.tok_hit (c : JW w B0 b h t B V s N) {r : JR} (hr : r ∈ s.rows) : (Instr.lookup 94 (.map (some t)) (.string r.tok) true).run Tryz.prog w = .ok (.tuple #[.pointer (some ⟨B r.job, 0, none⟩), .bool true]) w :=
  lk_hit c.tk jkdT Tryz.underlying94 (jzP w) (zd := .lit (.int .i64 (-1))) rfl (a := (r.tok, B r.job)) (List.mem_map.2 ⟨r, hr, rfl⟩) (jkeyT (by
    have := (c.inv.good.1.one r hr).2.2.1
    unfold tokB at this
    simp only [Bool.and_eq_true, decide_eq_true_eq] at this
    unfold maxLen; omega))
theorem JW.tok_miss (c : JW w B0 b h t B V s N) {tok : ByteArray} (hj : tok.size ≤ maxLen) (hs : s.rows.find? (fun x => decide (x.tok = tok)) = none) : (Instr.lookup 94 (.map (some t)) (.string tok) true).run Tryz.prog w = .ok (.tuple #[.pointer none, .bool false]) w :=
  lk_miss c.tk jkdT Tryz.underlying94 (jzP w) (zd := .lit (.int .i64 (-1))) rfl (fun v ps h => ptE_none h) (kl := KT tok) (by
    rintro ⟨a, ha, e⟩
    obtain ⟨y, hy, rfl⟩ := List.mem_map.1 ha
    have := List.find?_eq_none.1 hs y hy
    simp only [decide_eq_true_eq] at this
    exact this (KT_inj e)) (jkeyT hj)
end
end Go.Proofs.YtlahficmkfgooaaGreat


/- The walk of the document's reader of an op: 'readOp'. No condition. -/
namespace Go.Proofs.YtlahficmkfgooaaGreat
open Go.RowKit Cd Wire
set_option linter.unusedVariables false
namespace Cd
def q0 (r : RS) : RS := if uV 14 r = 0 then ⟨(uS 14 r).s, 8⟩ else uS 14 r
def qS (r : RS) : Nat → RS
  | 0 => q0 r
  | j + 1 => if hasE (uV 14 r) j = true then uS 16 (qS r j) else qS r j
def qF (r : RS) : Nat → OpV
  | 0 => ⟨uV 14 r, 0, 0, 0, 0⟩
  | j + 1 => if hasE (uV 14 r) j = true then setE (qF r j) j (uV 16 (qS r j)) else qF r j
def qoS (r : RS) : RS := if kn (uV 14 r) = true then iS (qS r 3) else qS r 3
def qoV (r : RS) : OpV := if kn (uV 14 r) = true then { qF r 3 with n := iV (qS r 3) } else qF r 3
end Cd
theorem ruint_st {b : Nat} {r : RS} {w : World} (h : RR w b r.s r.e) (most : Int) : Calls Tryz.prog 82 #[.pointer (some ⟨b, 0, none⟩), .int .u64 most] w (RNumPost b w (uV most r) (uS most r).s (uS most r).e) := ruintm_any h most
theorem rcount_st {b : Nat} {r : RS} {w : World} (h : RR w b r.s r.e) (most : Int) (hm : I64 most) : Calls Tryz.prog 43 #[.pointer (some ⟨b, 0, none⟩), .int .i64 most] w (RIntPost b w (cV most r) (cS most r).s (cS most r).e) := rcount_any h most hm
theorem rint_st {b : Nat} {r : RS} {w : World} (h : RR w b r.s r.e) : Calls Tryz.prog 84 #[.pointer (some ⟨b, 0, none⟩), .int .i64 (-9223372036854775808), .int .i64 9223372036854775807] w (RIntPost b w (iV r) (iS r).s (iS r).e) := rintm_any h _ _
/-- Behind j parts: the op in block f, the result's block t, the reader in block b. -/
structure RqW (w : World) (b t f : Nat) (o : OpV) (s : RS) (wr : World) : Prop where
  o : Blk wr f 170 (opA o)
  t : Blk wr t 170 #[.int .u8 0, .int .i64 0, .int .i64 0, .int .i64 0, .int .i64 0]
  p : RR wr b s.s s.e
  only : Only (· = b) w wr
theorem RqW.put {w : World} {b t f : Nat} {o : OpV} {s s' : RS} {wr w9 : World} (h : RqW w b t f o s wr) (hbt : b < w.heap.size) (ht : w.heap.size ≤ t) (hf : t < f) (hp : RR w9 b s'.s s'.e) (ho : Only (· = b) wr w9) {o' : OpV} {k : Nat} {v : Value} (he : (opA o).setIfInBounds k v = opA o') :
    RqW w b t f o' s' (w9.setCell ⟨f, k, none⟩ v) :=
  ⟨by rw [← he]; exact (h.o.only ho (by omega)).set k v, (h.t.only ho (by omega)).set_ne _ (by show t ≠ f; omega), ⟨hp.blk.set_ne _ (by show b ≠ f; omega), hp.sz⟩, (h.only.trans ho).setCell (Or.inr (by show w.heap.size ≤ f; omega)) _⟩
def RoPost (w : World) (b : Nat) (r : RS) (e : Ending) (w' : World) : Prop := ∃ ok od oa ob on, e = .returned (.agg #[.int .u8 ok, .int .i64 od, .int .i64 oa, .int .i64 ob, .int .i64 on]) ∧ OpV.mk ok od oa ob on = qoV r ∧ RR w' b (qoS r).s (qoS r).e ∧ Only (· = b) w w'
set_option maxRecDepth 100000 in
set_option maxHeartbeats 8000000 in
theorem readop_any {b : Nat} {r : RS} {w : World} (h : RR w b r.s r.e) : Calls Tryz.prog 111 #[.pointer (some ⟨b, 0, none⟩)] w (RoPost w b r) := by
  have hbt : b < w.heap.size := h.blk.lt
  have HU := Lib.hid (ruint_st (r := r) (h.alloc (.cells #[.int .u8 0, .int .i64 0, .int .i64 0, .int .i64 0, .int .i64 0] 170)) 14)
  have hr := uV_range (most := 14) (r := r) (by omega)
  have HT := Lib.hid (Blk.new w 170 #[.int .u8 0, .int .i64 0, .int .i64 0, .int .i64 0, .int .i64 0])
  have HO := Lib.hid ((Only.refl (· = b) w).alloc (.cells #[.int .u8 0, .int .i64 0, .int .i64 0, .int .i64 0, .int .i64 0] 170))
  have hq0 : q0 r = if uV 14 r = 0 then ⟨(uS 14 r).s, 8⟩ else uS 14 r := rfl
  have hq1 : qS r 0 = q0 r := rfl
  have hq2 : qF r 0 = ⟨uV 14 r, 0, 0, 0, 0⟩ := rfl
  clear h
  generalize hK : uV 14 r = K at HU hr hq0 hq2
  have ew : IntKind.u8.wrap K = K := by rw [IntKind.wrap_u8]; omega
  have HK8 := Lib.hid (show U8 K by unfold U8; omega)
  have HK := Lib.hid hK
  clear hr hK
  go_enter Tryz.func111, Tryz.ntmps111
  go_upto_if 14 with (go_at_call 82; ((with_reducible refine HU.out.mono ?_); rintro e w1 ⟨rfl, hP, hO⟩; have HT1 := Lib.hid (HT.out.only hO (by omega)); have HP1 := Lib.hid hP; have HO1 := Lib.hid (HO.out.trans hO); clear hP hO))
  have hwf : w.heap.size < w1.heap.size := by have := HT1.out.lt; omega
  have HF := Lib.hid (Blk.new w1 170 #[.int .u8 K, .int .i64 0, .int .i64 0, .int .i64 0, .int .i64 0])
  have HT2 := Lib.hid (HT1.out.alloc (.cells #[.int .u8 K, .int .i64 0, .int .i64 0, .int .i64 0, .int .i64 0] 170))
  have HP2 := Lib.hid (HP1.out.alloc (.cells #[.int .u8 K, .int .i64 0, .int .i64 0, .int .i64 0, .int .i64 0] 170))
  have HO2 := Lib.hid (HO1.out.alloc (.cells #[.int .u8 K, .int .i64 0, .int .i64 0, .int .i64 0, .int .i64 0] 170))
  clear HU HT HO HT1 HP1 HO1 ew
  generalize w1.alloc (.cells #[.int .u8 K, .int .i64 0, .int .i64 0, .int .i64 0, .int .i64 0] 170) = w2 at *
  generalize w1.heap.size = f at *
  obtain ⟨t, ht⟩ : ∃ t, w.heap.size = t := ⟨_, rfl⟩
  have htl : w.heap.size ≤ t := by omega
  have hft : t < f := by omega
  go_cut [] (fun wc => RqW w b t f (qF r 0) (qS r 0) wc)
  case first =>
    have e0 : w2.cell? ⟨f, 0, none⟩ = some (.int .u8 K) := HF.out.cell 0
    by_cases h0 : K = 0
    · as_aux_lemma =>
      rw [if_pos h0] at hq0
      subst h0
      have HQ := Lib.hid (And.intro hq0 (And.intro hq1 hq2))
      clear hq0 hq1 hq2
      have r1 := HP2.out.c1
      have rf := HP2.out.frozen
      go_wp2_with fail
      all_goals go_meet
      all_goals exact ⟨by rw [HQ.out.2.2]; exact HF.out.set_ne _ (by show f ≠ b; omega), by rw [← ht] at *; exact HT2.out.set_ne _ (by show w.heap.size ≠ b; omega), by rw [HQ.out.2.1, HQ.out.1]; exact HP2.out.setE 8, HO2.out.set1⟩
    · as_aux_lemma =>
      rw [if_neg h0] at hq0
      have h0' : (K == 0) = false := by simpa using h0
      have HQ := Lib.hid (And.intro hq0 (And.intro hq1 hq2))
      clear hq0 hq1 hq2 h0
      go_wp2_with fail
      all_goals go_meet
      all_goals exact ⟨by rw [HQ.out.2.2]; exact HF.out, by rw [← ht]; exact HT2.out, by rw [HQ.out.2.1, HQ.out.1]; exact HP2.out, HO2.out⟩
  case rest =>
    have HR := Lib.hid hcut
    have eq0 : (opA (qF r 0)) = #[.int .u8 K, .int .i64 0, .int .i64 0, .int .i64 0, .int .i64 0] := by rw [hq2]; rfl
    have e0 : wc.cell? ⟨f, 0, none⟩ = some (.int .u8 K) := by rw [hcut.o.cell, eq0]; rfl
    clear hcut hq0 hq1 hq2 HF HT2 HP2 HO2 eq0
    have HH := Lib.hid (fun w => rhas_any K HK8.out w)
    unfold HasT at HH
    generalize hd : kd K = fd at *
    generalize ha : ka K = fa at *
    generalize hb : kb K = fb at *
    generalize hn : kn K = fn at *
    have HD := Lib.hid hd
    have HA := Lib.hid ha
    have HBB := Lib.hid hb
    have HN := Lib.hid hn
    clear hd ha hb hn
    go_upto_if 26 with (go_at_call 123; ((with_reducible refine (HH.out _).mono ?_); rintro e w' ⟨rfl, rfl⟩))
    go_cut [] (fun wc => RqW w b t f (qF r 1) (qS r 1) wc)
    case first =>
      clear e0 HH HA HBB HN
      cases fd with
      | true => as_aux_lemma =>
        have hh : hasE (uV 14 r) 0 = true := by rw [HK.out]; exact HD.out
        have e1 : qS r (0 + 1) = uS 16 (qS r 0) := by show (if hasE (uV 14 r) 0 = true then _ else _) = _; rw [if_pos hh]
        have e2 : qF r (0 + 1) = setE (qF r 0) 0 (uV 16 (qS r 0)) := by show (if hasE (uV 14 r) 0 = true then _ else _) = _; rw [if_pos hh]
        have hset := opA_setE (qF r 0) (j := 0) (by decide) (uV 16 (qS r 0))
        rw [← e2] at hset
        have HSET := Lib.hid hset
        have hX := uV_range (most := 16) (r := qS r 0) (by omega)
        have HU := Lib.hid (ruint_st (r := qS r 0) HR.out.p 16)
        rw [← e1] at HU
        obtain ⟨z, hz⟩ : ∃ z, (opA (qF r 0))[0 + 1]? = some z := ⟨_, Array.getElem?_eq_getElem (show 0 + 1 < (opA (qF r 0)).size from by simp [opA])⟩
        have HZ := Lib.hid hz
        clear hh e1 e2 hset hz
        generalize uV 16 (qS r 0) = x at *
        have ew : IntKind.i64.wrap x = x := by rw [IntKind.wrap_i64]; omega
        go_wp2_with (go_at_call 82; ((with_reducible refine HU.out.mono ?_); rintro e w9 ⟨rfl, hP9, hO9⟩; have hT9 := HR.out.o.only hO9 (by omega); have q2 : w9.cell? ⟨f, 0 + 1, none⟩ = some z := (by rw [hT9.cell]; exact HZ.out); have qf : ∀ o, w9.frozen? ⟨f, o, none⟩ = false := hT9.frozen; have HP9 := Lib.hid hP9; have HO9 := Lib.hid hO9; clear hP9 hO9 hT9))
        all_goals go_meet
        all_goals exact HR.out.put hbt htl hft HP9.out HO9.out HSET.out
      | false => as_aux_lemma =>
        have hh : hasE (uV 14 r) 0 = false := by rw [HK.out]; exact HD.out
        have e1 : qS r (0 + 1) = qS r 0 := by show (if hasE (uV 14 r) 0 = true then _ else _) = _; rw [hh]; rfl
        have e2 : qF r (0 + 1) = qF r 0 := by show (if hasE (uV 14 r) 0 = true then _ else _) = _; rw [hh]; rfl
        have EE := Lib.hid (And.intro e1 e2)
        clear hh e1 e2
        go_wp2_with fail
        all_goals go_meet
        all_goals (rw [EE.out.1, EE.out.2]; exact HR.out)
    case rest =>
      have HR := Lib.hid hcut
      clear hcut e0 HH
      go_upto_if 31 with fail
      go_cut [] (fun wc => RqW w b t f (qF r 2) (qS r 2) wc)
      case first =>
        clear HD HBB HN
        cases fa with
        | true => as_aux_lemma =>
          have hh : hasE (uV 14 r) 1 = true := by rw [HK.out]; exact HA.out
          have e1 : qS r (1 + 1) = uS 16 (qS r 1) := by show (if hasE (uV 14 r) 1 = true then _ else _) = _; rw [if_pos hh]
          have e2 : qF r (1 + 1) = setE (qF r 1) 1 (uV 16 (qS r 1)) := by show (if hasE (uV 14 r) 1 = true then _ else _) = _; rw [if_pos hh]
          have hset := opA_setE (qF r 1) (j := 1) (by decide) (uV 16 (qS r 1))
          rw [← e2] at hset
          have HSET := Lib.hid hset
          have hX := uV_range (most := 16) (r := qS r 1) (by omega)
          have HU := Lib.hid (ruint_st (r := qS r 1) HR.out.p 16)
          rw [← e1] at HU
          obtain ⟨z, hz⟩ : ∃ z, (opA (qF r 1))[1 + 1]? = some z := ⟨_, Array.getElem?_eq_getElem (show 1 + 1 < (opA (qF r 1)).size from by simp [opA])⟩
          have HZ := Lib.hid hz
          clear hh e1 e2 hset hz
          generalize uV 16 (qS r 1) = x at *
          have ew : IntKind.i64.wrap x = x := by rw [IntKind.wrap_i64]; omega
          go_wp2_with (go_at_call 82; ((with_reducible refine HU.out.mono ?_); rintro e w9 ⟨rfl, hP9, hO9⟩; have hT9 := HR.out.o.only hO9 (by omega); have q2 : w9.cell? ⟨f, 1 + 1, none⟩ = some z := (by rw [hT9.cell]; exact HZ.out); have qf : ∀ o, w9.frozen? ⟨f, o, none⟩ = false := hT9.frozen; have HP9 := Lib.hid hP9; have HO9 := Lib.hid hO9; clear hP9 hO9 hT9))
          all_goals go_meet
          all_goals exact HR.out.put hbt htl hft HP9.out HO9.out HSET.out
        | false => as_aux_lemma =>
          have hh : hasE (uV 14 r) 1 = false := by rw [HK.out]; exact HA.out
          have e1 : qS r (1 + 1) = qS r 1 := by show (if hasE (uV 14 r) 1 = true then _ else _) = _; rw [hh]; rfl
          have e2 : qF r (1 + 1) = qF r 1 := by show (if hasE (uV 14 r) 1 = true then _ else _) = _; rw [hh]; rfl
          have EE := Lib.hid (And.intro e1 e2)
          clear hh e1 e2
          go_wp2_with fail
          all_goals go_meet
          all_goals (rw [EE.out.1, EE.out.2]; exact HR.out)
      case rest =>
        have HR := Lib.hid hcut
        clear hcut
        go_upto_if 36 with fail
        go_cut [] (fun wc => RqW w b t f (qF r 3) (qS r 3) wc)
        case first =>
          clear HD HA HN
          cases fb with
          | true => as_aux_lemma =>
            have hh : hasE (uV 14 r) 2 = true := by rw [HK.out]; exact HBB.out
            have e1 : qS r (2 + 1) = uS 16 (qS r 2) := by show (if hasE (uV 14 r) 2 = true then _ else _) = _; rw [if_pos hh]
            have e2 : qF r (2 + 1) = setE (qF r 2) 2 (uV 16 (qS r 2)) := by show (if hasE (uV 14 r) 2 = true then _ else _) = _; rw [if_pos hh]
            have hset := opA_setE (qF r 2) (j := 2) (by decide) (uV 16 (qS r 2))
            rw [← e2] at hset
            have HSET := Lib.hid hset
            have hX := uV_range (most := 16) (r := qS r 2) (by omega)
            have HU := Lib.hid (ruint_st (r := qS r 2) HR.out.p 16)
            rw [← e1] at HU
            obtain ⟨z, hz⟩ : ∃ z, (opA (qF r 2))[2 + 1]? = some z := ⟨_, Array.getElem?_eq_getElem (show 2 + 1 < (opA (qF r 2)).size from by simp [opA])⟩
            have HZ := Lib.hid hz
            clear hh e1 e2 hset hz
            generalize uV 16 (qS r 2) = x at *
            have ew : IntKind.i64.wrap x = x := by rw [IntKind.wrap_i64]; omega
            go_wp2_with (go_at_call 82; ((with_reducible refine HU.out.mono ?_); rintro e w9 ⟨rfl, hP9, hO9⟩; have hT9 := HR.out.o.only hO9 (by omega); have q2 : w9.cell? ⟨f, 2 + 1, none⟩ = some z := (by rw [hT9.cell]; exact HZ.out); have qf : ∀ o, w9.frozen? ⟨f, o, none⟩ = false := hT9.frozen; have HP9 := Lib.hid hP9; have HO9 := Lib.hid hO9; clear hP9 hO9 hT9))
            all_goals go_meet
            all_goals exact HR.out.put hbt htl hft HP9.out HO9.out HSET.out
          | false => as_aux_lemma =>
            have hh : hasE (uV 14 r) 2 = false := by rw [HK.out]; exact HBB.out
            have e1 : qS r (2 + 1) = qS r 2 := by show (if hasE (uV 14 r) 2 = true then _ else _) = _; rw [hh]; rfl
            have e2 : qF r (2 + 1) = qF r 2 := by show (if hasE (uV 14 r) 2 = true then _ else _) = _; rw [hh]; rfl
            have EE := Lib.hid (And.intro e1 e2)
            clear hh e1 e2
            go_wp2_with fail
            all_goals go_meet
            all_goals (rw [EE.out.1, EE.out.2]; exact HR.out)
        case rest =>
          have HR := Lib.hid hcut
          clear hcut
          go_upto_if 41 with fail
          go_cut [] (fun wc => RqW w b t f (qoV r) (qoS r) wc)
          case first =>
            cases fn with
            | true => as_aux_lemma =>
              have hq : kn (uV 14 r) = true := by rw [HK.out]; exact HN.out
              have e1 : qoS r = iS (qS r 3) := by unfold qoS; rw [if_pos hq]
              have e2 : qoV r = { qF r 3 with n := iV (qS r 3) } := by unfold qoV; rw [if_pos hq]
              have hset : (opA (qF r 3)).setIfInBounds 4 (.int .i64 (iV (qS r 3))) = opA (qoV r) := by rw [e2]; rfl
              have HSET := Lib.hid hset
              have HU := Lib.hid (rint_st (r := qS r 3) HR.out.p)
              rw [← e1] at HU
              clear hq e1 e2 hset
              generalize iV (qS r 3) = x at *
              go_wp2_with (go_at_call 84; ((with_reducible refine HU.out.mono ?_); rintro e w9 ⟨rfl, hP9, hO9⟩; have hT9 := HR.out.o.only hO9 (by omega); have q2 : w9.cell? ⟨f, 4, none⟩ = some (.int .i64 (qF r 3).n) := hT9.cell 4; have qf : ∀ o, w9.frozen? ⟨f, o, none⟩ = false := hT9.frozen; have HP9 := Lib.hid hP9; have HO9 := Lib.hid hO9; clear hP9 hO9 hT9))
              all_goals go_meet
              all_goals exact HR.out.put hbt htl hft HP9.out HO9.out HSET.out
            | false => as_aux_lemma =>
              have hq : kn (uV 14 r) = false := by rw [HK.out]; exact HN.out
              have e1 : qoS r = qS r 3 := by unfold qoS; rw [hq]; rfl
              have e2 : qoV r = qF r 3 := by unfold qoV; rw [hq]; rfl
              have EE := Lib.hid (And.intro e1 e2)
              clear hq e1 e2
              go_wp2_with fail
              all_goals go_meet
              all_goals (rw [EE.out.1, EE.out.2]; exact HR.out)
          case rest => as_aux_lemma =>
            have HR := Lib.hid hcut
            clear hcut HD HA HBB HN HK8
            have hRo := HR.out.o
            generalize hv : qoV r = v at *
            have HV := Lib.hid hv
            clear hv
            obtain ⟨ok, od, oa, ob, on⟩ := v
            simp only [opA] at hRo
            have q0 := hRo.cell 0
            have q1 := hRo.cell 1
            have q2 := hRo.cell 2
            have q3 := hRo.cell 3
            have q4 := hRo.cell 4
            simp at q0 q1 q2 q3 q4
            have t0 := HR.out.t.cell 0
            have t1 := HR.out.t.cell 1
            have t2 := HR.out.t.cell 2
            have t3 := HR.out.t.cell 3
            have t4 := HR.out.t.cell 4
            simp at t0 t1 t2 t3 t4
            have tf := HR.out.t.frozen
            clear hRo
            subst ht
            go_wp2_with fail
            try simp only [Exit.inBlock, Exit.then]
            exact ret_cell (cs := #[.int .u8 ok, .int .i64 od, .int .i64 oa, .int .i64 ob, .int .i64 on]) (T := 170) rfl rfl (((((HR.out.t.set 0 _).set 1 _).set 2 _).set 3 _).set 4 _) Tryz.underlying170 rfl (by kernel_rfl) rfl
              ⟨ok, od, oa, ob, on, rfl, HV.out.symm, ⟨((((HR.out.p.blk.set_ne _ (by show b ≠ w.heap.size; omega)).set_ne _ (by show b ≠ w.heap.size; omega)).set_ne _ (by show b ≠ w.heap.size; omega)).set_ne _ (by show b ≠ w.heap.size; omega)).set_ne _ (by show b ≠ w.heap.size; omega), HR.out.p.sz⟩,
                ((((HR.out.only.setCell (Or.inr htl) _).setCell (Or.inr htl) _).setCell (Or.inr htl) _).setCell (Or.inr htl) _).setCell (Or.inr htl) _⟩
end Go.Proofs.YtlahficmkfgooaaGreat


/- Plain law: the document's reader of programs and the program's agree. No condition. -/
namespace Go.Proofs.YtlahficmkfgooaaGreat
open Go.RowKit Cd Wire
set_option linter.unusedVariables false
namespace Cd
def rops : Nat → List OpV → RS → List OpV × RS
  | 0, l, r => (l, r)
  | n + 1, l, r => if r.e = 0 then rops n (l ++ [qoV r]) (qoS r) else (l, r)
def rfun1 (r : RS) : FunV × RS := (⟨uV 16 r, uV 16 (uS 16 r), (rops (cV 64 (uS 16 (uS 16 r))).toNat [] (cS 64 (uS 16 (uS 16 r)))).1⟩, (rops (cV 64 (uS 16 (uS 16 r))).toNat [] (cS 64 (uS 16 (uS 16 r)))).2)
def rfunL : Nat → List FunV → RS → List FunV × RS
  | 0, l, r => (l, r)
  | n + 1, l, r => if r.e = 0 then rfunL n (l ++ [(rfun1 r).1]) (rfun1 r).2 else (l, r)
def rdec (s : ByteArray) : List FunV × Int :=
  if 16384 < s.size then ([], 4) else
  if (uS 18446744073709551615 ⟨s, 0⟩).e ≠ 0 then ([], 8) else
  if uV 18446744073709551615 ⟨s, 0⟩ ≠ 1 then ([], 100) else
  if endE (rfunL (cV 16 (uS 18446744073709551615 ⟨s, 0⟩)).toNat [] (cS 16 (uS 18446744073709551615 ⟨s, 0⟩))).2.s (rfunL (cV 16 (uS 18446744073709551615 ⟨s, 0⟩)).toNat [] (cS 16 (uS 18446744073709551615 ⟨s, 0⟩))).2.e ≠ 0 then ([], 8) else
  ((rfunL (cV 16 (uS 18446744073709551615 ⟨s, 0⟩)).toNat [] (cS 16 (uS 18446744073709551615 ⟨s, 0⟩))).1, 0)
theorem num_err {s : ByteArray} {e : Int} (h : e ≠ 0) (c : Int) : numV s e c = 0 ∧ numS s e c = s ∧ numE s e c = e := by
  unfold numV numS numE
  rw [if_neg (fun hh => h hh.1), if_neg (fun hh => h hh.1), if_neg h]
  exact ⟨rfl, rfl, rfl⟩
theorem u_err {r : RS} (h : r.e ≠ 0) (most : Int) : uV most r = 0 ∧ uS most r = r := by
  obtain ⟨h1, h2, h3⟩ := num_err (s := r.s) h (uC r.s most)
  refine ⟨h1, ?_⟩
  unfold uS
  rw [h2, h3]
theorem c_err {r : RS} (h : r.e ≠ 0) (most : Int) : cV most r = 0 ∧ cS most r = r := by
  obtain ⟨h1, h2, h3⟩ := num_err (s := r.s) h (cC r.s most)
  refine ⟨h1, ?_⟩
  unfold cS
  rw [h2, h3]
theorem i_err {r : RS} (h : r.e ≠ 0) : iS r = r := by
  obtain ⟨h1, h2, h3⟩ := num_err (s := r.s) h (iC r.s (-9223372036854775808) 9223372036854775807)
  unfold iS
  rw [h2, h3]
/-- Where nothing stands against it, what is asked for at most is no matter. -/
theorem u_same {r : RS} (he : r.e = 0) {m n : Int} (hm : uV m r ≤ n) (hn : n ≤ m) (h : (uS m r).e = 0) : uV n r = uV m r ∧ uS n r = uS m r := by
  have h1 : numE r.s r.e (uC r.s m) = 0 := h
  unfold numE at h1
  rw [if_pos he] at h1
  by_cases h2 : (rdS r.s).2.2 = 0
  · rw [if_pos h2] at h1
    have hv : uV m r = xI r.s := by unfold uV numV; rw [if_pos ⟨he, h2, h1⟩]; rfl
    have h3 : uC r.s n = 0 := by unfold uC; rw [if_neg (by omega)]
    unfold uV uS
    rw [h1, h3]
    exact ⟨rfl, rfl⟩
  · rw [if_neg h2] at h1
    exact absurd h1 (by omega)
/-- .. and where something does, there is nothing. -/
theorem u_more {r : RS} (he : r.e = 0) {m n : Int} (hn : n ≤ m) (h : (uS m r).e ≠ 0) : uV n r = 0 ∧ (uS n r).e ≠ 0 := by
  have h1 : numE r.s r.e (uC r.s m) ≠ 0 := h
  unfold numE at h1
  rw [if_pos he] at h1
  by_cases h2 : (rdS r.s).2.2 = 0
  · rw [if_pos h2] at h1
    have h3 : m < xI r.s := by
      unfold uC at h1
      by_cases h4 : m < xI r.s
      · exact h4
      · rw [if_neg h4] at h1; exact absurd rfl h1
    have h5 : uC r.s n = 9 := by unfold uC; rw [if_pos (by omega)]
    obtain ⟨a, b, c⟩ := numc (s := r.s) h2 (c := uC r.s n) (by rw [h5]; decide)
    unfold uV uS
    simp only
    rw [he, a, c, h5]
    exact ⟨rfl, by decide⟩
  · obtain ⟨a, b, c, d⟩ := num0_bad (s := r.s) (e := r.e) (fun hh => h2 hh.2) (uC r.s n)
    unfold uV uS
    simp only
    rw [a, c]
    exact ⟨rfl, d⟩
/-- A number that is too great. -/
theorem u_great {r : RS} (he : r.e = 0) {m n : Int} (hm : n < uV m r) (h0 : 0 ≤ n) : uV n r = 0 ∧ (uS n r).e ≠ 0 := by
  have h2 : (rdS r.s).2.2 = 0 ∧ uC r.s m = 0 := by
    by_cases h2 : r.e = 0 ∧ (rdS r.s).2.2 = 0 ∧ uC r.s m = 0
    · exact h2.2
    · exfalso
      unfold uV numV at hm
      rw [if_neg h2] at hm
      omega
  have hv : uV m r = xI r.s := by unfold uV numV; rw [if_pos ⟨he, h2.1, h2.2⟩]; rfl
  have h5 : uC r.s n = 9 := by unfold uC; rw [if_pos (by omega)]
  obtain ⟨a, b, c⟩ := numc (s := r.s) h2.1 (c := uC r.s n) (by rw [h5]; decide)
  unfold uV uS
  simp only
  rw [he, a, c, h5]
  exact ⟨rfl, by decide⟩
theorem q_err {r : RS} (h : (q0 r).e ≠ 0) : (qoS r).e ≠ 0 := by
  have key : ∀ j, (qS r j).e ≠ 0 := by
    intro j
    induction j with
    | zero => exact h
    | succ j ih =>
      show (if hasE (uV 14 r) j = true then uS 16 (qS r j) else qS r j).e ≠ 0
      split
      · rw [(u_err ih 16).2]; exact ih
      · exact ih
  unfold qoS
  split
  · rw [i_err (key 3)]; exact key 3
  · exact key 3
theorem known_range {k : Int} (h : known k = true) : 1 ≤ k ∧ k ≤ 14 := by
  unfold known at h
  simp only [Bool.and_eq_true, decide_eq_true_eq] at h
  exact h
theorem unknown_range {k : Int} (h : known k = false) : k < 1 ∨ 14 < k := by
  rcases Int.lt_or_le k 1 with h1 | h1
  · exact .inl h1
  · rcases Int.lt_or_le 14 k with h2 | h2
    · exact .inr h2
    · unfold known at h
      rw [decide_eq_true h1, decide_eq_true h2] at h
      cases h
theorem q_same {r : RS} (hv : uV 14 r = uV 255 r) (hs : uS 14 r = uS 255 r) (h0 : uV 255 r ≠ 0) : qoV r = roV r ∧ qoS r = roS r := by
  have hq : q0 r = uS 255 r := by unfold q0; rw [hv, if_neg h0, hs]
  have key : ∀ j, qS r j = ptS r j ∧ qF r j = ptF r j := by
    intro j
    induction j with
    | zero => exact ⟨hq, by show OpV.mk (uV 14 r) 0 0 0 0 = OpV.mk (uV 255 r) 0 0 0 0; rw [hv]⟩
    | succ j ih =>
      refine ⟨?_, ?_⟩
      · show (if hasE (uV 14 r) j = true then uS 16 (qS r j) else qS r j) = (if hasE (uV 255 r) j = true then uS 16 (ptS r j) else ptS r j)
        rw [hv, ih.1]
      · show (if hasE (uV 14 r) j = true then setE (qF r j) j (uV 16 (qS r j)) else qF r j) = (if hasE (uV 255 r) j = true then setE (ptF r j) j (uV 16 (ptS r j)) else ptF r j)
        rw [hv, ih.1, ih.2]
  unfold qoV qoS roV roS
  rw [hv, (key 3).1, (key 3).2]
  exact ⟨rfl, rfl⟩
theorem op_agree {r : RS} (he : r.e = 0) : (roB r = true → qoV r = roV r ∧ qoS r = roS r ∧ (roS r).e = 0) ∧ (roB r = false → (qoS r).e ≠ 0) := by
  by_cases h1 : (uS 255 r).e = 0
  · by_cases h2 : 14 < uV 255 r
    · obtain ⟨a, b⟩ := u_great he h2 (by decide)
      refine ⟨fun h => ?_, fun _ => q_err ?_⟩
      · unfold roB at h
        rw [Bool.and_eq_true] at h
        have := known_range h.1
        omega
      · unfold q0
        rw [if_pos a]
        show (8 : Int) ≠ 0
        decide
    · obtain ⟨a, b⟩ := u_same he (m := 255) (n := 14) (by omega) (by decide) h1
      by_cases h3 : uV 255 r = 0
      · refine ⟨fun h => ?_, fun _ => q_err ?_⟩
        · unfold roB at h
          rw [Bool.and_eq_true] at h
          have := known_range h.1
          omega
        · unfold q0
          rw [if_pos (by rw [a, h3])]
          show (8 : Int) ≠ 0
          decide
      · obtain ⟨c, d⟩ := q_same a b h3
        have hr := uV_range (most := 255) (r := r) (by decide)
        have hk : known (uV 255 r) = true := by
          cases hk : known (uV 255 r) with
          | true => rfl
          | false => rcases unknown_range hk with h | h <;> omega
        refine ⟨fun h => ?_, fun h => ?_⟩
        · unfold roB at h
          simp only [Bool.and_eq_true, beq_iff_eq] at h
          exact ⟨c, d, h.2⟩
        · unfold roB at h
          rw [hk, Bool.true_and] at h
          rw [d]
          intro e
          rw [e] at h
          cases h
  · obtain ⟨a, b⟩ := u_more he (m := 255) (n := 14) (by decide) h1
    obtain ⟨c, _⟩ := u_more he (m := 255) (n := 255) (by decide) h1
    refine ⟨fun h => ?_, fun _ => q_err ?_⟩
    · unfold roB at h
      rw [Bool.and_eq_true] at h
      have := known_range h.1
      omega
    · unfold q0
      rw [if_pos a]
      show (8 : Int) ≠ 0
      decide
theorem rops_err : ∀ (n : Nat) (l : List OpV) (r : RS), r.e ≠ 0 → rops n l r = (l, r) := by
  intro n l r h
  cases n with
  | zero => rfl
  | succ n => show (if r.e = 0 then _ else (l, r)) = _; rw [if_neg h]
theorem ops_agree : ∀ (n : Nat) (l : List OpV) (r : RS), (0 < n → r.e = 0) → (∀ x, opsL n l r = some x → rops n l r = x) ∧ (opsL n l r = none → (rops n l r).2.e ≠ 0) := by
  intro n
  induction n with
  | zero =>
    intro l r _
    refine ⟨fun x h => ?_, fun h => ?_⟩
    · have h' : some (l, r) = some x := h
      injection h'
    · have h' : some (l, r) = none := h
      cases h'
  | succ n ih =>
    intro l r h0
    have he := h0 (Nat.succ_pos n)
    obtain ⟨a, b⟩ := op_agree he
    have e1 : opsL (n + 1) l r = if roB r = true then opsL n (l ++ [roV r]) (roS r) else none := rfl
    have e2 : rops (n + 1) l r = if r.e = 0 then rops n (l ++ [qoV r]) (qoS r) else (l, r) := rfl
    rw [e1, e2, if_pos he]
    cases hb : roB r with
    | true =>
      obtain ⟨c, d, e⟩ := a hb
      rw [if_pos rfl, c, d]
      exact ih _ _ (fun _ => e)
    | false =>
      rw [if_neg (by decide)]
      refine ⟨fun x h => (by cases h), fun _ => ?_⟩
      rw [rops_err _ _ _ (b hb)]
      exact b hb
theorem c_pos {most : Int} {r : RS} (h : 0 < (cV most r).toNat) : (cS most r).e = 0 := by
  by_cases h2 : r.e = 0 ∧ (rdS r.s).2.2 = 0 ∧ cC r.s most = 0
  · show numE r.s r.e (cC r.s most) = 0
    unfold numE
    rw [if_pos h2.1, if_pos h2.2.1, h2.2.2]
  · exfalso
    unfold cV numV at h
    rw [if_neg h2] at h
    cases h
theorem fun_agree (r : RS) : (∀ x, fun1 r = some x → rfun1 r = x) ∧ (fun1 r = none → (rfun1 r).2.e ≠ 0) := by
  obtain ⟨a, b⟩ := ops_agree (cV 64 (uS 16 (uS 16 r))).toNat [] (cS 64 (uS 16 (uS 16 r))) c_pos
  unfold fun1 rfun1
  cases h : opsL (cV 64 (uS 16 (uS 16 r))).toNat [] (cS 64 (uS 16 (uS 16 r))) with
  | none => exact ⟨fun x hx => (by cases hx), fun _ => b h⟩
  | some y =>
    obtain ⟨ops, r4⟩ := y
    rw [a _ h]
    refine ⟨fun x hx => ?_, fun hx => by cases hx⟩
    injection hx
theorem fun1_err {r : RS} (h : r.e ≠ 0) : fun1 r = some (⟨0, 0, []⟩, r) := by
  unfold fun1
  rw [(u_err h 16).2, (u_err h 16).2, (c_err h 64).1, (c_err h 64).2, (u_err h 16).1]
  rfl
theorem funL_err : ∀ (n : Nat) (l : List FunV) (r : RS), r.e ≠ 0 → ∃ l', funL n l r = some (l', r) := by
  intro n
  induction n with
  | zero => intro l r _; exact ⟨l, rfl⟩
  | succ n ih =>
    intro l r h
    have e : funL (n + 1) l r = match fun1 r with | none => none | some (f, r4) => funL n (l ++ [f]) r4 := rfl
    rw [e, fun1_err h]
    exact ih _ _ h
theorem rfunL_err : ∀ (n : Nat) (l : List FunV) (r : RS), r.e ≠ 0 → rfunL n l r = (l, r) := by
  intro n l r h
  cases n with
  | zero => rfl
  | succ n => show (if r.e = 0 then _ else (l, r)) = _; rw [if_neg h]
theorem funL_agree : ∀ (n : Nat) (l : List FunV) (r : RS), (0 < n → r.e = 0) →
    (∀ l' r', funL n l r = some (l', r') → (r'.e = 0 → rfunL n l r = (l', r')) ∧ (r'.e ≠ 0 → (rfunL n l r).2.e ≠ 0)) ∧ (funL n l r = none → (rfunL n l r).2.e ≠ 0) := by
  intro n
  induction n with
  | zero =>
    intro l r _
    refine ⟨fun l' r' h => ?_, fun h => ?_⟩
    · have h' : some (l, r) = some (l', r') := h
      injection h' with h'
      injection h' with e1 e2
      subst e1; subst e2
      exact ⟨fun _ => rfl, fun h => h⟩
    · have h' : some (l, r) = none := h
      cases h'
  | succ n ih =>
    intro l r h0
    have he := h0 (Nat.succ_pos n)
    obtain ⟨a, b⟩ := fun_agree r
    have e1 : funL (n + 1) l r = match fun1 r with | none => none | some (f, r4) => funL n (l ++ [f]) r4 := rfl
    have e2 : rfunL (n + 1) l r = if r.e = 0 then rfunL n (l ++ [(rfun1 r).1]) (rfun1 r).2 else (l, r) := rfl
    rw [e2, if_pos he, e1]
    cases hf : fun1 r with
    | none =>
      have hb := b hf
      rw [rfunL_err _ _ _ hb]
      exact ⟨fun l' r' h => (by cases h), fun _ => hb⟩
    | some y =>
      obtain ⟨f, r4⟩ := y
      rw [a _ hf]
      by_cases h4 : r4.e = 0
      · exact ih _ _ (fun _ => h4)
      · obtain ⟨l2, hl2⟩ := funL_err n (l ++ [f]) r4 h4
        rw [rfunL_err _ _ _ h4]
        refine ⟨fun l' r' h => ?_, fun _ => h4⟩
        have h' : funL n (l ++ [f]) r4 = some (l', r') := h
        rw [hl2] at h'
        injection h' with h'
        injection h' with e1 e2
        subst e2
        exact ⟨fun h => absurd h h4, fun _ => h4⟩
theorem endE_err {s : ByteArray} {e : Int} (h : e ≠ 0) : endE s e ≠ 0 := by
  unfold endE
  rw [if_neg (fun hh => h hh.1)]
  exact h
theorem rdec_eq (s : ByteArray) : rdec s = dec s := by
  unfold rdec dec
  split
  · rfl
  · split
    · rfl
    · split
      · rfl
      · generalize uS 18446744073709551615 ⟨s, 0⟩ = r0
        obtain ⟨a, b⟩ := funL_agree (cV 16 r0).toNat [] (cS 16 r0) c_pos
        cases h : funL (cV 16 r0).toNat [] (cS 16 r0) with
        | none =>
          rw [if_pos (endE_err (b h))]
        | some y =>
          obtain ⟨fs, r⟩ := y
          obtain ⟨c, d⟩ := a _ _ h
          by_cases he : r.e = 0
          · rw [c he]
          · rw [if_pos (endE_err (d he))]
            show ([], 8) = (if endE r.s r.e ≠ 0 then (([] : List FunV), (8 : Int)) else (fs, 0))
            rw [if_pos (endE_err he)]
end Cd
end Go.Proofs.YtlahficmkfgooaaGreat
