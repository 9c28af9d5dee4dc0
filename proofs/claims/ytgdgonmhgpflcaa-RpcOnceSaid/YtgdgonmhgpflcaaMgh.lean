import Derived.Test.YtgdgonmhgpflcaaSoD
import Derived.RangeFuncNested
import Derived.RangeFuncBound
import Derived.RangeFuncCalls
import Derived.RangeFuncLeaves
import Derived.RangeFuncBox
import Derived.Maps.AppendAt
import Derived.Sort.MapsRangeIn
import Derived.WalkKit
import Derived.OwnWalkIn
import Derived.TacticsInMore
import Derived.RegionIn
import Derived.LoopNIn
import Derived.LoopIn
import Derived.Test.YtgdgonmhgpflcaaRpcD
import Derived.Test.YtgdgonmhgpflcaaMgf

/- slices.Sort at []uint64: it sorts. No condition but that the row is not too long. -/
namespace Go.Proofs.Ytgdgonmhgpflcaa
open Go.RowKit Sou
set_option linter.unusedVariables false
set_option linter.unusedSimpArgs false
set_option maxRecDepth 100000 in
theorem ins_nil (p : Option Addr) (cap : Nat) (w : World) : Calls Try.prog 105 #[.slice p 0 cap, .int .i64 0, .int .i64 0] w fun e w' => e = .returned (.tuple #[]) ∧ w' = w := by
  go_enter Try.func105, Try.ntmps105
  go_wp2_with fail
  go_loopw [6] (fun u wr => u = .int .i64 1 ∧ wr = w) (fun _ _ => 0)
  case atStart => exact ⟨rfl, rfl⟩
  case round =>
    obtain ⟨rfl, rfl⟩ := hrel
    go_wp2_with fail
    go_end0
    exact ⟨rfl, rfl⟩
set_option maxRecDepth 100000 in
theorem pdq_nil (p : Option Addr) (cap : Nat) (lim : Int) (w : World) : Calls Try.prog 101 #[.slice p 0 cap, .int .i64 0, .int .i64 0, .int .i64 lim] w fun e w' => e = .returned (.tuple #[]) ∧ w' = w := by
  go_enter Try.func101, Try.ntmps101
  go_wp2_with fail
  go_loopw [1, 2] (fun u v wr => u = .int .i64 0 ∧ v = .int .i64 0 ∧ wr = w) (fun _ _ _ => 0)
  case atStart => exact ⟨rfl, rfl, rfl⟩
  case round =>
    obtain ⟨rfl, rfl, rfl⟩ := hrel
    go_wp2_with (go_at_call 105; ((with_reducible refine (ins_nil _ _ _).mono ?_); rintro e w' ⟨rfl, rfl⟩))
    refine bodyPost_ret (results_none rfl _ _ _) rfl ?_
    exact ⟨rfl, rfl⟩
set_option maxRecDepth 100000 in
theorem sort_nil (p : Option Addr) (cap : Nat) (w : World) : Calls Try.prog 92 #[.slice p 0 cap] w fun e w' => e = .returned (.tuple #[]) ∧ w' = w := by
  have HB : Hid (∀ W : World, Calls Try.prog 102 #[.int .u64 0] W fun e w' => e = .returned (.int .i64 0) ∧ w' = W) := Lib.hid (fun W => bitsLen_u (w := W) (n := 0) (by decide))
  go_enter Try.func92, Try.ntmps92
  go_wp2_with (first | (go_at_call 102; ((with_reducible refine (HB.out _).mono ?_); rintro e w' ⟨rfl, rfl⟩)) | (go_at_call 101; ((with_reducible refine (pdq_nil _ _ _ _).mono ?_); rintro e w' ⟨rfl, rfl⟩)))
  go_end0
  exact ⟨rfl, rfl⟩
set_option maxRecDepth 100000 in
theorem sort_u {w : World} {g n cap : Nat} {d : Array Int} {tl : List Value} (h : UR w g d tl) (hn : d.size = n) (hs : n ≤ 1000000) :
    Calls Try.prog 92 #[.slice (some ⟨g, 0, none⟩) n cap] w (PdPost w g 0 n d tl) := by
  obtain ⟨lim, hlim⟩ : ∃ lim, lim = Go.Sort.bitsLen n := ⟨_, rfl⟩
  have hl : lim ≤ 1000 := by
    rw [hlim]
    exact Nat.le_trans ((Go.Sort.bitsLen_le_iff n 62).2 (by omega)) (by decide)
  have HB : Hid (∀ W : World, Calls Try.prog 102 #[.int .u64 (n : Int)] W fun e w' => e = .returned (.int .i64 (lim : Int)) ∧ w' = W) := Lib.hid (by rw [hlim]; exact fun W => bitsLen_u (by omega))
  have hp := pdq_u (g := g) (n := n) (cap := cap) (tl := tl) hs (n + 1) w 0 n lim d h hn (Nat.zero_le _) (Nat.le_refl _) (by omega) hl (Or.inl rfl)
  have HP : Hid (Calls Try.prog 101 #[.slice (some ⟨g, 0, none⟩) n cap, .int .i64 0, .int .i64 (n : Int), .int .i64 (lim : Int)] w (PdPost w g 0 n d tl)) := Lib.hid hp
  have e1 : IntKind.u64.wrap (n : Int) = (n : Int) := by clear hp; rw [IntKind.wrap_u64]; omega
  clear hp hl hlim h hn hs
  go_enter Try.func92, Try.ntmps92
  go_wp2_with (first | (go_at_call 102; ((with_reducible refine (HB.out _).mono ?_); rintro e w' ⟨rfl, rfl⟩)) | (go_at_call 101; ((with_reducible refine HP.out.mono ?_); rintro e w' ⟨rfl, hq⟩)))
  go_end0
  exact ⟨rfl, hq⟩
end Go.Proofs.Ytgdgonmhgpflcaa


/- slices.Sorted(maps.Keys(m)) at a map keyed by uint64: the keys, each once, rising. No condition but that they are not too many. -/
namespace Go.Proofs.Ytgdgonmhgpflcaa
open Go.RowKit Sou Go.Maps
set_option linter.unusedVariables false
set_option linter.unusedSimpArgs false
attribute [local go_sem] Oper.semAt_some
namespace Sok
theorem keyOf_u {P : Program} {k : TypeId} (hk : P.underlying k = some (.int .u64)) {key : Value} {kl : Lit} (h : keyOf P k key = some kl) : ∃ x : Int, key = .int .u64 x ∧ kl = .int .u64 x := by
  cases key <;> simp [keyOf, hk, mapKey] at h
  rename_i q a
  obtain ⟨⟨rfl, hw⟩, rfl⟩ := h
  exact ⟨a, rfl, rfl⟩
/-- No key twice; a key is on the list just where the map has it and it is no longer to come. -/
def Col {H : Type} (D0 : DataW H) (left : Lit → Bool) (ss : List Int) : Prop := ss.Nodup ∧ ∀ x, x ∈ ss ↔ (Maps.has D0 (.int .u64 x) = true ∧ left (.int .u64 x) = false)
section
variable {H : Type} {D0 : DataW H} {left : Lit → Bool} {ss : List Int}
theorem Col.start (D0 : DataW H) : Col D0 (Maps.has D0) [] := ⟨List.nodup_nil, fun x => by cases Maps.has D0 (.int .u64 x) <;> simp⟩
theorem Col.step (h : Col D0 left ss) {x : Int} {y : DataW H} (hlk : left (.int .u64 x) = true) (hat : ∀ zd, D0.atKey (.int .u64 x) zd = y) : Col D0 (fun z => left z && !z.sameKey (.int .u64 x)) (ss ++ [x]) := by
  have hhas : Maps.has D0 (.int .u64 x) = true := has_true_of_atKey hat
  have hnew : x ∉ ss := fun hx => by have := ((h.2 x).1 hx).2; rw [hlk] at this; cases this
  refine ⟨List.nodup_append.2 ⟨h.1, by simp, fun a ha b hb => by simp at hb; subst hb; exact fun e => hnew (e ▸ ha)⟩, fun y => ?_⟩
  by_cases hy : y = x
  · subst hy; simp [hhas, Lit.sameKey]
  · simp [h.2 y, hy, Lit.sameKey]
end
def KeysAll {H : Type} (D0 : DataW H) (ss : List Int) : Prop := ss.Nodup ∧ (∀ x, x ∈ ss ↔ Maps.has D0 (.int .u64 x) = true) ∧ ss.length ≤ Maps.size D0
theorem law : Keyed Try.prog 22 := int_keyed Try.underlying22
end Sok
open Sok
set_option maxRecDepth 100000 in
set_option maxHeartbeats 1000000 in
theorem keys1_p {H : Type} (n : Nat) (hn : 1 ≤ n) (l Bm b nn : Nat) (D0 : DataW H) {R : Value → Option (DataW H × List MemPlace)} (J Jx : List Int → World → Prop)
    (hY : ∀ pre x W, J pre W → pre.length < Maps.size D0 → YieldAt Fence.wide (n - 1) Try.prog l #[.int .u64 x] W fun e W' =>
      (e = .returned (.bool true) ∧ J (pre ++ [x]) W' ∧ KeepsWalks W W') ∨ (e = .returned (.bool false) ∧ Jx (pre ++ [x]) W'))
    (W : World) (hJ : AbidesFrom W.heap.size J) (hm : W.cell? ⟨Bm, 0, none⟩ = some (.map (some b))) (hown : W.ownsMap Try.prog 22 R b nn D0) (h0 : J [] W) :
    CallsIn Fence.wide n Try.prog 93 #[.func (.yield l) #[] #[], .pointer (some ⟨Bm, 0, none⟩)] W fun e W' => (∃ v, e = .returned v) ∧
      ((∃ ss : List Int, KeysAll D0 ss ∧ J ss W') ∨ (∃ pre : List Int, True ∧ Jx pre W')) := by
  refine callsIn_of_wp Try.func93 rfl trivial ?_ rfl
  simp only [Try.ntmps93, List.size_toArray, List.length_cons, List.length_nil, Nat.reduceAdd, Nat.reduceSub, Array.replicate_succ, Array.replicate_zero, List.push_toArray, List.append_toArray, List.nil_append, List.cons_append]
  gi_wp2_with (first
    | (gi_at_range; refine wpListIn_range_own _ rfl _ 140 rfl 22 141 Sok.law Try.underlying140 _ b nn _ rfl hown ?_; intro w0 hrg0 hg0 hs0)
    | gi_in)
  go_frame
  gi_loopw [3] (fun _ wr => ∃ (left : Lit → Bool) (cnt : Nat) (ss : List Int), wr.ranges Try.prog 22 R b W.heap.size nn D0 left cnt ∧ ss.length + cnt ≤ Maps.size D0 ∧ Col D0 left ss ∧ J ss wr)
    (fun _ wr => wr.rangeLeft b W.heap.size)
  case atStart =>
    exact ⟨_, _, [], hrg0, by simp, Col.start D0, hJ [] W w0 none h0 hg0 (fun r e => by cases e)⟩
  case round =>
    obtain ⟨left, cnt, ss, hrg, hcs, hC, hJs⟩ := hrel
    gi_wp2_with (first
      | (gi_at_next; refine wpListIn_next_ranges _ rfl _ rfl 22 Sok.law R (Value.int .u64) id (fun key kl hk => by obtain ⟨x, hx, _⟩ := Sok.keyOf_u Try.underlying22 hk; exact ⟨x, hx⟩) (fun v _ _ => ⟨v, rfl⟩) b W.heap.size nn _ _ _ rfl hrg ?_ ?_)
      | gi_in)
    · intro hc0 hl0
      gi_wp2
      go_end0
      exact ⟨⟨_, rfl⟩, .inl ⟨ss, ⟨hC.1, fun x => by rw [hC.2 x, hl0]; simp, by omega⟩, hJs⟩⟩
    · intro x c kl yd yp w2 cnt2 hkey hlk hv hat hrg2 hlt hg2 hs2 hen
      obtain ⟨x', ex, rfl⟩ := Sok.keyOf_u Try.underlying22 hkey
      obtain rfl : x = x' := by simpa using ex
      have hJ2 : J ss w2 := hJ ss wr w2 (some W.heap.size) hJs hg2 (fun r e => by cases e; exact ⟨Nat.le_refl _, hrg.iter_walk⟩)
      obtain ⟨fn, tmps, assign, body, hy, hR⟩ := hY ss x w2 hJ2 (by omega)
      clear hs2
      gi_wp2
      refine hR.mono ?_
      have hC2 := hC.step hlk hat
      rintro e W3 (⟨rfl, hJ3, hk3⟩ | ⟨rfl, hJx3⟩)
      · gi_wp2
        have hrg3 := hrg2.of_walks hk3
        go_roundw
        case rel => exact ⟨_, cnt2, ss ++ [x], hrg3, by simp; omega, hC2, hJ3⟩
        case measure => rw [hrg3.left_eq, hrg.left_eq]; exact hlt
      · gi_wp2
        refine bodyPost_ret (results_none rfl _ _ _) rfl ?_
        exact ⟨⟨_, rfl⟩, .inr ⟨ss ++ [x], trivial, hJx3⟩⟩
theorem keys_stops_p {H : Type} (n : Nat) (hn : 1 ≤ n) (Bm b nn : Nat) (D0 : DataW H) {R : Value → Option (DataW H × List MemPlace)} (w : World) (hBm : Bm < w.heap.size)
    (hm : w.cell? ⟨Bm, 0, none⟩ = some (.map (some b))) (hown : w.ownsMap Try.prog 22 R b nn D0) :
    SeqStopsK Fence.wide n Try.prog 93 #[.pointer (some ⟨Bm, 0, none⟩)] (fun x : Int => #[Value.int .u64 x]) KeepsWalks (KeysAll D0) (fun _ => True) (Maps.size D0) w := fun l J Jx W hW hJ _ hY h0 => by
  have hown' : W.ownsMap Try.prog 22 R b nn D0 := by
    have hbl := hown.lt
    obtain ⟨es, clock, hb, Ft, hs, hD⟩ := hown
    exact ⟨es, clock, (hW.block b hbl).trans hb, Ft, hs, hD⟩
  exact keys1_p n hn l Bm b nn D0 J Jx hY W hJ ((hW.cell (p := ⟨Bm, 0, none⟩) hBm).trans hm) hown' h0
theorem info_u64 : (Try.prog.info? 22).map (fun i => (i.zero, i.size, i.bytes)) = some (some (.int .u64 0), 1, 8) := by kernel_rfl
set_option maxRecDepth 100000 in
set_option maxHeartbeats 2000000 in
theorem appendSeq_u (n : Nat) (hn : 3 ≤ n) (gf : Nat) (lb : Array Value) (eg : ∀ args w, (callFunc gf args).run Try.prog w = .ok (.enter gf args) w) (S Sp : List Int → Prop) (N : Nat) (hN : N ≤ 1000000) (w : World)
    (hseq : SeqStopsK Fence.wide (n - 1) Try.prog gf lb (fun x : Int => #[Value.int .u64 x]) KeepsWalks S Sp N w) :
    CallsIn Fence.wide n Try.prog 100 #[.slice none 0 0, .func (.func gf) #[] lb] w fun e W' => ∃ v ss, e = .returned v ∧ S ss ∧ W'.ownsRow w.heap.size 22 1 v ss.length (ss.map (Value.int .u64)) ∧ (v = .slice none 0 0 ↔ ss = []) ∧ Below w.heap.size w W' := by
  have h1 : 1 ≤ n := by omega
  obtain ⟨i0, hi, hz0, hz1, hz2⟩ := info_parts info_u64
  refine callsIn_of_wp_marks Try.func100 rfl trivial ?_ rfl
  simp only [Try.ntmps100, List.size_toArray, List.length_cons, List.length_nil, Nat.reduceAdd, Nat.reduceSub, Array.replicate_succ, Array.replicate_zero, List.push_toArray, List.append_toArray, List.nil_append, List.cons_append]
  gi_wp2
  have bO := Boxed.new w 63 (.slice none 0 0)
  have hB0 : Below w.heap.size w (w.alloc (.cells #[.slice none 0 0] 63)) := (Below.refl _ w).alloc (Nat.le_refl _) _
  refine wpIn_rangeFunc_ownF rfl h1 (gf := gf) (lb := lb) rfl trivial eg hseq walksK_t walksK_b hB0 (fun _ => rfl)
    (fun pre W => (∃ v, Boxed W w.heap.size 63 v ∧ W.ownsRow w.heap.size 22 1 v pre.length (pre.map (Value.int .u64)) ∧ (v = .slice none 0 0 ↔ pre = [])) ∧ Below w.heap.size w W)
    (fun _ _ _ => False)
    (OwnFrom.and (Own.from (holdsRow_own w.heap.size w.heap.size 63 22 1 (fun pre => pre.length) (fun pre => pre.map (Value.int .u64)) (fun pre v => v = .slice none 0 0 ↔ pre = [])) _) (ownFrom_below (Nat.le_refl _) (by simp)))
    (fun _ _ _ _ _ hs _ _ => hs)
    ⟨⟨_, bO, World.ownsRow_nil _ _ _ _, by simp⟩, hB0⟩
    (fun x => { tmps := #[.slice none 0 0, .func (.func gf) #[] lb, .pointer (some ⟨w.heap.size, 0, none⟩), undef, .slice none 0 0, .int .u64 x, .func (.func gf) #[] lb, .int .u64 x, undef, undef, undef, undef, undef], defers := [] }) ?assign ?body ?done ?stop
  case assign =>
    intro l x W K hK
    gi_wp2
    exact hK
  case body =>
    rintro l pre x W ⟨⟨v, hv, hrow, hnil⟩, hB⟩ hlt
    have hc := hv.cell
    gi_wp2_with (gi_at_builtin; refine wpListIn_append_own _ rfl _ _ 63 rfl w.heap.size 22 i0 (.int .u64 0) 1 8 Try.underlying63 hi hz0 hz1 hz2 rfl (by decide) _ _ _ rfl (hrow.alloc _) ⟨W.heap.size, 0, none⟩ 1 1 [.int .u64 x] rfl rfl (cell_one_new _ _ _) (by simp [Value.oneCell']) (by unfold maxLen; omega) (by omega) (by have := hB.size; simp; omega) ?_; intro v' w1 hown' hgrow _; obtain ⟨g', cap', rfl⟩ := ownsRow_succ hown'; obtain ⟨hv1, hv2, hr2, hk2, hb2⟩ := hv.appended (by decide) hrow hB.size (Nat.le_refl _) hown' hgrow; have hc1 := hv1.cell; have hf1 := hv1.frozen)
    exact ⟨hk2, hk2.walks, ⟨_, hv2, by simpa using hr2, by simp⟩, hB.trans hb2⟩
  case done =>
    rintro D ys W hD hS ⟨⟨v, hv, hrow, hnil⟩, hB⟩ hK
    have hc := hv.cell
    gi_wp2
    refine ⟨by simp, .inl ⟨_, _, rfl, run_takeDeferred hK, ?_⟩⟩
    exact ⟨_, results_tmp rfl _ _ _, v, ys, rfl, hS, ownsRow_putObj hrow _ hK rfl, hnil, hB.trans (belowK_b (w := w) (Nat.le_refl _) W D _ _ (by simp at hD; omega) hK rfl rfl)⟩
  case stop =>
    rintro D c pre W _ _ h _
    exact h.elim
end Go.Proofs.Ytgdgonmhgpflcaa


/- slices.Sorted(maps.Keys(m)) at a map keyed by uint64, joined: a new row of the keys, each once, rising. No condition but that they are not too many. -/
namespace Go.Proofs.Ytgdgonmhgpflcaa
open Go.RowKit Sou Sok Go.Maps
set_option linter.unusedVariables false
set_option linter.unusedSimpArgs false
set_option maxRecDepth 100000 in
theorem keys_p (b : Option Nat) (w : World) : Calls Try.prog 63 #[.map b] w fun e w' => e = .returned (.func (.func 93) #[] #[.pointer (some ⟨w.heap.size, 0, none⟩)]) ∧ w' = w.alloc (.cells #[.map b] 140) := by
  go_enter Try.func63, Try.ntmps63
  go_wp2
  go_ret
  exact ⟨rfl, rfl⟩
def CkPost {H : Type} (w : World) (D0 : DataW H) (e : Ending) (w' : World) : Prop := ∃ v ss, e = .returned v ∧ KeysAll D0 ss ∧ w'.ownsRow w.heap.size 22 1 v ss.length (ss.map (Value.int .u64)) ∧ (v = .slice none 0 0 ↔ ss = []) ∧ Below w.heap.size w w'
theorem appendKeys_p {H : Type} {Bm b nn : Nat} {D0 : DataW H} {R : Value → Option (DataW H × List MemPlace)} {w : World} (hBm : Bm < w.heap.size)
    (hm : w.cell? ⟨Bm, 0, none⟩ = some (.map (some b))) (hown : w.ownsMap Try.prog 22 R b nn D0) (hN : Maps.size D0 ≤ 1000000) :
    Calls Try.prog 100 #[.slice none 0 0, .func (.func 93) #[] #[.pointer (some ⟨Bm, 0, none⟩)]] w (CkPost w D0) :=
  callsIn_wide.1 (appendSeq_u 3 (Nat.le_refl _) 93 _ (enters_of Try.func93 (by kernel_rfl) rfl) _ _ _ hN w (keys_stops_p 2 (by decide) Bm b nn D0 w hBm hm hown))
set_option maxRecDepth 100000 in
theorem collectKeys_p {H : Type} {Bm b nn : Nat} {D0 : DataW H} {R : Value → Option (DataW H × List MemPlace)} {w : World} (hBm : Bm < w.heap.size)
    (hm : w.cell? ⟨Bm, 0, none⟩ = some (.map (some b))) (hown : w.ownsMap Try.prog 22 R b nn D0) (hN : Maps.size D0 ≤ 1000000) :
    Calls Try.prog 91 #[.func (.func 93) #[] #[.pointer (some ⟨Bm, 0, none⟩)]] w (CkPost w D0) := by
  have HC := Lib.hid (appendKeys_p hBm hm hown hN)
  clear hBm hm hown hN
  go_enter Try.func91, Try.ntmps91
  go_wp2_with (go_at_call 100; ((with_reducible refine HC.out.mono ?_); rintro e w' ⟨v, ss, rfl, hq⟩))
  go_ret
  exact ⟨v, ss, rfl, hq⟩
def SkPost {H : Type} (w : World) (D0 : DataW H) (e : Ending) (w' : World) : Prop := ∃ (v : Value) (L : List Int), e = .returned v ∧ L.Pairwise (· < ·) ∧ (∀ x, x ∈ L ↔ Maps.has D0 (.int .u64 x) = true) ∧ L.length ≤ Maps.size D0 ∧ w'.ownsRow w.heap.size 22 1 v L.length (L.map (Value.int .u64)) ∧ (v = .slice none 0 0 ↔ L = []) ∧ Below w.heap.size w w'
theorem sk_of {H : Type} {w w1 w2 : World} {D0 : DataW H} {g cap : Nat} {cur : Array Value} {ss : List Int} (hk : KeysAll D0 ss) (hbase : w.heap.size ≤ g) (hcap : ss.length ≤ cap) (hmax : cap ≤ maxLen) (hsz : cur.size = cap * 1)
    (hd : cur.toList.take (ss.length * 1) = ss.map (Value.int .u64)) (hb : Below w.heap.size w w1) (hgl : g < w1.heap.size) (hpos : ss ≠ [])
    (hp : PdPost w1 g 0 ss.length ss.toArray (cur.toList.drop ss.length) (.returned (.tuple #[])) w2) : SkPost w D0 (.returned (.slice (some ⟨g, 0, none⟩) ss.length cap)) w2 := by
  obtain ⟨_, R, hperm, hsort, hU⟩ := hp
  have hRs : R.size = ss.length := by have := hperm.1; simpa using this
  have hpm : R.toList.Perm ss := by
    have := hperm.2.2
    simpa [Array.extract_eq_self_of_le, hRs] using this
  have hnd : R.toList.Nodup := hpm.nodup_iff.2 hk.1
  have hlen : R.toList.length = ss.length := by simpa using hRs
  refine ⟨.slice (some ⟨g, 0, none⟩) ss.length cap, R.toList, rfl, ?_, fun x => by rw [← hk.2.1 x]; exact hpm.mem_iff, by rw [hlen]; exact hk.2.2, ?_, ?_, ?_⟩
  · refine List.pairwise_iff_getElem.2 fun i j hi hj hij => ?_
    have h1 := hsort i j (Nat.zero_le _) hij (by simpa [hRs] using hj)
    rw [getElem!_pos R i (by simpa using hi), getElem!_pos R j (by simpa using hj)] at h1
    have h2 : ¬ R[j]'(by simpa using hj) < R[i]'(by simpa using hi) := by simpa [Go.Sort.ltInt] using h1
    have h3 : R.toList[i] ≠ R.toList[j] := (List.pairwise_iff_getElem.1 hnd) i j hi hj hij
    simp only [Array.getElem_toList] at h3 ⊢
    omega
  · have hblk : w2.heap[g]? = some (.cells (R.map (Value.int .u64) ++ (cur.toList.drop ss.length).toArray) 22 (0, 0)) := hU.r
    refine ⟨by simp, .inr ⟨g, cap, _, by rw [hlen], hbase, hblk, by rw [hlen]; exact hcap, hmax, ?_, ?_⟩⟩
    · have hc : cur.toList.length = cap := by simpa using hsz
      simp [hRs] at hc ⊢; omega
    · simp [hRs]
  · constructor
    · intro e; cases e
    · intro e; rw [e] at hlen; exact absurd (List.eq_nil_of_length_eq_zero hlen.symm) hpos
  · exact hb.trans (hU.o.below hb.size (fun k e => by subst e; exact hbase))
set_option maxRecDepth 100000 in
set_option maxHeartbeats 2000000 in
theorem sortedKeys_p {H : Type} {Bm b nn : Nat} {D0 : DataW H} {R : Value → Option (DataW H × List MemPlace)} {w : World} (hBm : Bm < w.heap.size)
    (hm : w.cell? ⟨Bm, 0, none⟩ = some (.map (some b))) (hown : w.ownsMap Try.prog 22 R b nn D0) (hN : Maps.size D0 ≤ 1000000) :
    Calls Try.prog 62 #[.func (.func 93) #[] #[.pointer (some ⟨Bm, 0, none⟩)]] w (SkPost w D0) := by
  have HC := Lib.hid (collectKeys_p hBm hm hown hN)
  have HN := Lib.hid hN
  clear hBm hm hown hN
  go_enter Try.func62, Try.ntmps62
  go_upto_region 2 with (go_at_call 91; ((with_reducible refine HC.out.mono ?_); rintro e w1 ⟨v, ss, rfl, hk, hrow, hnil, hb⟩))
  have HK := Lib.hid (And.intro hk (And.intro hnil hb))
  clear HC hk hnil hb
  rcases hrow.2 with ⟨rfl, hz⟩ | ⟨g, cap, cur, rfl, hbase, hgb, r1, r2, r3, r4⟩
  · have hss : ss = [] := List.eq_nil_of_length_eq_zero hz
    have HR := Lib.hid (And.intro hrow hss)
    clear hrow hz hss
    go_wp2_with (go_at_call 92; ((with_reducible refine (sort_nil _ _ _).mono ?_); rintro e w' ⟨rfl, rfl⟩))
    go_ret
    obtain ⟨hrow, rfl⟩ := HR.out
    exact ⟨_, [], rfl, List.Pairwise.nil, HK.out.1.2.1, Nat.zero_le _, hrow, by simp, HK.out.2.2⟩
  · have hpos : ss ≠ [] := fun e => by have := HK.out.2.1.2 e; cases this
    have hUR : UR w1 g ss.toArray (cur.toList.drop ss.length) := by
      show w1.heap[g]? = _
      rw [hgb]
      congr 2
      apply Array.ext'
      rw [← List.take_append_drop (ss.length * 1) cur.toList, r4]
      simp
    have HS := Lib.hid (sort_u (cap := cap) hUR (by simp) (show ss.length ≤ 1000000 from Nat.le_trans HK.out.1.2.2 HN.out))
    have HF := Lib.hid (fun w2 hp => sk_of (w2 := w2) HK.out.1 hbase r1 r2 r3 r4 HK.out.2.2 (Array.getElem?_eq_some_iff.1 hgb).1 hpos hp)
    clear hrow hbase hgb r1 r2 r3 r4 hpos hUR HK HN
    go_wp2_with (go_at_call 92; ((with_reducible refine HS.out.mono ?_); rintro e w' ⟨rfl, hq⟩))
    go_ret
    exact HF.out _ ⟨rfl, hq⟩
end Go.Proofs.Ytgdgonmhgpflcaa


/- A caller in the world: its calls under way, what is due, what is over; and as data. No condition. -/
namespace Go.Proofs.Ytgdgonmhgpflcaa
open Go.RowKit Go.Maps Wire Rp
set_option linter.unusedVariables false
set_option linter.unusedSimpArgs false
namespace Rp
structure C0 where
  seq : Int
  wh : Int
  body : ByteArray
  tries : Int
  tm : Int
  wt : Int
structure Ov where
  seq : Int
  wh : Int
  body : ByteArray
  err : Int
structure St where
  inc : Int
  wait : Int
  most : Int
  tries : Int
  last : Int
  L : List C0
  du : List (Int × ByteArray)
  ov : List Ov
def ccells (c : C0) : Array Value := #[.int .u64 c.seq, .int .i64 c.wh, .string c.body, .int .i64 0, .int .i64 c.tries, .int .i64 c.tm, .int .i64 c.wt]
def dcells (d : Int × ByteArray) : List Value := [.int .i64 d.1, .string d.2]
def ocells (o : Ov) : List Value := [.int .u64 o.seq, .int .i64 o.wh, .string o.body, .int .i64 o.err]
theorem dcells_len (d : Int × ByteArray) : (dcells d).length = 2 := rfl
theorem ocells_len (d : Ov) : (ocells d).length = 4 := rfl
def rowsD (l : List (Int × ByteArray)) : List Value := l.flatMap dcells
def rowsO (l : List Ov) : List Value := l.flatMap ocells
def KR (x : Int) : Lit := .int .u64 x
theorem kr_ne {x y : Int} (h : ¬ x = y) : KR x ≠ KR y := fun e => h (by unfold KR at e; injection e)
/-- A map's element that is a pointer reads as its block's number. -/
def ptE : Value → Option (Ml.DV × List MemPlace)
  | .pointer (some ⟨b, 0, none⟩) => some (.lit (.int .i64 b), [])
  | .pointer none => some (.lit (.int .i64 (-1)), [])
  | _ => none
theorem ptE_inv {v : Value} {b : Nat} {ps : List MemPlace} (h : ptE v = some (.lit (.int .i64 (b : Int)), ps)) : v = .pointer (some ⟨b, 0, none⟩) := by
  unfold ptE at h
  split at h
  · simp only [Option.some.injEq, Prod.mk.injEq, DataW.lit.injEq, Lit.int.injEq, true_and] at h
    have : _ = b := Int.ofNat.inj h.1
    rw [this]
  · simp only [Option.some.injEq, Prod.mk.injEq, DataW.lit.injEq, Lit.int.injEq, true_and] at h
    omega
  · cases h
theorem ptE_none {v : Value} {ps : List MemPlace} (h : ptE v = some (.lit (.int .i64 (-1)), ps)) : v = .pointer none := by
  unfold ptE at h
  split at h
  · simp only [Option.some.injEq, Prod.mk.injEq, DataW.lit.injEq, Lit.int.injEq, true_and] at h
    omega
  · rfl
  · cases h
def layC : Ml.Lay (Int × Nat) where
  key a := KR a.1
  val a := .pointer (some ⟨a.2, 0, none⟩)
  dat a := .lit (.int .i64 (a.2 : Int))
  rd := ptE
  rdm _ := rfl
  inv _ _ _ h := ptE_inv h
  lit _ := trivial
def mkDue (s : St) (c : C0) : Int × ByteArray := (c.wh, pkS ⟨false, s.inc, c.seq, c.body⟩)
def placeB (n : Int) : Bool := decide (0 ≤ n) && decide (n < 1024)
def timeB (t : Int) : Bool := decide (0 ≤ t) && decide (t ≤ 17592186044416)
def endsS (s : St) (o : Ov) : St := { s with L := s.L.filter (fun c => !(c.seq == o.seq)), ov := s.ov ++ [o] }
def newC (s : St) (wh : Int) (body : ByteArray) (now : Int) : C0 := ⟨s.last + 1, wh, body, 1, now + s.wait, s.wait⟩
def putS (s : St) (x : C0) : St := { s with last := s.last + 1, L := s.L ++ [x], du := s.du ++ [mkDue s x] }
def callS (s : St) (wh : Int) (body : ByteArray) (now : Int) : Int × Int × St :=
  if (placeB wh && timeB now) = false then (0, 2, s) else if 8192 < body.size then (0, 4, s) else if 64 ≤ s.L.length then (0, 6, s) else if 4611686018427387904 ≤ s.last then (0, 9, s) else
    (s.last + 1, 0, putS s (newC s wh body now))
def takeS (s : St) (fr : Int) (p : Pk) : Bool × Int × St :=
  if (placeB fr && mayP p) = false then (false, 2, s) else match s.L.find? (fun c => c.seq == p.seq) with
  | none => (false, 0, s)
  | some x => if p.an && (p.inc == s.inc) && (x.wh == fr) then (true, 0, endsS s ⟨p.seq, fr, p.body, 0⟩) else (false, 0, s)
def nextC (s : St) (now : Int) (c : C0) : C0 := { c with tries := c.tries + 1, wt := min (2 * c.wt) s.most, tm := now + min (2 * c.wt) s.most }
def tkL (s : St) (now : Int) (c : C0) : Option C0 := if now < c.tm then some c else if s.tries ≤ c.tries then none else some (nextC s now c)
def tkD (s : St) (now : Int) (c : C0) : Option (Int × ByteArray) := if now < c.tm then none else if s.tries ≤ c.tries then none else some (mkDue s c)
def tkO (s : St) (now : Int) (c : C0) : Option Ov := if now < c.tm then none else if s.tries ≤ c.tries then some ⟨c.seq, c.wh, ⟨#[]⟩, 270⟩ else none
/-- Behind the first i calls of a tick. -/
def tickAt (s : St) (now : Int) (i : Nat) : St := { s with L := (s.L.take i).filterMap (tkL s now) ++ s.L.drop i, du := s.du ++ (s.L.take i).filterMap (tkD s now), ov := s.ov ++ (s.L.take i).filterMap (tkO s now) }
def tickS (s : St) (now : Int) : Int × St := if timeB now then (0, tickAt s now s.L.length) else (2, s)
def hasS (s : St) (x : Int) : Bool := s.L.any fun c => c.seq == x
def stop1 (s : St) (x : Int) : Int × St := if hasS s x then (1, { s with L := s.L.filter (fun c => !(c.seq == x)) }) else (0, s)
def stopS (s : St) : List Int → Int × St
  | [] => (0, s)
  | x :: r => ((stop1 s x).1 + (stopS (stop1 s x).2 r).1, (stopS (stop1 s x).2 r).2)
def C0ok (s : St) (c : C0) : Prop := 1 ≤ c.seq ∧ c.seq ≤ s.last ∧ (0 ≤ c.wh ∧ c.wh < 1024) ∧ c.body.size ≤ 8192 ∧ (1 ≤ c.tries ∧ c.tries ≤ 64) ∧ (0 ≤ c.tm ∧ c.tm ≤ 17596481011712) ∧ 1 ≤ c.wt ∧ c.wt ≤ 4294967296
/-- What holds of a caller that was made. -/
structure SInv (s : St) : Prop where
  inc : 1 ≤ s.inc ∧ s.inc ≤ 4611686018427387904
  wait : 1 ≤ s.wait ∧ s.wait ≤ 4294967296
  most : s.wait ≤ s.most ∧ s.most ≤ 4294967296
  tries : 1 ≤ s.tries ∧ s.tries ≤ 64
  last : 0 ≤ s.last ∧ s.last ≤ 4611686018427387904
  len : s.L.length ≤ 64
  ris : s.L.Pairwise (fun a b => a.seq < b.seq)
  ok : ∀ c ∈ s.L, C0ok s c
end Rp
theorem kdR : Keyed Try.prog 22 := int_keyed Try.underlying22
theorem keyR {x : Int} (h : U64 x) : keyOf Try.prog 22 (.int .u64 x) = some (KR x) := keyOf_int_mk Try.underlying22 (WalkArith.wf_u64 (by unfold U64 at h; omega))
theorem zR (w : World) : (zeroValue 141).run Try.prog w = .ok (.pointer none) w := Try.zeroValue141 w
def keysC (B : Int → Nat) (L : List C0) : List (Int × Nat) := L.map fun c => (c.seq, B c.seq)
/-- What a call of a caller's may turn: its own blocks, told by their types. -/
def OnC (B0 b h bd bo : Nat) (w w' : World) : Prop := Only (fun k => k = b ∨ k = h ∨ (B0 ≤ k ∧ ∃ A, Blk w k 148 A) ∨ (bd ≤ k ∧ ∃ A, Blk w k 101 A) ∨ (bo ≤ k ∧ ∃ A, Blk w k 83 A)) w w'
/-- A caller: its struct in block b, its calls in the map h, each call in a block of its own. -/
structure CW (w : World) (B0 bd bo b h : Nat) (B : Int → Nat) (s : St) (vd vo : Value) (N : Nat) : Prop where
  blk : Blk w b 143 #[.int .u64 s.inc, .int .i64 s.wait, .int .i64 s.most, .int .i64 s.tries, .int .u64 s.last, .map (some h), vd, vo]
  mp : Ml.At layC Try.prog 22 w h (keysC B s.L) N
  cl : ∀ c ∈ s.L, Blk w (B c.seq) 148 (ccells c) ∧ B0 ≤ B c.seq
  inj : ∀ c ∈ s.L, ∀ d ∈ s.L, B c.seq = B d.seq → c.seq = d.seq
  du : w.ownsRow bd 101 2 vd s.du.length (rowsD s.du)
  ov : w.ownsRow bo 83 4 vo s.ov.length (rowsO s.ov)
  ge : B0 ≤ b ∧ B0 ≤ h ∧ B0 ≤ bd ∧ B0 ≤ bo
  sz : bd ≤ w.heap.size ∧ bo ≤ w.heap.size
  inv : SInv s
section
variable {w w' w1 : World} {B0 bd bo b h N : Nat} {B : Int → Nat} {s : St} {vd vo : Value}
theorem OnC.refl (B0 b h bd bo : Nat) (w : World) : OnC B0 b h bd bo w w := Only.refl _ _
theorem OnC.of_below (hb : Below w.heap.size w w') : OnC B0 b h bd bo w w' := Only.of_below hb
theorem OnC.trans (h1 : OnC B0 b h bd bo w w1) (h2 : OnC B0 b h bd bo w1 w') : OnC B0 b h bd bo w w' :=
  ⟨h2.os.trans h1.os, h2.tape.trans h1.tape, h2.output.trans h1.output, Nat.le_trans h1.size h2.size, fun k hk hne => by
    have e1 := h1.block k hk hne
    rw [← e1]
    refine h2.block k (Nat.lt_of_lt_of_le hk h1.size) fun hs => hne ?_
    unfold Blk at hs ⊢
    rwa [e1] at hs⟩
theorem OnC.step (h1 : OnC B0 b h bd bo w w1) (h2 : Below w1.heap.size w1 w') : OnC B0 b h bd bo w w' := h1.trans (.of_below h2)
theorem OnC.mono {bd' bo' : Nat} (h1 : OnC B0 b h bd' bo' w w') (e1 : bd ≤ bd') (e2 : bo ≤ bo') : OnC B0 b h bd bo w w' := Only.mono h1 fun k _ hs => by
  rcases hs with e | e | e | e | e
  · exact .inl e
  · exact .inr (.inl e)
  · exact .inr (.inr (.inl e))
  · exact .inr (.inr (.inr (.inl ⟨by omega, e.2⟩)))
  · exact .inr (.inr (.inr (.inr ⟨by omega, e.2⟩)))
theorem OnC.drew (h1 : OnC B0 b h bd bo w w') : OnC B0 b h bd bo w w'.drew := Only.drew h1
theorem blk_ne {k : Nat} {T T' : TypeId} {A A' : Array Value} (h1 : Blk w k T A) (h2 : Blk w k T' A') : T = T' := by
  unfold Blk at h1 h2
  rw [h1] at h2
  injection h2 with h2
  injection h2
theorem at_ne {L : List (Int × Nat)} (m : Ml.At layC Try.prog 22 w h L N) {k : Nat} {T : TypeId} {A : Array Value} (hk : Blk w k T A) : h ≠ k := fun e => by subst e; exact m.no_cells hk
/-- What leaves the caller's blocks leaves the caller. -/
theorem CW.only {S : Nat → Prop} (c : CW w B0 bd bo b h B s vd vo N) (o : Only S w w') (h1 : ¬ S b) (h2 : ¬ S h) (h3 : ∀ x ∈ s.L, ¬ S (B x.seq)) (h4 : ∀ g, vd.ownBlock = some g → ¬ S g) (h5 : ∀ g, vo.ownBlock = some g → ¬ S g) : CW w' B0 bd bo b h B s vd vo N :=
  ⟨c.blk.only o h1, c.mp.only o h2, fun x hx => ⟨(c.cl x hx).1.only o (h3 x hx), (c.cl x hx).2⟩, c.inj, owns_only c.du o h4, owns_only c.ov o h5, c.ge, ⟨Nat.le_trans c.sz.1 o.size, Nat.le_trans c.sz.2 o.size⟩, c.inv⟩
theorem CW.below (c : CW w B0 bd bo b h B s vd vo N) (hb : Below w.heap.size w w') : CW w' B0 bd bo b h B s vd vo N :=
  c.only (S := fun _ => False) (.of_below hb) id id (fun _ _ => id) (fun _ _ => id) (fun _ _ => id)
theorem CW.alloc (c : CW w B0 bd bo b h B s vd vo N) (o : Obj) : CW (w.alloc o) B0 bd bo b h B s vd vo N := c.below ((Below.refl _ _).alloc (Nat.le_refl _) o)
theorem CW.drew (c : CW w B0 bd bo b h B s vd vo N) : CW w.drew B0 bd bo b h B s vd vo N := c.below (Below.refl _ w).drew
theorem CW.c0 (c : CW w B0 bd bo b h B s vd vo N) : w.cell? ⟨b, 0, none⟩ = some (.int .u64 s.inc) := by rw [c.blk.cell 0]; rfl
theorem CW.c1 (c : CW w B0 bd bo b h B s vd vo N) : w.cell? ⟨b, 1, none⟩ = some (.int .i64 s.wait) := by rw [c.blk.cell 1]; rfl
theorem CW.c2 (c : CW w B0 bd bo b h B s vd vo N) : w.cell? ⟨b, 2, none⟩ = some (.int .i64 s.most) := by rw [c.blk.cell 2]; rfl
theorem CW.c3 (c : CW w B0 bd bo b h B s vd vo N) : w.cell? ⟨b, 3, none⟩ = some (.int .i64 s.tries) := by rw [c.blk.cell 3]; rfl
theorem CW.c4 (c : CW w B0 bd bo b h B s vd vo N) : w.cell? ⟨b, 4, none⟩ = some (.int .u64 s.last) := by rw [c.blk.cell 4]; rfl
theorem CW.c5 (c : CW w B0 bd bo b h B s vd vo N) : w.cell? ⟨b, 5, none⟩ = some (.map (some h)) := by rw [c.blk.cell 5]; rfl
theorem CW.c6 (c : CW w B0 bd bo b h B s vd vo N) : w.cell? ⟨b, 6, none⟩ = some vd := by rw [c.blk.cell 6]; rfl
theorem CW.c7 (c : CW w B0 bd bo b h B s vd vo N) : w.cell? ⟨b, 7, none⟩ = some vo := by rw [c.blk.cell 7]; rfl
theorem CW.fz (c : CW w B0 bd bo b h B s vd vo N) : ∀ o, w.frozen? ⟨b, o, none⟩ = false := c.blk.frozen
theorem CW.hb (c : CW w B0 bd bo b h B s vd vo N) : h ≠ b := at_ne c.mp c.blk
theorem CW.dslice (c : CW w B0 bd bo b h B s vd vo N) : ∃ p cap, vd = .slice p s.du.length cap := owns_slice c.du
theorem CW.oslice (c : CW w B0 bd bo b h B s vd vo N) : ∃ p cap, vo = .slice p s.ov.length cap := owns_slice c.ov
theorem CW.du_ty (c : CW w B0 bd bo b h B s vd vo N) {g : Nat} (hg : vd.ownBlock = some g) : ∃ A, Blk w g 101 A ∧ bd ≤ g := by obtain ⟨A, h1, h2, _⟩ := owns_type c.du hg; exact ⟨A, h1, h2⟩
theorem CW.ov_ty (c : CW w B0 bd bo b h B s vd vo N) {g : Nat} (hg : vo.ownBlock = some g) : ∃ A, Blk w g 83 A ∧ bo ≤ g := by obtain ⟨A, h1, h2, _⟩ := owns_type c.ov hg; exact ⟨A, h1, h2⟩
/-- What turns the caller's blocks alone leaves what lies below. -/
theorem OnC.below (c : CW w B0 bd bo b h B s vd vo N) (o : OnC B0 b h bd bo w w') (hB : B0 ≤ w.heap.size) : Below B0 w w' := Only.below o hB fun k hs => by
  have := c.ge
  rcases hs with e | e | e | e | e
  · omega
  · omega
  · exact e.1
  · omega
  · omega
end
section
variable {w w' w1 : World} {L : List (Int × Nat)} {h N : Nat}
/-- What the map yields for a key: the call's block, or nothing. -/
theorem mp_hit (m : Ml.At layC Try.prog 22 w h L N) {a : Int × Nat} (ha : a ∈ L) (hx : U64 a.1) :
    (Instr.lookup 140 (.map (some h)) (.int .u64 a.1) false).run Try.prog w = .ok (.pointer (some ⟨a.2, 0, none⟩)) w :=
  m.at kdR Try.underlying140 (zR w) (zd := .lit (.int .i64 (-1))) rfl ha (keyR hx)
theorem mp_miss (m : Ml.At layC Try.prog 22 w h L N) {x : Int} (ha : ¬ ∃ a ∈ L, a.1 = x) (hx : U64 x) :
    (Instr.lookup 140 (.map (some h)) (.int .u64 x) false).run Try.prog w = .ok (.pointer none) w := by
  obtain ⟨D, o, h1, h2, h3⟩ := m
  obtain ⟨v, ps, hr, hv⟩ := World.ownsMap.lookup o kdR Try.underlying140 (zR w) (zd := .lit (.int .i64 (-1))) rfl (keyR hx)
  have hf : Maps.has D (KR x) = false := by
    cases hh : Maps.has D (KR x) with
    | false => rfl
    | true =>
      obtain ⟨a, h4, h5⟩ := (h2 _).1 hh
      exact absurd ⟨a, h4, by have : KR a.1 = KR x := h5; unfold KR at this; injection this⟩ ha
  rw [atKey_of_not_has hf] at hv
  rw [hr, ptE_none hv]
end
theorem keys_mem {B : Int → Nat} {L : List C0} {c : C0} (hc : c ∈ L) : (c.seq, B c.seq) ∈ keysC B L := List.mem_map.2 ⟨c, hc, rfl⟩
theorem keys_has {B : Int → Nat} {L : List C0} {x : Int} : (∃ a ∈ keysC B L, a.1 = x) ↔ ∃ c ∈ L, c.seq = x := by
  unfold keysC
  constructor
  · rintro ⟨a, ha, rfl⟩; obtain ⟨c, hc, rfl⟩ := List.mem_map.1 ha; exact ⟨c, hc, rfl⟩
  · rintro ⟨c, hc, rfl⟩; exact ⟨_, List.mem_map.2 ⟨c, hc, rfl⟩, rfl⟩
theorem keys_filter [DecidableEq Lit] {B : Int → Nat} {L : List C0} {x : Int} : (keysC B L).filter (fun g => !(decide (layC.key g = KR x))) = keysC B (L.filter (fun c => !(c.seq == x))) := by
  unfold keysC
  rw [List.filter_map]
  congr 1
  refine List.filter_congr fun c _ => ?_
  have : (decide (layC.key (c.seq, B c.seq) = KR x)) = (c.seq == x) := by
    show decide (KR c.seq = KR x) = _
    by_cases h : c.seq = x
    · simp [h]
    · rw [decide_eq_false (kr_ne h)]; simp [h]
  simp [this]
theorem keys_ris {B : Int → Nat} {L : List C0} (h : L.Pairwise (fun a b => a.seq < b.seq)) : (keysC B L).Pairwise (fun a b => layC.key a ≠ layC.key b) := by
  unfold keysC
  rw [List.pairwise_map]
  exact h.imp fun {a b} hab => kr_ne (by show ¬ a.seq = b.seq; omega)
/-! ### place, time, made -/
set_option maxRecDepth 100000 in
theorem place_any (n : Int) (w : World) : Calls Try.prog 57 #[.int .i64 n] w fun e w' => e = .returned (.bool (placeB n)) ∧ w' = w := by
  unfold placeB
  by_cases h1 : 0 ≤ n
  · by_cases h2 : n < 1024
    · simp only [h1, h2, decide_true, Bool.and_self]
      go_enter Try.func57, Try.ntmps57
      go_wp2_with fail
      go_ret
      exact ⟨rfl, rfl⟩
    · simp only [h1, h2, decide_true, decide_false, Bool.and_false]
      go_enter Try.func57, Try.ntmps57
      go_wp2_with fail
      go_ret
      exact ⟨rfl, rfl⟩
  · simp only [h1, decide_false, Bool.false_and]
    go_enter Try.func57, Try.ntmps57
    go_wp2_with fail
    go_ret
    exact ⟨rfl, rfl⟩
set_option maxRecDepth 100000 in
theorem time_any (n : Int) (w : World) : Calls Try.prog 65 #[.int .i64 n] w fun e w' => e = .returned (.bool (timeB n)) ∧ w' = w := by
  unfold timeB
  by_cases h1 : 0 ≤ n
  · by_cases h2 : n ≤ 17592186044416
    · simp only [h1, h2, decide_true, Bool.and_self]
      go_enter Try.func65, Try.ntmps65
      go_wp2_with fail
      go_ret
      exact ⟨rfl, rfl⟩
    · simp only [h1, h2, decide_true, decide_false, Bool.and_false]
      go_enter Try.func65, Try.ntmps65
      go_wp2_with fail
      go_ret
      exact ⟨rfl, rfl⟩
  · simp only [h1, decide_false, Bool.false_and]
    go_enter Try.func65, Try.ntmps65
    go_wp2_with fail
    go_ret
    exact ⟨rfl, rfl⟩
set_option maxRecDepth 100000 in
theorem made_nil (w : World) : Calls Try.prog 64 #[.pointer none] w fun e w' => e = .returned (.bool false) ∧ w' = w := by
  go_enter Try.func64, Try.ntmps64
  go_wp2_with fail
  go_ret
  exact ⟨rfl, rfl⟩
theorem mapnil (h : Nat) (w : World) : (binOp .neq 140 (.map (some h)) (.map none)).run Try.prog w = .ok (.bool true) w := by kernel_rfl
set_option maxRecDepth 100000 in
theorem made_any {w : World} {B0 bd bo b h N : Nat} {B : Int → Nat} {s : St} {vd vo : Value} (c : CW w B0 bd bo b h B s vd vo N) : Calls Try.prog 64 #[.pointer (some ⟨b, 0, none⟩)] w fun e w' => e = .returned (.bool true) ∧ w' = w := by
  have c5 := c.c5
  have hm := mapnil h w
  clear c
  go_enter Try.func64, Try.ntmps64
  go_wp2_with fail
  go_ret
  exact ⟨rfl, rfl⟩
end Go.Proofs.Ytgdgonmhgpflcaa
