
/- slices.Sorted(maps.Keys(m)) at a map keyed by uint64, joined: a new row of the keys, each once, rising. No condition but that they are not too many. -/
import Derived.Test.YtfjadphgjjlhiaaSoK
namespace Go.Proofs.Ytfjadphgjjlhiaa
open Go.RowKit Sou Sok Go.Maps
set_option linter.unusedVariables false
set_option linter.unusedSimpArgs false
set_option maxRecDepth 100000 in
theorem keys_u (b : Option Nat) (w : World) : Calls Try.prog 31 #[.map b] w fun e w' => e = .returned (.func (.func 40) #[] #[.pointer (some ⟨w.heap.size, 0, none⟩)]) ∧ w' = w.alloc (.cells #[.map b] 55) := by
  go_enter Try.func31, Try.ntmps31
  go_wp2
  go_ret
  exact ⟨rfl, rfl⟩
def CkPost {H : Type} (w : World) (D0 : DataW H) (e : Ending) (w' : World) : Prop := ∃ v ss, e = .returned v ∧ KeysAll D0 ss ∧ w'.ownsRow w.heap.size 29 1 v ss.length (ss.map (Value.int .u64)) ∧ (v = .slice none 0 0 ↔ ss = []) ∧ Below w.heap.size w w'
theorem appendKeys_u {H : Type} {Bm b nn : Nat} {D0 : DataW H} {R : Value → Option (DataW H × List MemPlace)} {w : World} (hBm : Bm < w.heap.size)
    (hm : w.cell? ⟨Bm, 0, none⟩ = some (.map (some b))) (hown : w.ownsMap Try.prog 29 R b nn D0) (hN : Maps.size D0 ≤ 1000000) :
    Calls Try.prog 42 #[.slice none 0 0, .func (.func 40) #[] #[.pointer (some ⟨Bm, 0, none⟩)]] w (CkPost w D0) :=
  callsIn_wide.1 (appendSeq_u 3 (Nat.le_refl _) 40 _ (enters_of Try.func40 (by kernel_rfl) rfl) _ _ _ hN w (keys_stops_u 2 (by decide) Bm b nn D0 w hBm hm hown))
set_option maxRecDepth 100000 in
theorem collectKeys_u {H : Type} {Bm b nn : Nat} {D0 : DataW H} {R : Value → Option (DataW H × List MemPlace)} {w : World} (hBm : Bm < w.heap.size)
    (hm : w.cell? ⟨Bm, 0, none⟩ = some (.map (some b))) (hown : w.ownsMap Try.prog 29 R b nn D0) (hN : Maps.size D0 ≤ 1000000) :
    Calls Try.prog 38 #[.func (.func 40) #[] #[.pointer (some ⟨Bm, 0, none⟩)]] w (CkPost w D0) := by
  have HC := Lib.hid (appendKeys_u hBm hm hown hN)
  clear hBm hm hown hN
  go_enter Try.func38, Try.ntmps38
  go_wp2_with (go_at_call 42; ((with_reducible refine HC.out.mono ?_); rintro e w' ⟨v, ss, rfl, hq⟩))
  go_ret
  exact ⟨v, ss, rfl, hq⟩
def SkPost {H : Type} (w : World) (D0 : DataW H) (e : Ending) (w' : World) : Prop := ∃ (v : Value) (L : List Int), e = .returned v ∧ L.Pairwise (· < ·) ∧ (∀ x, x ∈ L ↔ has D0 (.int .u64 x) = true) ∧ L.length ≤ Maps.size D0 ∧ w'.ownsRow w.heap.size 29 1 v L.length (L.map (Value.int .u64)) ∧ (v = .slice none 0 0 ↔ L = []) ∧ Below w.heap.size w w'
theorem sk_of {H : Type} {w w1 w2 : World} {D0 : DataW H} {g cap : Nat} {cur : Array Value} {ss : List Int} (hk : KeysAll D0 ss) (hbase : w.heap.size ≤ g) (hcap : ss.length ≤ cap) (hmax : cap ≤ maxLen) (hsz : cur.size = cap * 1)
    (hd : cur.toList.take (ss.length * 1) = ss.map (Value.int .u64)) (hb : Below w.heap.size w w1) (hgl : g < w1.heap.size) (hpos : ss ≠ [])
    (hp : PdPost w1 g 0 ss.length ss.toArray (cur.toList.drop ss.length) (.returned (.tuple #[])) w2) : SkPost w D0 (.returned (.slice (some ⟨g, 0, none⟩) ss.length cap)) w2 := by
  obtain ⟨_, R, hperm, hsort, hU⟩ := hp
  have hRs : R.size = ss.length := by have := hperm.1; simpa using this
  have hpm : R.toList.Perm ss := by
    have := hperm.2.2
    simpa [Array.extract_eq_self_of_le, hRs] using this
  have hnd : R.toList.Nodup := hpm.nodup_iff.2 hk.1
  have hlen : R.toList.length = ss.length := by simpa using hRs
  refine ⟨.slice (some ⟨g, 0, none⟩) ss.length cap, R.toList, rfl, ?_, fun x => by rw [← hk.2.1 x]; exact hpm.mem_iff, by rw [hlen]; exact hk.2.2, ?_, ?_, ?_⟩
  · refine List.pairwise_iff_getElem.2 fun i j hi hj hij => ?_
    have h1 := hsort i j (Nat.zero_le _) hij (by simpa [hRs] using hj)
    rw [getElem!_pos R i (by simpa using hi), getElem!_pos R j (by simpa using hj)] at h1
    have h2 : ¬ R[j]'(by simpa using hj) < R[i]'(by simpa using hi) := by simpa [Go.Sort.ltInt] using h1
    have h3 : R.toList[i] ≠ R.toList[j] := (List.pairwise_iff_getElem.1 hnd) i j hi hj hij
    simp only [Array.getElem_toList] at h3 ⊢
    omega
  · have hblk : w2.heap[g]? = some (.cells (R.map (Value.int .u64) ++ (cur.toList.drop ss.length).toArray) 29 (0, 0)) := hU.r
    refine ⟨by simp, .inr ⟨g, cap, _, by rw [hlen], hbase, hblk, by rw [hlen]; exact hcap, hmax, ?_, ?_⟩⟩
    · have hc : cur.toList.length = cap := by simpa using hsz
      simp [hRs] at hc ⊢; omega
    · simp [hRs]
  · constructor
    · intro e; cases e
    · intro e; rw [e] at hlen; exact absurd (List.eq_nil_of_length_eq_zero hlen.symm) hpos
  · exact hb.trans (hU.o.below hb.size (fun k e => by subst e; exact hbase))
set_option maxRecDepth 100000 in
set_option maxHeartbeats 2000000 in
theorem sortedKeys_u {H : Type} {Bm b nn : Nat} {D0 : DataW H} {R : Value → Option (DataW H × List MemPlace)} {w : World} (hBm : Bm < w.heap.size)
    (hm : w.cell? ⟨Bm, 0, none⟩ = some (.map (some b))) (hown : w.ownsMap Try.prog 29 R b nn D0) (hN : Maps.size D0 ≤ 1000000) :
    Calls Try.prog 30 #[.func (.func 40) #[] #[.pointer (some ⟨Bm, 0, none⟩)]] w (SkPost w D0) := by
  have HC := Lib.hid (collectKeys_u hBm hm hown hN)
  have HN := Lib.hid hN
  clear hBm hm hown hN
  go_enter Try.func30, Try.ntmps30
  go_upto_region 2 with (go_at_call 38; ((with_reducible refine HC.out.mono ?_); rintro e w1 ⟨v, ss, rfl, hk, hrow, hnil, hb⟩))
  have HK := Lib.hid (And.intro hk (And.intro hnil hb))
  clear HC hk hnil hb
  rcases hrow.2 with ⟨rfl, hz⟩ | ⟨g, cap, cur, rfl, hbase, hgb, r1, r2, r3, r4⟩
  · have hss : ss = [] := List.eq_nil_of_length_eq_zero hz
    have HR := Lib.hid (And.intro hrow hss)
    clear hrow hz hss
    go_wp2_with (go_at_call 39; ((with_reducible refine (sort_nil _ _ _).mono ?_); rintro e w' ⟨rfl, rfl⟩))
    go_ret
    obtain ⟨hrow, rfl⟩ := HR.out
    exact ⟨_, [], rfl, List.Pairwise.nil, HK.out.1.2.1, Nat.zero_le _, hrow, by simp, HK.out.2.2⟩
  · have hpos : ss ≠ [] := fun e => by have := HK.out.2.1.2 e; cases this
    have hUR : UR w1 g ss.toArray (cur.toList.drop ss.length) := by
      show w1.heap[g]? = _
      rw [hgb]
      congr 2
      apply Array.ext'
      rw [← List.take_append_drop (ss.length * 1) cur.toList, r4]
      simp
    have HS := Lib.hid (sort_u (cap := cap) hUR (by simp) (show ss.length ≤ 1000000 from Nat.le_trans HK.out.1.2.2 HN.out))
    have HF := Lib.hid (fun w2 hp => sk_of (w2 := w2) HK.out.1 hbase r1 r2 r3 r4 HK.out.2.2 (Array.getElem?_eq_some_iff.1 hgb).1 hpos hp)
    clear hrow hbase hgb r1 r2 r3 r4 hpos hUR HK HN
    go_wp2_with (go_at_call 39; ((with_reducible refine HS.out.mono ?_); rintro e w' ⟨rfl, hq⟩))
    go_ret
    exact HF.out _ ⟨rfl, hq⟩
end Go.Proofs.Ytfjadphgjjlhiaa
