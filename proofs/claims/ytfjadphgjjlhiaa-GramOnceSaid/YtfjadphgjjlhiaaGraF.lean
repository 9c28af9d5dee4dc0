
/- The walk of a net's Send. No condition but that the net is one, and not beyond any bound. -/
import Derived.Test.YtfjadphgjjlhiaaGraE
import Derived.Laws.AppendOwnNone
namespace Go.Proofs.Ytfjadphgjjlhiaa
open Go.RowKit Go.Maps Gr Sok
set_option linter.unusedVariables false
set_option linter.unusedSimpArgs false
namespace Gr
/-- Places handed in: a nil slice, or a row of ints. -/
def To (w : World) (p : Option Addr) (cap : Nat) (tos : List Int) : Prop := (p = none ∧ tos = [] ∧ cap = 0) ∨ ∃ g o, p = some ⟨g, o, none⟩ ∧ ∀ i, i < tos.length → w.cell? ⟨g, o + i, none⟩ = some (.int .i64 tos[i]!)
theorem To.pl {w : World} {p : Option Addr} {cap : Nat} {tos : List Int} (h : To w p cap tos) : Pl w p tos := by
  rcases h with ⟨_, h, _⟩ | h
  · exact .inl h
  · exact .inr h
theorem To.below {w w' : World} {p : Option Addr} {cap : Nat} {tos : List Int} (h : To w p cap tos) (hb : Below w.heap.size w w') (hlt : ∀ g o, p = some ⟨g, o, none⟩ → g < w.heap.size) : To w' p cap tos := by
  rcases h with h | ⟨g, o, hp, hc⟩
  · exact .inl h
  · exact .inr ⟨g, o, hp, fun i hi => (hb.cell (p := ⟨g, o + i, none⟩) (hlt g o hp)).trans (hc i hi)⟩
theorem To.only {S : Nat → Prop} {w w' : World} {p : Option Addr} {cap : Nat} {tos : List Int} (h : To w p cap tos) (ho : Only S w w') (hlt : ∀ g o, p = some ⟨g, o, none⟩ → g < w.heap.size ∧ ¬ S g) : To w' p cap tos := by
  rcases h with h | ⟨g, o, hp, hc⟩
  · exact .inl h
  · refine .inr ⟨g, o, hp, fun i hi => ?_⟩
    rw [← hc i hi]
    exact World.cell?_of_block (ho.block g (hlt g o hp).1 (hlt g o hp).2)
/-- What a Send lays. -/
def laid (last fr : Int) (tx : ByteArray) (tos : List Int) (i : Nat) : List G := (List.range i).map fun (j : Nat) => ⟨last + j + 1, fr, tos[j]!, tx⟩
theorem laid_succ (last fr : Int) (tx : ByteArray) (tos : List Int) (i : Nat) : laid last fr tx tos (i + 1) = laid last fr tx tos i ++ [⟨last + i + 1, fr, tos[i]!, tx⟩] := by
  unfold laid; rw [List.range_succ, List.map_append]; rfl
theorem row_one (w : World) (x : Int) (T : TypeId) : (w.alloc (.cells #[.int .i64 x] T)).ownsRow w.heap.size T 1 (.slice (some ⟨w.heap.size, 0, none⟩) 1 1) 1 [.int .i64 x] :=
  ⟨rfl, .inr ⟨w.heap.size, 1, #[.int .i64 x], rfl, Nat.le_refl _, World.alloc_heap_new w _, Nat.le_refl _, by unfold maxLen; decide, rfl, rfl⟩⟩
/-- A row that is owned is readable. -/
theorem pl_own {w : World} {base : Nat} {T : TypeId} {v : Value} {xs : List Int} {n : Nat} (h : w.ownsRow base T 1 v n (xs.map (Value.int .i64))) (hn : xs.length = n) : ∃ p cap, v = .slice p n cap ∧ Pl w p xs := by
  rcases h.2 with ⟨rfl, h0⟩ | ⟨g, cap, cur, rfl, _, hg, _, _, _, ht⟩
  · subst h0; exact ⟨none, 0, rfl, .inl (List.eq_nil_of_length_eq_zero hn)⟩
  · refine ⟨_, cap, rfl, .inr ⟨g, 0, rfl, fun i hi => ?_⟩⟩
    have hi2 : i < cur.toList.length := by
      have := congrArg List.length ht
      simp at this; simp; omega
    have h1 : cur.toList[i]? = some (.int .i64 xs[i]!) := by
      have h2 : (cur.toList.take (n * 1))[i]? = (xs.map (Value.int .i64))[i]? := by rw [ht]
      rw [List.getElem?_take] at h2
      rw [if_pos (by omega)] at h2
      rw [h2, List.getElem?_map, getElem!_pos xs i hi, List.getElem?_eq_getElem hi]; rfl
    rw [show (0 + i) = i by omega]
    simp [World.cell?, hg]
    simpa using h1
end Gr
theorem info_i64 : (Try.prog.info? 3).map (fun i => (i.zero, i.size, i.bytes)) = some (some (.int .i64 0), 1, 8) := by kernel_rfl
set_option maxRecDepth 100000 in
set_option maxHeartbeats 1000000 in
theorem send_nil {w : World} (fr : Int) (tx : ByteArray) {p : Option Addr} {m cap : Nat} {tos : List Int} (ht : To w p cap tos) (hm : tos.length = m) (hmx : m ≤ 100000) (hlt : ∀ g o, p = some ⟨g, o, none⟩ → g < w.heap.size) :
    Calls Try.prog 9 #[.pointer none, .int .i64 fr, .string tx, .slice p m cap] w (MkPost w (.tuple #[.int .i64 0, .int .i64 1])) := by
  have HT := Lib.hid (ht.below ((Below.refl _ w).alloc (Nat.le_refl _) (.cells #[.int .i64 fr] 3)) hlt)
  have HM := Lib.hid (And.intro hm hmx)
  clear ht hm hmx hlt
  go_enter Try.func9, Try.ntmps9
  obtain ⟨i0, hi, hz0, hz1, hz2⟩ := info_parts info_i64
  have HII := Lib.hid (And.intro hi (And.intro hz0 (And.intro hz1 hz2)))
  have HR := Lib.hid (row_one w fr 3)
  clear hi hz0 hz1 hz2
  go_upto_region 1 with fail
  go_cut [10] (fun u wc => u = .int .i64 1 ∧ Below w.heap.size w wc)
  case first =>
    rcases HT.out with ⟨rfl, htn, hc0⟩ | ⟨g, o, rfl, hc⟩
    · have hm0 : m = 0 := by rw [← HM.out.1, htn]; rfl
      subst hm0 hc0 htn
      have HPL : Hid (∀ W : World, W.ownsRow w.heap.size 3 1 (.slice (some ⟨w.heap.size, 0, none⟩) 1 1) 1 [.int .i64 fr] → Pl W (some ⟨w.heap.size, 0, none⟩) [fr]) := Lib.hid fun W h => by
        obtain ⟨p2, c2, hv, hp⟩ := pl_own (xs := [fr]) h rfl
        injection hv with h1 h2 h3
        rw [h1]; exact hp
      go_wp2_with (first | (at_builtin; refine wpList_append_own_none rfl _ _ 25 rfl w.heap.size 3 i0 1 Try.underlying25 HII.out.1 _ 1 _ rfl HR.out rfl ?_) | (go_at_call 27; ((with_reducible refine (may_nil _ _).mono ?_); rintro e w' ⟨rfl, rfl⟩)))
      go_meet
      exact ⟨rfl, (Below.refl _ _).alloc (Nat.le_refl _) _⟩
    · have HL : Hid ((tos.map (Value.int .i64)).length = m * 1) := Lib.hid (by simp [HM.out.1])
      have HNEW : Hid (∀ j u, (tos.map (Value.int .i64))[j]? = some u → (w.alloc (.cells #[.int .i64 fr] 3)).cell? ((⟨g, o, none⟩ : Addr).add j) = some u) := Lib.hid fun j u hj => by
        have hadd : (⟨g, o, none⟩ : Addr).add j = ⟨g, o + j, none⟩ := by unfold Addr.add; split <;> simp_all
        have hjl : j < tos.length := by
          rcases Nat.lt_or_ge j tos.length with h | h
          · exact h
          · rw [List.getElem?_eq_none (by simpa using h)] at hj; cases hj
        rw [hadd, hc j hjl, ← hj, List.getElem?_map, List.getElem?_eq_getElem hjl, getElem!_pos tos j hjl]; rfl
      have H1 : Hid (∀ u ∈ tos.map (Value.int .i64), u.oneCell' = true) := Lib.hid (by simp [Value.oneCell'])
      have H63 : Hid (1 + m ≤ maxLen ∧ (1 + m) * 8 ≤ 140737488355328) := Lib.hid (by have := HM.out.2; unfold maxLen; omega)
      have HF : Hid (∀ v2 w2, w2.ownsRow w.heap.size 3 1 v2 (1 + m) ([.int .i64 fr] ++ tos.map (Value.int .i64)) → (w.alloc (.cells #[.int .i64 fr] 3)).grownBy w2 (Value.slice (some ⟨w.heap.size, 0, none⟩) 1 1).ownBlock → (∃ p2 c2, v2 = .slice p2 (1 + m) c2 ∧ Pl w2 p2 (fr :: tos)) ∧ Below w.heap.size w w2) := Lib.hid fun v2 w2 h1 h2 => by
        refine ⟨pl_own (xs := fr :: tos) (by simpa using h1) (by simp [HM.out.1]; omega), ((Below.refl _ _).alloc (Nat.le_refl _) _).grown h2 (by simp) (fun k e => ?_)⟩
        simp [Value.ownBlock] at e; omega
      have HMM : Hid ((fr :: tos).length = 1 + m ∧ 1 + m ≤ 1000000) := Lib.hid (by have := HM.out; simp; omega)
      clear hc
      go_wp2_with (first | (at_builtin; refine wpList_append_own _ rfl _ _ _ rfl w.heap.size 3 i0 _ 1 _ Try.underlying25 HII.out.1 HII.out.2.1 HII.out.2.2.1 HII.out.2.2.2 rfl (by decide) _ 1 [.int .i64 fr] rfl HR.out ⟨g, o, none⟩ m cap (tos.map (Value.int .i64)) rfl HL.out HNEW.out H1.out H63.out.1 H63.out.2 (by simp) ?_; intro v2 w2 own2 gr2 _; obtain ⟨⟨p2, cp2, rfl, hpl⟩, hb2⟩ := HF.out v2 w2 own2 gr2; have HPL := Lib.hid hpl; have HB := Lib.hid hb2; clear own2 gr2 hpl hb2) | (go_at_call 27; ((with_reducible refine (may_nil _ _).mono ?_); rintro e w' ⟨rfl, rfl⟩)))
      go_meet
      exact ⟨rfl, HB.out⟩
  case rest =>
    obtain ⟨rfl, hb⟩ := hcut
    go_wp2_with fail
    go_ret2
    exact ⟨rfl, hb⟩
namespace Gr
/-- What a Send's code is. -/
def sc (B : Bool) (sz m len : Nat) : Int := if B then 2 else if 16384 < sz then 4 else if 4096 < m + len then 6 else 0
end Gr
def SnOk (w : World) (b h c : Nat) (last fr : Int) (tx : ByteArray) (tos : List Int) (m : Nat) (L : List G) (C : Int → Int → Bool) (N : Nat) (e : Ending) (w' : World) : Prop :=
  e = .returned (.tuple #[.int .i64 m, .int .i64 0]) ∧ NW w' b h c (last + m) (L ++ laid last fr tx tos m) C (N + m) ∧ Only (fun k => k = b ∨ k = h) w w'
def SnR (w : World) (b h c : Nat) (last fr : Int) (tx : ByteArray) (tos : List Int) (m : Nat) (L : List G) (C : Int → Int → Bool) (N : Nat) (u : Value) (wr : World) : Prop :=
  ∃ i : Nat, u = .int .i64 i ∧ i ≤ m ∧ NW wr b h c (last + i) (L ++ laid last fr tx tos i) C (N + i) ∧ Only (fun k => k = b ∨ k = h) w wr
def SnPost (w : World) (b h c : Nat) (last fr : Int) (tx : ByteArray) (tos : List Int) (m : Nat) (L : List G) (C : Int → Int → Bool) (N : Nat) (k : Int) (e : Ending) (w' : World) : Prop :=
  (k ≠ 0 → MkPost w (.tuple #[.int .i64 0, .int .i64 k]) e w') ∧ (k = 0 → SnOk w b h c last fr tx tos m L C N e w')
theorem may_k {w : World} {b h c N : Nat} {last : Int} {L : List G} {C : Int → Int → Bool} (n : NW w b h c last L C N) {p : Option Addr} {m cap : Nat} {xs : List Int} {B : Bool} {k : Int} (hk : (if B then 2 else 0) = k) (hB : xs.any bad = B) (hp : Pl w p xs) (hn : xs.length = m) (hm : m ≤ 1000000) :
    Calls Try.prog 27 #[.pointer (some ⟨b, 0, none⟩), .slice p m cap] w fun e w' => e = .returned (.int .i64 k) ∧ w' = w := by
  subst hk; exact may_any n hB hp hn hm
set_option maxRecDepth 100000 in
set_option maxHeartbeats 2000000 in
theorem send_any {w : World} {b h c N : Nat} {last : Int} {L : List G} {C : Int → Int → Bool} (n : NW w b h c last L C N) {fr : Int} {tx : ByteArray} {p : Option Addr} {m cap : Nat} {tos : List Int} (ht : To w p cap tos) (hm : tos.length = m) (hmx : m ≤ 100000)
    (hlt : ∀ g o, p = some ⟨g, o, none⟩ → g < w.heap.size ∧ ¬ (g = b ∨ g = h)) {B : Bool} (hB : (fr :: tos).any bad = B) (hL : L.length ≤ 4096) (hl : last + m ≤ 4611686018427387904) (hN : N + m ≤ 1000000) {k : Int} (hk : sc B tx.size m L.length = k) :
    Calls Try.prog 9 #[.pointer (some ⟨b, 0, none⟩), .int .i64 fr, .string tx, .slice p m cap] w (SnPost w b h c last fr tx tos m L C N k) := by
  have HT0 := Lib.hid ht
  have HLT := Lib.hid hlt
  have HT := Lib.hid (ht.below ((Below.refl _ w).alloc (Nat.le_refl _) (.cells #[.int .i64 fr] 3)) (fun g o e => (hlt g o e).1))
  have HM := Lib.hid (And.intro hm hmx)
  have HN := Lib.hid n
  have HBB := Lib.hid hB
  have HL := Lib.hid (And.intro hL (And.intro hl hN))
  have HK := Lib.hid hk
  obtain ⟨kc, hkc⟩ : ∃ kc : Int, (if B then 2 else 0) = kc := ⟨_, rfl⟩
  have HKC := Lib.hid hkc
  clear n ht hm hmx hlt hB hL hl hN hk hkc
  go_enter Try.func9, Try.ntmps9
  obtain ⟨i0, hi, hz0, hz1, hz2⟩ := info_parts info_i64
  have HII := Lib.hid (And.intro hi (And.intro hz0 (And.intro hz1 hz2)))
  have HR := Lib.hid (row_one w fr 3)
  clear hi hz0 hz1 hz2
  go_upto_region 1 with fail
  go_cut [10] (fun u wc => u = .int .i64 kc ∧ Below w.heap.size w wc)
  case first =>
    rcases HT.out with ⟨rfl, htn, hc0⟩ | ⟨g, o, rfl, hc⟩
    · have hm0 : m = 0 := by rw [← HM.out.1, htn]; rfl
      subst hm0 hc0 htn
      have HPL : Hid (∀ W : World, W.ownsRow w.heap.size 3 1 (.slice (some ⟨w.heap.size, 0, none⟩) 1 1) 1 [.int .i64 fr] → Pl W (some ⟨w.heap.size, 0, none⟩) [fr]) := Lib.hid fun W h => by
        obtain ⟨p2, c2, hv, hp⟩ := pl_own (xs := [fr]) h rfl
        injection hv with h1 h2 h3
        rw [h1]; exact hp
      go_wp2_with (first | (at_builtin; refine wpList_append_own_none rfl _ _ 25 rfl w.heap.size 3 i0 1 Try.underlying25 HII.out.1 _ 1 _ rfl HR.out rfl ?_) | (go_at_call 27; ((with_reducible refine ((may_k (m := 1) (cap := 1) (HN.out.alloc (.cells #[.int .i64 fr] 3)) HKC.out HBB.out (HPL.out _ HR.out) rfl (by decide))).mono ?_); rintro e w' ⟨rfl, rfl⟩)))
      go_meet
      exact ⟨rfl, (Below.refl _ _).alloc (Nat.le_refl _) _⟩
    · have HL : Hid ((tos.map (Value.int .i64)).length = m * 1) := Lib.hid (by simp [HM.out.1])
      have HNEW : Hid (∀ j u, (tos.map (Value.int .i64))[j]? = some u → (w.alloc (.cells #[.int .i64 fr] 3)).cell? ((⟨g, o, none⟩ : Addr).add j) = some u) := Lib.hid fun j u hj => by
        have hadd : (⟨g, o, none⟩ : Addr).add j = ⟨g, o + j, none⟩ := by unfold Addr.add; split <;> simp_all
        have hjl : j < tos.length := by
          rcases Nat.lt_or_ge j tos.length with h | h
          · exact h
          · rw [List.getElem?_eq_none (by simpa using h)] at hj; cases hj
        rw [hadd, hc j hjl, ← hj, List.getElem?_map, List.getElem?_eq_getElem hjl, getElem!_pos tos j hjl]; rfl
      have H1 : Hid (∀ u ∈ tos.map (Value.int .i64), u.oneCell' = true) := Lib.hid (by simp [Value.oneCell'])
      have H63 : Hid (1 + m ≤ maxLen ∧ (1 + m) * 8 ≤ 140737488355328) := Lib.hid (by have := HM.out.2; unfold maxLen; omega)
      have HF : Hid (∀ v2 w2, w2.ownsRow w.heap.size 3 1 v2 (1 + m) ([.int .i64 fr] ++ tos.map (Value.int .i64)) → (w.alloc (.cells #[.int .i64 fr] 3)).grownBy w2 (Value.slice (some ⟨w.heap.size, 0, none⟩) 1 1).ownBlock → (∃ p2 c2, v2 = .slice p2 (1 + m) c2 ∧ Pl w2 p2 (fr :: tos)) ∧ Below w.heap.size w w2) := Lib.hid fun v2 w2 h1 h2 => by
        refine ⟨pl_own (xs := fr :: tos) (by simpa using h1) (by simp [HM.out.1]; omega), ((Below.refl _ _).alloc (Nat.le_refl _) _).grown h2 (by simp) (fun k e => ?_)⟩
        simp [Value.ownBlock] at e; omega
      have HMM : Hid ((fr :: tos).length = 1 + m ∧ 1 + m ≤ 1000000) := Lib.hid (by have := HM.out; simp; omega)
      clear hc
      go_wp2_with (first | (at_builtin; refine wpList_append_own _ rfl _ _ _ rfl w.heap.size 3 i0 _ 1 _ Try.underlying25 HII.out.1 HII.out.2.1 HII.out.2.2.1 HII.out.2.2.2 rfl (by decide) _ 1 [.int .i64 fr] rfl HR.out ⟨g, o, none⟩ m cap (tos.map (Value.int .i64)) rfl HL.out HNEW.out H1.out H63.out.1 H63.out.2 (by simp) ?_; intro v2 w2 own2 gr2 _; obtain ⟨⟨p2, cp2, rfl, hpl⟩, hb2⟩ := HF.out v2 w2 own2 gr2; have HPL := Lib.hid hpl; have HB := Lib.hid hb2; clear own2 gr2 hpl hb2) | (go_at_call 27; ((with_reducible refine ((may_k (HN.out.below HB.out) HKC.out HBB.out HPL.out HMM.out.1 HMM.out.2)).mono ?_); rintro e w' ⟨rfl, rfl⟩)))
      go_meet
      exact ⟨rfl, HB.out⟩
  case rest =>
    obtain ⟨rfl, hb⟩ := hcut
    have HB := Lib.hid hb
    have HN1 := Lib.hid (HN.out.below hb)
    have HT1 := Lib.hid (HT0.out.below hb (fun g o e => (HLT.out g o e).1))
    clear hb HT
    cases B with
    | true =>
      have hk2 : k = 2 := HK.out.symm
      have hk3 : kc = 2 := HKC.out.symm
      subst hk2 hk3
      go_wp2_with fail
      go_ret2
      exact ⟨fun _ => ⟨rfl, HB.out⟩, fun h => absurd h (by decide)⟩
    | false =>
      have hk3 : kc = 0 := HKC.out.symm
      subst hk3
      by_cases hsz : 16384 < tx.size
      · have hsz' : (16384 : Int) < (tx.size : Int) := by omega
        have hk2 : k = 4 := by rw [← HK.out]; unfold sc; simp [hsz]
        subst hk2
        clear hsz
        go_wp2_with fail
        go_ret2
        exact ⟨fun _ => ⟨rfl, HB.out⟩, fun h => absurd h (by decide)⟩
      · have hsz' : ¬ (16384 : Int) < (tx.size : Int) := by omega
        have n1 := HN1.out.c1
        obtain ⟨D, o, o1, o2, o3⟩ := HN1.out.gm
        have HO := Lib.hid o
        have hlen : ((Maps.size D : Nat) : Int) = (L.length : Int) := by rw [o3]
        have es : IntKind.i64.wrap (4096 - (L.length : Int)) = 4096 - (L.length : Int) := by have := HL.out; rw [IntKind.wrap_i64]; omega
        clear o o1 o2 o3
        by_cases hfull : 4096 < m + L.length
        · have hfull' : (4096 : Int) - (L.length : Int) < (m : Int) := by omega
          have hk2 : k = 6 := by rw [← HK.out]; unfold sc; simp [hsz, hfull]
          subst hk2
          clear hsz hfull
          go_wp2_with (at_len; refine wpList_len_own _ rfl _ 55 rfl 29 33 Try.underlying55 _ h N D rfl HO.out ?_; rw [hlen])
          go_ret2
          exact ⟨fun _ => ⟨rfl, HB.out⟩, fun h => absurd h (by decide)⟩
        · have hfull' : ¬ (4096 : Int) - (L.length : Int) < (m : Int) := by omega
          have hk2 : k = 0 := by rw [← HK.out]; unfold sc; simp [hsz, hfull]
          subst hk2
          have HF := Lib.hid hfull
          clear hsz hfull
          go_upto_region 8 with (at_len; refine wpList_len_own _ rfl _ 55 rfl 29 33 Try.underlying55 _ h N D rfl HO.out ?_; rw [hlen])
          have HZ : Hid (SnR w b h c last fr tx tos m L C N (.int .i64 0) wc) := Lib.hid ⟨0, rfl, Nat.zero_le _, by simpa [laid] using HN1.out, Only.of_below HB.out⟩
          clear hsz' hfull' es hlen n1 HO HN1 HT1
          go_wp2_with fail
          go_loopw [39] (fun u wr => SnR w b h c last fr tx tos m L C N u wr) (fun u _ => ((m : Int) - intOf u).toNat)
          case atStart => exact HZ.out
          case round =>
            clear HZ
            obtain ⟨i, rfl, hi, hn, ho⟩ := hrel
            have HN2 := Lib.hid hn
            have HO2 := Lib.hid ho
            by_cases him : i < m
            · have him' : (i : Int) < (m : Int) := by omega
              have hi0 : (0 : Int) ≤ (i : Int) := by omega
              obtain ⟨g, o, rfl, hc⟩ : ∃ g o, p = some ⟨g, o, none⟩ ∧ ∀ i, i < tos.length → wr.cell? ⟨g, o + i, none⟩ = some (.int .i64 tos[i]!) := by
                rcases (HT0.out.only ho HLT.out) with ⟨_, h0, _⟩ | h1
                · have := HM.out.1; rw [h0] at this; simp at this; omega
                · exact h1
              have x0 := hc i (by have := HM.out; omega)
              have hbad : bad tos[i]! = false := by
                have hh := HBB.out
                rw [List.any_cons, Bool.or_eq_false_iff, List.any_eq_false] at hh
                have := hh.2 (tos[i]!) (by rw [getElem!_pos tos i (by have := HM.out; omega)]; exact List.getElem_mem _)
                simpa using this
              have hfr : bad fr = false := by
                have hh := HBB.out
                rw [List.any_cons, Bool.or_eq_false_iff] at hh
                exact hh.1
              obtain ⟨h1, h2⟩ := i64_of_bad (x := fr) (y := tos[i]!) (by unfold bad2; rw [hbad, hfr]; rfl)
              have hput : Calls Try.prog 28 #[.pointer (some ⟨b, 0, none⟩), .agg #[.int .u64 0, .int .i64 fr, .int .i64 tos[i]!, .string tx]] wr _ := put_any HN2.out ⟨0, fr, tos[i]!, tx⟩ (by have := HL.out; omega) (by have := HL.out; omega) h1 h2
              have HPUT := Lib.hid hput
              have HLS := Lib.hid (laid_succ last fr tx tos i)
              have HI := Lib.hid him
              have HE : Hid (wrap64 ((i : Int) + 1) = ((i + 1 : Nat) : Int)) := Lib.hid (Sou.w64n rfl (by have := HM.out; omega))
              clear hc hbad hfr h1 h2 hput hi hn ho him
              generalize tos[i]! = t at *
              go_wp2_with (go_at_call 28; ((with_reducible refine HPUT.out.mono ?_); rintro e w5 ⟨rfl, hn5, ho5⟩))
              have HZ : Hid (SnR w b h c last fr tx tos m L C N (.int .i64 ((i + 1 : Nat) : Int)) w5) := Lib.hid ⟨i + 1, rfl, HI.out, by
                rw [HLS.out, ← List.append_assoc, show last + ((i + 1 : Nat) : Int) = last + i + 1 by omega, ← Nat.add_assoc]; exact hn5, HO2.out.trans ho5⟩
              clear hn5 ho5
              go_roundw
              case rel => first | exact HZ.out | (rw [HE.out]; exact HZ.out)
              case measure => have := HI.out; first | (simp [intOf]; omega) | (rw [HE.out]; simp [intOf]; omega)
            · have him' : ¬ (i : Int) < (m : Int) := by omega
              obtain rfl : i = m := by omega
              clear hi hn ho him
              go_wp2_with fail
              go_ret2
              exact ⟨fun h => absurd rfl h, fun _ => ⟨rfl, HN2.out, HO2.out⟩⟩
end Go.Proofs.Ytfjadphgjjlhiaa
