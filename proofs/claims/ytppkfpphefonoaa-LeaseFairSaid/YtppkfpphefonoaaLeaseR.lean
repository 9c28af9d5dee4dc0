/- The walks of the document's leases. No condition but that numbers fit their kinds. -/
import Derived.Test.YtppkfpphefonoaaLeaseV
namespace Go.Proofs.Ytppkfpphefonoaa
open Go.RowKit Lea
set_option linter.unusedVariables false
namespace Lea
structure RS where
  w : Int
  inc : Int
  til : Int
def r3 (s : RS) : List Value := [.int .i64 s.w, .int .u64 s.inc, .int .i64 s.til]
theorem r3_len (s : RS) : (r3 s).length = 3 := rfl
def rof (s : Seat) : RS := if s.alive = true then ⟨s.w, s.inc, s.til⟩ else ⟨0, 0, 0⟩
def rc (len : Int) (L : List RS) (S : List Int) : Array Value := (.int .i64 len :: (L.flatMap r3 ++ S.map (Value.int .u64))).toArray
theorem rc_L {len : Int} {L : List RS} {S : List Int} {i : Nat} (h : i < L.length) {k : Nat} (hk : k < 3) : (rc len L S)[1 + i * 3 + k]? = (r3 L[i])[k]? := by
  have hl := flat_len r3 3 r3_len L
  unfold rc
  rw [List.getElem?_toArray, show 1 + i * 3 + k = (i * 3 + k) + 1 from by omega, List.getElem?_cons_succ, List.getElem?_append_left (by rw [hl]; omega)]
  exact flat_get r3 3 r3_len L i k h hk
theorem rc_S {len : Int} {L : List RS} {S : List Int} {i : Nat} (hL : L.length = 33) (h : i < S.length) : (rc len L S)[100 + i]? = some (.int .u64 S[i]) := by
  have hl := flat_len r3 3 r3_len L
  unfold rc
  rw [List.getElem?_toArray, show 100 + i = (99 + i) + 1 from by omega, List.getElem?_cons_succ, List.getElem?_append_right (by rw [hl]; omega), hl, show 99 + i - L.length * 3 = i from by omega]
  simp [h]
theorem rc_setS {len : Int} {L : List RS} {S : List Int} {i : Nat} (hL : L.length = 33) (v : Int) : (rc len L S).setIfInBounds (100 + i) (.int .u64 v) = rc len L (S.set i v) := by
  have hl := flat_len r3 3 r3_len L
  unfold rc
  rw [List.setIfInBounds_toArray, show 100 + i = (99 + i) + 1 from by omega, List.set_cons_succ, List.set_append_right _ _ (by rw [hl]; omega), hl, show 99 + i - L.length * 3 = i from by omega]
  simp [List.map_set]
theorem rc_set1 {len : Int} {L : List RS} {S : List Int} {i : Nat} (h : i < L.length) {k : Nat} (hk : k < 3) (v : Value) (y : RS) (hy : r3 y = (r3 L[i]).set k v) :
    (rc len L S).setIfInBounds (1 + i * 3 + k) v = rc len (L.set i y) S := by
  have hl := flat_len r3 3 r3_len L
  unfold rc
  rw [List.setIfInBounds_toArray, show 1 + i * 3 + k = (i * 3 + k) + 1 from by omega, List.set_cons_succ, List.set_append_left _ _ (by rw [hl]; omega), flat_set r3 3 r3_len L i k h v y hk hy]
theorem rc_setL {len : Int} {L : List RS} {S : List Int} {i : Nat} (h : i < L.length) (w inc til : Int) :
    (((rc len L S).setIfInBounds (1 + i * 3) (.int .i64 w)).setIfInBounds (1 + i * 3 + 1) (.int .u64 inc)).setIfInBounds (1 + i * 3 + 2) (.int .i64 til) = rc len (L.set i ⟨w, inc, til⟩) S := by
  have e0 := rc_set1 (len := len) (L := L) (S := S) h (k := 0) (by omega) (.int .i64 w) { L[i] with w := w } rfl
  rw [Nat.add_zero] at e0
  rw [e0]
  rw [rc_set1 (len := len) (L := L.set i { L[i] with w := w }) (S := S) (i := i) (by simpa using h) (k := 1) (by omega) (.int .u64 inc) { L[i] with w := w, inc := inc } (by simp [r3]), List.set_set]
  rw [rc_set1 (len := len) (L := L.set i _) (S := S) (i := i) (by simpa using h) (k := 2) (by omega) (.int .i64 til) ⟨w, inc, til⟩ (by simp [r3]), List.set_set]
/-- Who is alive bears its own number, and that is none. -/
def OwnNo (l : List Seat) : Prop := ∀ (k : Nat) (s : Seat), l[k]? = some s → s.alive = true → s.w = k ∧ 1 ≤ k
theorem OwnNo.set {l : List Seat} (h : OwnNo l) (k : Nat) (s : Seat) (hs : s.alive = true → s.w = k ∧ 1 ≤ k) : OwnNo (l.set k s) := by
  intro j t ht ha
  by_cases e : k = j
  · subst e
    by_cases hk : k < l.length
    · rw [List.getElem?_set_self hk] at ht
      cases ht; exact hs ha
    · rw [List.getElem?_eq_none (by simpa using Nat.le_of_not_lt hk)] at ht; cases ht
  · rw [List.getElem?_set_ne e] at ht; exact h j t ht ha
end Lea
/-- The document's leases lie in block b. -/
structure RL (w : World) (b : Nat) (len : Int) (l : List Seat) : Prop where
  blk : Blk w b 35 (rc len (l.map rof) (l.map Seat.seen))
  n : l.length = 33
  good : OwnNo l
  len1 : 1 ≤ len
  len2 : len ≤ 4294967296
theorem RL.L {w : World} {b : Nat} {len : Int} {l : List Seat} (h : RL w b len l) {k : Nat} (hk : k < 33) (j : Nat) (hj : j < 3) : w.cell? ⟨b, 1 + k * 3 + j, none⟩ = (r3 (rof (l[k]'(by have := h.n; omega))))[j]? := by
  have hn := h.n
  rw [h.blk.cell, rc_L (by simp; omega) hj]; simp
theorem RL.S {w : World} {b : Nat} {len : Int} {l : List Seat} (h : RL w b len l) {k : Nat} (hk : k < 33) : w.cell? ⟨b, 100 + k, none⟩ = some (.int .u64 (l[k]'(by have := h.n; omega)).seen) := by
  have hn := h.n
  rw [h.blk.cell, rc_S (by simpa using hn) (by simp; omega)]; simp
theorem RL.frozen {w : World} {b : Nat} {len : Int} {l : List Seat} (h : RL w b len l) (o : Nat) : w.frozen? ⟨b, o, none⟩ = false := h.blk.frozen o
theorem RL.only {w w' : World} {b : Nat} {len : Int} {l : List Seat} (h : RL w b len l) {S : Nat → Prop} (ho : Only S w w') (hs : ¬ S b) : RL w' b len l := ⟨h.blk.only ho hs, h.n, h.good, h.len1, h.len2⟩
theorem RL.below {w w' : World} {b : Nat} {len : Int} {l : List Seat} (h : RL w b len l) {B : Nat} (ho : Below B w w') (hs : b < B) : RL w' b len l := ⟨h.blk.belowB ho hs, h.n, h.good, h.len1, h.len2⟩
theorem RL.drew {w : World} {b : Nat} {len : Int} {l : List Seat} (h : RL w b len l) : RL w.drew b len l := ⟨h.blk.drew, h.n, h.good, h.len1, h.len2⟩
theorem RL.alloc {w : World} {b : Nat} {len : Int} {l : List Seat} (h : RL w b len l) (o : Obj) : RL (w.alloc o) b len l := ⟨h.blk.alloc o, h.n, h.good, h.len1, h.len2⟩
/-- A row, and who was seen, laid anew. -/
theorem RL.new {w w1 : World} {b : Nat} {len : Int} {l : List Seat} (hb : Blk w b 35 (rc len (l.map rof) (l.map Seat.seen))) (h : RL w1 b len l) {k : Nat} (hk : k < 33) (n inc til : Int) (s : Seat) (hr : rof s = ⟨n, inc, til⟩) (hg : s.alive = true → s.w = k ∧ 1 ≤ k) :
    RL ((((w.setCell ⟨b, 100 + k, none⟩ (.int .u64 s.seen)).setCell ⟨b, 1 + k * 3, none⟩ (.int .i64 n)).setCell ⟨b, 1 + k * 3 + 1, none⟩ (.int .u64 inc)).setCell ⟨b, 1 + k * 3 + 2, none⟩ (.int .i64 til)) b len (l.set k s) := by
  have hn := h.n
  refine ⟨?_, by simpa using hn, h.good.set k s hg, h.len1, h.len2⟩
  rw [List.map_set, List.map_set, hr, ← rc_setL (by simp; omega), ← rc_setS (by simpa using hn)]
  exact (((hb.set _ _).set _ _).set _ _).set _ _
theorem RL.row {w : World} {b : Nat} {len : Int} {l : List Seat} (h : RL w b len l) {k : Nat} (hk : k < 33) (n inc til : Int) (s : Seat) (hr : rof s = ⟨n, inc, til⟩) (hg : s.alive = true → s.w = k ∧ 1 ≤ k) (hs : s.seen = (l[k]'(by have := h.n; omega)).seen) :
    RL (((w.setCell ⟨b, 1 + k * 3, none⟩ (.int .i64 n)).setCell ⟨b, 1 + k * 3 + 1, none⟩ (.int .u64 inc)).setCell ⟨b, 1 + k * 3 + 2, none⟩ (.int .i64 til)) b len (l.set k s) := by
  have hn := h.n
  refine ⟨?_, by simpa using hn, h.good.set k s hg, h.len1, h.len2⟩
  have e : (l.map Seat.seen).set k s.seen = l.map Seat.seen := by
    rw [hs]; apply List.ext_getElem
    · simp
    · intro j h1 h2
      rw [List.getElem_set]
      split
      · rename_i e; subst e; simp
      · rfl
  rw [List.map_set, List.map_set, hr, e, ← rc_setL (by simp; omega)]
  exact ((h.blk.set _ _).set _ _).set _ _
/-- What Join answers, and leaves. -/
def RJoinPost (b : Nat) (len : Int) (l : List Seat) (w : World) (r : Bool) (c : Int) (l' : List Seat) (e : Ending) (w' : World) : Prop :=
  e = .returned (.tuple #[.bool r, .int .i64 c]) ∧ RL w' b len l' ∧ Only (· = b) w w'
set_option maxHeartbeats 1000000 in
theorem rjoin_bad {b : Nat} {len : Int} {l : List Seat} {w : World} (h : RL w b len l) (n inc now : Int) (hb : joinB len l n inc now = false) :
    Calls Try.prog 14 #[.pointer (some ⟨b, 0, none⟩), .int .i64 n, .int .u64 inc, .int .i64 now] w (RJoinPost b len l w false 2 l) := by
  have HH := Lib.hid h
  by_cases h1 : okW n = true
  · by_cases h2 : inc = 0
    · subst h2
      clear h hb
      go_enter Try.func14, Try.ntmps14
      go_wp2_with (first | (go_at_call 25; ((with_reducible refine (rworker_any _ _).mono ?_); rintro e w' ⟨rfl, rfl⟩)) | (go_at_call 55; ((with_reducible refine (rnow_any _ _).mono ?_); rintro e w' ⟨rfl, rfl⟩)))
      go_ret2
      exact ⟨rfl, HH.out, Only.refl _ _⟩
    · have h2' : (inc == 0) = false := by simpa using h2
      have h3 : okT now = false := by simpa [joinB, h1, h2'] using hb
      clear h hb h2
      go_enter Try.func14, Try.ntmps14
      go_wp2_with (first | (go_at_call 25; ((with_reducible refine (rworker_any _ _).mono ?_); rintro e w' ⟨rfl, rfl⟩)) | (go_at_call 55; ((with_reducible refine (rnow_any _ _).mono ?_); rintro e w' ⟨rfl, rfl⟩)))
      go_ret2
      exact ⟨rfl, HH.out, Only.refl _ _⟩
  · have h1' : okW n = false := by simpa using h1
    clear h hb h1
    go_enter Try.func14, Try.ntmps14
    go_wp2_with (first | (go_at_call 25; ((with_reducible refine (rworker_any _ _).mono ?_); rintro e w' ⟨rfl, rfl⟩)) | (go_at_call 55; ((with_reducible refine (rnow_any _ _).mono ?_); rintro e w' ⟨rfl, rfl⟩)))
    go_ret2
    exact ⟨rfl, HH.out, Only.refl _ _⟩
set_option maxHeartbeats 1000000 in
theorem rjoin_old {b : Nat} {len : Int} {l : List Seat} {w : World} (h : RL w b len l) (k : Nat) (hk : k < 33) (inc now : Int) (hb : joinB len l k inc now = true) (s : Seat) (hs : l[k]'(by have := h.n; omega) = s) (ho : inc < s.seen) :
    Calls Try.prog 14 #[.pointer (some ⟨b, 0, none⟩), .int .i64 k, .int .u64 inc, .int .i64 now] w (RJoinPost b len l w false 230 l) := by
  have HH := Lib.hid h
  simp only [joinB, Bool.and_eq_true, Bool.not_eq_true'] at hb
  obtain ⟨⟨h1, h2⟩, h3⟩ := hb
  have c0 : w.cell? ⟨b, 0, none⟩ = some (.int .i64 len) := h.blk.cell 0
  have d0 : w.cell? ⟨b, 1 + k * 3, none⟩ = some (.int .i64 (rof s).w) := by have := h.L hk 0 (by omega); rw [hs] at this; exact this
  have d1 : w.cell? ⟨b, 1 + k * 3 + 1, none⟩ = some (.int .u64 (rof s).inc) := by rw [h.L hk 1 (by omega), hs]; rfl
  have d2 : w.cell? ⟨b, 1 + k * 3 + 2, none⟩ = some (.int .i64 (rof s).til) := by rw [h.L hk 2 (by omega), hs]; rfl
  have d3 : w.cell? ⟨b, 100 + k, none⟩ = some (.int .u64 s.seen) := by rw [h.S hk, hs]
  have hf : ∀ o, w.frozen? ⟨b, o, none⟩ = false := h.frozen
  have hl1 := h.len1
  have hl2 := h.len2
  have hbw := h.blk.lt
  clear h hs
  go_enter Try.func14, Try.ntmps14
  go_wp2_with (first | (go_at_call 25; ((with_reducible refine (rworker_any _ _).mono ?_); rintro e w' ⟨rfl, rfl⟩)) | (go_at_call 55; ((with_reducible refine (rnow_any _ _).mono ?_); rintro e w' ⟨rfl, rfl⟩)))
  go_ret2
  exact ⟨rfl, HH.out, Only.refl _ _⟩
theorem rof_on {s : Seat} (h : s.alive = true) : rof s = ⟨s.w, s.inc, s.til⟩ := by simp [rof, h]
theorem rof_off {s : Seat} (h : s.alive = false) : rof s = ⟨0, 0, 0⟩ := by simp [rof, h]
theorem RL.wk {w : World} {b : Nat} {len : Int} {l : List Seat} (h : RL w b len l) {k : Nat} (hk : k < 33) {s : Seat} (hs : l[k]'(by have := h.n; omega) = s) (ha : s.alive = true) : s.w = k ∧ 1 ≤ k :=
  h.good k s (by rw [List.getElem?_eq_getElem (by have := h.n; omega), hs]) ha
set_option maxRecDepth 100000 in
set_option maxHeartbeats 1000000 in
theorem rjoin_new {b : Nat} {len : Int} {l : List Seat} {w : World} (h : RL w b len l) (k : Nat) (hk : k < 33) (inc now : Int) (hb : joinB len l k inc now = true) (s : Seat) (hs : l[k]'(by have := h.n; omega) = s) (ho : s.seen ≤ inc) :
    Calls Try.prog 14 #[.pointer (some ⟨b, 0, none⟩), .int .i64 k, .int .u64 inc, .int .i64 now] w (RJoinPost b len l w (s.alive && decide (s.inc < inc)) 0 (l.set k ⟨k, inc, now + len, true, inc⟩)) := by
  have HH := Lib.hid h
  simp only [joinB, Bool.and_eq_true, Bool.not_eq_true'] at hb
  obtain ⟨⟨h1, h2⟩, h3⟩ := hb
  have c0 : w.cell? ⟨b, 0, none⟩ = some (.int .i64 len) := h.blk.cell 0
  have d0 : w.cell? ⟨b, 1 + k * 3, none⟩ = some (.int .i64 (rof s).w) := by have := h.L hk 0 (by omega); rw [hs] at this; exact this
  have d1 : w.cell? ⟨b, 1 + k * 3 + 1, none⟩ = some (.int .u64 (rof s).inc) := by rw [h.L hk 1 (by omega), hs]; rfl
  have d2 : w.cell? ⟨b, 1 + k * 3 + 2, none⟩ = some (.int .i64 (rof s).til) := by rw [h.L hk 2 (by omega), hs]; rfl
  have d3 : w.cell? ⟨b, 100 + k, none⟩ = some (.int .u64 s.seen) := by rw [h.S hk, hs]
  have hf : ∀ o, w.frozen? ⟨b, o, none⟩ = false := h.frozen
  have hl1 := h.len1
  have hl2 := h.len2
  have hbw := h.blk.lt
  have ht1 := (okT_t h3).1
  have ht2 := (okT_t h3).2
  have hk1 : 1 ≤ k := by have := (okW_t h1).1; omega
  have HN := RL.new h.blk h hk k inc (now + len) ⟨k, inc, now + len, true, inc⟩ rfl (fun _ => ⟨rfl, hk1⟩)
  have HN' := Lib.hid HN
  clear HN
  cases ha : s.alive with
  | false =>
    rw [rof_off ha] at d0 d1 d2
    clear h hs
    go_enter Try.func14, Try.ntmps14
    go_wp2_with (first | (go_at_call 25; ((with_reducible refine (rworker_any _ _).mono ?_); rintro e w' ⟨rfl, rfl⟩)) | (go_at_call 55; ((with_reducible refine (rnow_any _ _).mono ?_); rintro e w' ⟨rfl, rfl⟩)))
    refine Reg.wp_text (by kernel_rfl) (by kernel_rfl) ?_
    go_wp2
    refine Reg.fin (by kernel_rfl) ?_
    go_wp2
    go_ret2
    refine ⟨rfl, (HN'.out.alloc _).drew, (((Only.refl _ _).set1.set1.set1.set1).alloc _).drew⟩
  | true =>
    have hw := (h.wk hk hs ha).1
    rw [rof_on ha] at d0 d1 d2
    simp only [hw] at d0
    clear h hs
    go_enter Try.func14, Try.ntmps14
    go_wp2_with (first | (go_at_call 25; ((with_reducible refine (rworker_any _ _).mono ?_); rintro e w' ⟨rfl, rfl⟩)) | (go_at_call 55; ((with_reducible refine (rnow_any _ _).mono ?_); rintro e w' ⟨rfl, rfl⟩)))
    refine Reg.wp_text (by kernel_rfl) (by kernel_rfl) ?_
    go_wp2
    refine Reg.fin (by kernel_rfl) ?_
    go_wp2
    all_goals go_ret2
    all_goals refine ⟨?_, (HN'.out.alloc _).drew, (((Only.refl _ _).set1.set1.set1.set1).alloc _).drew⟩
    all_goals show Ending.returned (.tuple #[.bool _, .int .i64 _]) = _
    all_goals rw [show ((k : Int) != 0) = true from by simp; omega]
theorem rjoin_any {b : Nat} {len : Int} {l : List Seat} {w : World} (h : RL w b len l) (n inc now : Int) :
    Calls Try.prog 14 #[.pointer (some ⟨b, 0, none⟩), .int .i64 n, .int .u64 inc, .int .i64 now] w (RJoinPost b len l w (joinA l n inc now) (joinC l n inc now) (joinL len l n inc now)) := by
  cases hb : joinB len l n inc now with
  | false =>
    have hb' : (okW n && !(inc == 0) && okT now) = false := hb
    have e1 : joinC l n inc now = 2 := by simp [joinC, hb']
    have e2 : joinA l n inc now = false := by simp [joinA, e1]
    have e3 : joinL len l n inc now = l := by simp [joinL, e1]
    rw [e1, e2, e3]
    exact rjoin_bad h n inc now hb
  | true =>
    have hb' : (okW n && !(inc == 0) && okT now) = true := hb
    have hw : okW n = true := by simp only [Bool.and_eq_true] at hb'; exact hb'.1.1
    obtain ⟨k, rfl, hk, _⟩ := okW_nat hw
    have hs := sat_k h.n hk
    by_cases ho : inc < (sat l k).seen
    · have e1 : joinC l k inc now = 230 := by rw [joinC, if_pos hb', if_pos ho]
      have e2 : joinA l k inc now = false := by simp [joinA, e1]
      have e3 : joinL len l k inc now = l := by simp [joinL, e1]
      rw [e1, e2, e3]
      exact rjoin_old h k hk inc now hb _ hs.symm ho
    · have e1 : joinC l k inc now = 0 := by rw [joinC, if_pos hb', if_neg ho]
      have e2 : joinA l k inc now = ((sat l k).alive && decide ((sat l k).inc < inc)) := by simp [joinA, e1]
      have e3 : joinL len l k inc now = l.set k ⟨k, inc, now + len, true, inc⟩ := by simp [joinL, e1]
      rw [e1, e2, e3]
      exact rjoin_new h k hk inc now hb _ hs.symm (by omega)
end Go.Proofs.Ytppkfpphefonoaa
