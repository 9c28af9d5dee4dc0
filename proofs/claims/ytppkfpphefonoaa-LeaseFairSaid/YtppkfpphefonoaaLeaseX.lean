/- The walks of the program's leases, second part. No condition but that numbers fit their kinds. -/
import Derived.Test.YtppkfpphefonoaaLeaseW
namespace Go.Proofs.Ytppkfpphefonoaa
open Go.RowKit
set_option linter.unusedVariables false
namespace Lea
def zeroS : Seat := ⟨0, 0, 0, false, 0⟩
def sat (l : List Seat) (n : Int) : Seat := l.getD n.toNat zeroS
def joinC (l : List Seat) (n inc now : Int) : Int := if (okW n && !(inc == 0) && okT now) = true then (if inc < (sat l n).seen then 230 else 0) else 2
def joinA (l : List Seat) (n inc now : Int) : Bool := joinC l n inc now == 0 && ((sat l n).alive && decide ((sat l n).inc < inc))
def joinL (len : Int) (l : List Seat) (n inc now : Int) : List Seat := if joinC l n inc now = 0 then l.set n.toNat ⟨n, inc, now + len, true, inc⟩ else l
def beatC (l : List Seat) (n inc now : Int) : Int :=
  if (okW n && okT now) = true then (if inc < (sat l n).seen then 230 else if (sat l n).alive = true ∧ (sat l n).inc = inc then 0 else 5) else 2
def beatL (len : Int) (l : List Seat) (n inc now : Int) : List Seat := if beatC l n inc now = 0 then l.set n.toNat { sat l n with til := max (sat l n).til (now + len) } else l
theorem sat_k {l : List Seat} (hn : l.length = 33) {k : Nat} (hk : k < 33) : sat l k = l[k]'(by omega) := by
  unfold sat; simp [hn, hk]
theorem okW_nat {n : Int} (h : okW n = true) : ∃ k : Nat, n = k ∧ k < 33 ∧ 1 ≤ k := by
  have := okW_t h; exact ⟨n.toNat, by omega, by omega, by omega⟩
end Lea
open Lea
theorem join_any {b : Nat} {len : Int} {l : List Seat} {w : World} (h : PL w b len l) (n inc now : Int) :
    Calls Try.prog 13 #[.pointer (some ⟨b, 0, none⟩), .int .i64 n, .int .u64 inc, .int .i64 now] w (JoinPost b len l w (joinA l n inc now) (joinC l n inc now) (joinL len l n inc now)) := by
  cases hb : joinB len l n inc now with
  | false =>
    have hb' : (okW n && !(inc == 0) && okT now) = false := hb
    have e1 : joinC l n inc now = 2 := by simp [joinC, hb']
    have e2 : joinA l n inc now = false := by simp [joinA, e1]
    have e3 : joinL len l n inc now = l := by simp [joinL, e1]
    rw [e1, e2, e3]
    exact join_bad h n inc now hb
  | true =>
    have hb' : (okW n && !(inc == 0) && okT now) = true := hb
    have hw : okW n = true := by simp only [Bool.and_eq_true] at hb'; exact hb'.1.1
    obtain ⟨k, rfl, hk, _⟩ := okW_nat hw
    have hs := sat_k h.n hk
    by_cases ho : inc < (sat l k).seen
    · have e1 : joinC l k inc now = 230 := by rw [joinC, if_pos hb', if_pos ho]
      have e2 : joinA l k inc now = false := by simp [joinA, e1]
      have e3 : joinL len l k inc now = l := by simp [joinL, e1]
      rw [e1, e2, e3]
      exact join_old h k hk inc now hb _ hs.symm ho
    · have e1 : joinC l k inc now = 0 := by rw [joinC, if_pos hb', if_neg ho]
      have e2 : joinA l k inc now = ((sat l k).alive && decide ((sat l k).inc < inc)) := by simp [joinA, e1]
      have e3 : joinL len l k inc now = l.set k ⟨k, inc, now + len, true, inc⟩ := by simp [joinL, e1]
      rw [e1, e2, e3]
      exact join_new h k hk inc now hb _ hs.symm (by omega)

def CodePost (b : Nat) (len : Int) (w : World) (c : Int) (l' : List Seat) (e : Ending) (w' : World) : Prop :=
  e = .returned (.int .i64 c) ∧ PL w' b len l' ∧ Only (· = b) w w'
set_option maxHeartbeats 1000000 in
theorem beat_bad {b : Nat} {len : Int} {l : List Seat} {w : World} (h : PL w b len l) (n inc now : Int) (hb : (okW n && okT now) = false) :
    Calls Try.prog 15 #[.pointer (some ⟨b, 0, none⟩), .int .i64 n, .int .u64 inc, .int .i64 now] w (CodePost b len w 2 l) := by
  have HH := Lib.hid h
  by_cases h1 : okW n = true
  · have h3 : okT now = false := by simpa [h1] using hb
    clear h hb
    go_enter Try.func15, Try.ntmps15
    go_wp2_with (first | (go_at_call 52; ((with_reducible refine (made_any HH.out).mono ?_); rintro e w' ⟨rfl, rfl⟩)) | (go_at_call 53; ((with_reducible refine (worker_any _ _).mono ?_); rintro e w' ⟨rfl, rfl⟩)) | (go_at_call 54; ((with_reducible refine (time_any _ _).mono ?_); rintro e w' ⟨rfl, rfl⟩)))
    go_ret
    exact ⟨rfl, HH.out, Only.refl _ _⟩
  · have h1' : okW n = false := by simpa using h1
    clear h hb h1
    go_enter Try.func15, Try.ntmps15
    go_wp2_with (first | (go_at_call 52; ((with_reducible refine (made_any HH.out).mono ?_); rintro e w' ⟨rfl, rfl⟩)) | (go_at_call 53; ((with_reducible refine (worker_any _ _).mono ?_); rintro e w' ⟨rfl, rfl⟩)) | (go_at_call 54; ((with_reducible refine (time_any _ _).mono ?_); rintro e w' ⟨rfl, rfl⟩)))
    go_ret
    exact ⟨rfl, HH.out, Only.refl _ _⟩
set_option maxHeartbeats 1000000 in
theorem beat_no {b : Nat} {len : Int} {l : List Seat} {w : World} (h : PL w b len l) (k : Nat) (hk : k < 33) (inc now : Int) (h1 : okW k = true) (h3 : okT now = true) (s : Seat) (hs : l[k]'(by have := h.n; omega) = s) (c : Int)
    (hc : (inc < s.seen ∧ c = 230) ∨ (s.seen ≤ inc ∧ c = 5 ∧ (s.alive = false ∨ (s.alive = true ∧ (s.inc != inc) = true)))) :
    Calls Try.prog 15 #[.pointer (some ⟨b, 0, none⟩), .int .i64 k, .int .u64 inc, .int .i64 now] w (CodePost b len w c l) := by
  have HH := Lib.hid h
  have c0 : w.cell? ⟨b, 0, none⟩ = some (.int .i64 len) := h.blk.cell 0
  have c10 : w.cell? ⟨b, 1 + k * 5, none⟩ = some (.int .i64 s.w) := by have := h.cell hk 0 (by omega); rw [hs] at this; exact this
  have c1 : w.cell? ⟨b, 1 + k * 5 + 1, none⟩ = some (.int .u64 s.inc) := by rw [h.cell hk 1 (by omega), hs]; rfl
  have c2 : w.cell? ⟨b, 1 + k * 5 + 2, none⟩ = some (.int .i64 s.til) := by rw [h.cell hk 2 (by omega), hs]; rfl
  have c3 : w.cell? ⟨b, 1 + k * 5 + 3, none⟩ = some (.bool s.alive) := by rw [h.cell hk 3 (by omega), hs]; rfl
  have c4 : w.cell? ⟨b, 1 + k * 5 + 4, none⟩ = some (.int .u64 s.seen) := by rw [h.cell hk 4 (by omega), hs]; rfl
  have hf : ∀ o, w.frozen? ⟨b, o, none⟩ = false := h.frozen
  have hl1 := h.len1
  have hl2 := h.len2
  clear h hs
  rcases hc with ⟨ho, rfl⟩ | ⟨ho, rfl, ha | ⟨ha, hi⟩⟩
  all_goals go_enter Try.func15, Try.ntmps15
  all_goals go_wp2_with (first | (go_at_call 52; ((with_reducible refine (made_any HH.out).mono ?_); rintro e w' ⟨rfl, rfl⟩)) | (go_at_call 53; ((with_reducible refine (worker_any _ _).mono ?_); rintro e w' ⟨rfl, rfl⟩)) | (go_at_call 54; ((with_reducible refine (time_any _ _).mono ?_); rintro e w' ⟨rfl, rfl⟩)))
  all_goals go_ret
  all_goals exact ⟨rfl, HH.out, Only.refl _ _⟩
theorem PL.drew {w : World} {b : Nat} {len : Int} {l : List Seat} (h : PL w b len l) : PL w.drew b len l := ⟨h.blk.drew, h.n, h.len1, h.len2⟩
theorem til_PL {w : World} {b : Nat} {len : Int} {l : List Seat} (h : PL w b len l) {k : Nat} (hk : k < 33) (s : Seat) (hs : l[k]'(by have := h.n; omega) = s) (til : Int) : PL (w.setCell ⟨b, 1 + k * 5 + 2, none⟩ (.int .i64 til)) b len (l.set k { s with til := til }) := by
  have hn := h.n
  refine ⟨?_, by simpa using hn, h.len1, h.len2⟩
  rw [← cells_set (by omega) (k := 2) (by omega) (.int .i64 til) { s with til := til } (by simp [seatL, hs])]
  exact h.blk.set _ _
theorem off_PL {w : World} {b : Nat} {len : Int} {l : List Seat} (h : PL w b len l) {k : Nat} (hk : k < 33) (s : Seat) (hs : l[k]'(by have := h.n; omega) = s) : PL (w.setCell ⟨b, 1 + k * 5 + 3, none⟩ (.bool false)) b len (l.set k { s with alive := false }) := by
  have hn := h.n
  refine ⟨?_, by simpa using hn, h.len1, h.len2⟩
  rw [← cells_set (by omega) (k := 3) (by omega) (.bool false) { s with alive := false } (by simp [seatL, hs])]
  exact h.blk.set _ _
set_option maxRecDepth 100000 in
set_option maxHeartbeats 1000000 in
theorem beat_yes {b : Nat} {len : Int} {l : List Seat} {w : World} (h : PL w b len l) (k : Nat) (hk : k < 33) (inc now : Int) (h1 : okW k = true) (h3 : okT now = true) (s : Seat) (hs : l[k]'(by have := h.n; omega) = s)
    (ho : s.seen ≤ inc) (ha : s.alive = true) (hi : (s.inc != inc) = false) :
    Calls Try.prog 15 #[.pointer (some ⟨b, 0, none⟩), .int .i64 k, .int .u64 inc, .int .i64 now] w (CodePost b len w 0 (l.set k { s with til := max s.til (now + len) })) := by
  have HH := Lib.hid h
  have HP := Lib.hid (til_PL h hk s hs)
  have c0 : w.cell? ⟨b, 0, none⟩ = some (.int .i64 len) := h.blk.cell 0
  have c10 : w.cell? ⟨b, 1 + k * 5, none⟩ = some (.int .i64 s.w) := by have := h.cell hk 0 (by omega); rw [hs] at this; exact this
  have c1 : w.cell? ⟨b, 1 + k * 5 + 1, none⟩ = some (.int .u64 s.inc) := by rw [h.cell hk 1 (by omega), hs]; rfl
  have c2 : w.cell? ⟨b, 1 + k * 5 + 2, none⟩ = some (.int .i64 s.til) := by rw [h.cell hk 2 (by omega), hs]; rfl
  have c3 : w.cell? ⟨b, 1 + k * 5 + 3, none⟩ = some (.bool s.alive) := by rw [h.cell hk 3 (by omega), hs]; rfl
  have c4 : w.cell? ⟨b, 1 + k * 5 + 4, none⟩ = some (.int .u64 s.seen) := by rw [h.cell hk 4 (by omega), hs]; rfl
  have hf : ∀ o, w.frozen? ⟨b, o, none⟩ = false := h.frozen
  have hl1 := h.len1
  have hl2 := h.len2
  have ht1 := (okT_t h3).1
  have ht2 := (okT_t h3).2
  clear h hs
  go_enter Try.func15, Try.ntmps15
  go_wp2_with (first | (go_at_call 52; ((with_reducible refine (made_any HH.out).mono ?_); rintro e w' ⟨rfl, rfl⟩)) | (go_at_call 53; ((with_reducible refine (worker_any _ _).mono ?_); rintro e w' ⟨rfl, rfl⟩)) | (go_at_call 54; ((with_reducible refine (time_any _ _).mono ?_); rintro e w' ⟨rfl, rfl⟩)))
  refine Reg.wp_text (by kernel_rfl) (by kernel_rfl) ?_
  go_wp2
  · rename_i hlt
    refine Reg.fin (by kernel_rfl) ?_
    go_wp2
    go_ret
    have e1 : max s.til (now + len) = now + len := by omega
    have := HP.out (now + len)
    rw [e1]
    exact ⟨rfl, this.drew, (Only.refl _ _).set1.drew⟩
  · rename_i hlt
    refine Reg.fin (by kernel_rfl) ?_
    go_wp2
    go_ret
    have e1 : max s.til (now + len) = s.til := by omega
    have := HP.out s.til
    rw [e1]
    exact ⟨rfl, this.drew, (Only.refl _ _).set1.drew⟩
theorem beat_any {b : Nat} {len : Int} {l : List Seat} {w : World} (h : PL w b len l) (n inc now : Int) :
    Calls Try.prog 15 #[.pointer (some ⟨b, 0, none⟩), .int .i64 n, .int .u64 inc, .int .i64 now] w (CodePost b len w (beatC l n inc now) (beatL len l n inc now)) := by
  cases hb : (okW n && okT now) with
  | false =>
    have e1 : beatC l n inc now = 2 := by simp [beatC, hb]
    have e3 : beatL len l n inc now = l := by simp [beatL, e1]
    rw [e1, e3]
    exact beat_bad h n inc now hb
  | true =>
    have hw : okW n = true ∧ okT now = true := by simpa only [Bool.and_eq_true] using hb
    obtain ⟨k, rfl, hk, _⟩ := okW_nat hw.1
    have hs := sat_k h.n hk
    by_cases ho : inc < (sat l k).seen
    · have e1 : beatC l k inc now = 230 := by rw [beatC, if_pos hb, if_pos ho]
      have e3 : beatL len l k inc now = l := by simp [beatL, e1]
      rw [e1, e3]
      exact beat_no h k hk inc now hw.1 hw.2 _ hs.symm _ (.inl ⟨ho, rfl⟩)
    · by_cases ha : (sat l k).alive = true
      · by_cases hi : (sat l k).inc = inc
        · have e1 : beatC l k inc now = 0 := by rw [beatC, if_pos hb, if_neg ho, if_pos ⟨ha, hi⟩]
          have e3 : beatL len l k inc now = l.set k { sat l k with til := max (sat l k).til (now + len) } := by simp [beatL, e1]
          rw [e1, e3]
          exact beat_yes h k hk inc now hw.1 hw.2 _ hs.symm (by omega) ha (by simp [hi])
        · have e1 : beatC l k inc now = 5 := by rw [beatC, if_pos hb, if_neg ho, if_neg (fun h => hi h.2)]
          have e3 : beatL len l k inc now = l := by simp [beatL, e1]
          rw [e1, e3]
          exact beat_no h k hk inc now hw.1 hw.2 _ hs.symm _ (.inr ⟨by omega, rfl, .inr ⟨ha, by simpa using hi⟩⟩)
      · have e1 : beatC l k inc now = 5 := by rw [beatC, if_pos hb, if_neg ho, if_neg (fun h => ha h.1)]
        have e3 : beatL len l k inc now = l := by simp [beatL, e1]
        rw [e1, e3]
        exact beat_no h k hk inc now hw.1 hw.2 _ hs.symm _ (.inr ⟨by omega, rfl, .inl (by simpa using ha)⟩)

/-! ### Expire -/
namespace Lea
def dueS (now : Int) (s : Seat) : Bool := s.alive && decide (s.til ≤ now)
def expI (l : List Seat) (now : Int) (i : Nat) : List Nat := (List.range i).filter fun k => dueS now (sat l k)
def expL (l : List Seat) (now : Int) (i : Nat) : List Seat := l.mapIdx fun k s => if k < i ∧ dueS now s = true then { s with alive := false } else s
def intsOf (l : List Nat) : List Value := l.map fun (k : Nat) => .int .i64 (k : Int)
theorem expL_len (l : List Seat) (now : Int) (i : Nat) : (expL l now i).length = l.length := by simp [expL]
theorem expL_zero (l : List Seat) (now : Int) : expL l now 0 = l := by
  apply List.ext_getElem <;> simp [expL]
theorem expL_at (l : List Seat) (now : Int) (i : Nat) (h : i < l.length) : (expL l now i)[i]'(by rw [expL_len]; exact h) = l[i] := by simp [expL]
theorem expL_yes {l : List Seat} {now : Int} {i : Nat} (h : i < l.length) (hd : dueS now l[i] = true) : expL l now (i + 1) = (expL l now i).set i { l[i] with alive := false } := by
  apply List.ext_getElem
  · simp [expL]
  · intro j h1 h2
    rw [List.getElem_set]
    simp only [expL, List.getElem_mapIdx]
    by_cases hj : i = j
    · subst hj; simp [hd]
    · have : (j < i + 1) ↔ j < i := by omega
      simp [hj, this]
theorem expL_no {l : List Seat} {now : Int} {i : Nat} (h : i < l.length) (hd : dueS now l[i] = false) : expL l now (i + 1) = expL l now i := by
  apply List.ext_getElem
  · simp [expL]
  · intro j h1 h2
    simp only [expL, List.getElem_mapIdx]
    by_cases hj : i = j
    · subst hj; simp [hd]
    · have : (j < i + 1) ↔ j < i := by omega
      simp [this]
theorem expI_succ (l : List Seat) (now : Int) (i : Nat) : expI l now (i + 1) = if dueS now (sat l i) = true then expI l now i ++ [i] else expI l now i := by
  unfold expI
  rw [List.range_succ, List.filter_append]
  by_cases h : dueS now (sat l i) = true <;> simp [h]
theorem expI_len (l : List Seat) (now : Int) (i : Nat) : (expI l now i).length ≤ i := by
  unfold expI; have := List.length_filter_le (fun k : Nat => dueS now (sat l k)) (List.range i); simpa using this
end Lea
end Go.Proofs.Ytppkfpphefonoaa
