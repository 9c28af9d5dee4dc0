/- The walks of the document's leases, second part. No condition but that numbers fit their kinds. -/
import Derived.Test.YtppkfpphefonoaaLeaseR
namespace Go.Proofs.Ytppkfpphefonoaa
open Go.RowKit Lea
set_option linter.unusedVariables false
def RCodePost (b : Nat) (len : Int) (w : World) (c : Int) (l' : List Seat) (e : Ending) (w' : World) : Prop :=
  e = .returned (.int .i64 c) ∧ RL w' b len l' ∧ Only (· = b) w w'
/-! ### Beat -/
set_option maxHeartbeats 1000000 in
theorem rbeat_bad {b : Nat} {len : Int} {l : List Seat} {w : World} (h : RL w b len l) (n inc now : Int) (hb : (okW n && okT now) = false) :
    Calls Try.prog 16 #[.pointer (some ⟨b, 0, none⟩), .int .i64 n, .int .u64 inc, .int .i64 now] w (RCodePost b len w 2 l) := by
  have HH := Lib.hid h
  by_cases h1 : okW n = true
  · have h3 : okT now = false := by simpa [h1] using hb
    clear h hb
    go_enter Try.func16, Try.ntmps16
    go_wp2_with (first | (go_at_call 25; ((with_reducible refine (rworker_any _ _).mono ?_); rintro e w' ⟨rfl, rfl⟩)) | (go_at_call 55; ((with_reducible refine (rnow_any _ _).mono ?_); rintro e w' ⟨rfl, rfl⟩)))
    go_ret
    exact ⟨rfl, HH.out, Only.refl _ _⟩
  · have h1' : okW n = false := by simpa using h1
    clear h hb h1
    go_enter Try.func16, Try.ntmps16
    go_wp2_with (first | (go_at_call 25; ((with_reducible refine (rworker_any _ _).mono ?_); rintro e w' ⟨rfl, rfl⟩)) | (go_at_call 55; ((with_reducible refine (rnow_any _ _).mono ?_); rintro e w' ⟨rfl, rfl⟩)))
    go_ret
    exact ⟨rfl, HH.out, Only.refl _ _⟩
set_option maxHeartbeats 1000000 in
theorem rbeat_no {b : Nat} {len : Int} {l : List Seat} {w : World} (h : RL w b len l) (k : Nat) (hk : k < 33) (inc now : Int) (h1 : okW k = true) (h3 : okT now = true) (s : Seat) (hs : l[k]'(by have := h.n; omega) = s) (c : Int)
    (hc : (inc < s.seen ∧ c = 230) ∨ (s.seen ≤ inc ∧ c = 5 ∧ (s.alive = false ∨ (s.alive = true ∧ (s.inc != inc) = true)))) :
    Calls Try.prog 16 #[.pointer (some ⟨b, 0, none⟩), .int .i64 k, .int .u64 inc, .int .i64 now] w (RCodePost b len w c l) := by
  have HH := Lib.hid h
  have c0 : w.cell? ⟨b, 0, none⟩ = some (.int .i64 len) := h.blk.cell 0
  have d0 : w.cell? ⟨b, 1 + k * 3, none⟩ = some (.int .i64 (rof s).w) := by have := h.L hk 0 (by omega); rw [hs] at this; exact this
  have d1 : w.cell? ⟨b, 1 + k * 3 + 1, none⟩ = some (.int .u64 (rof s).inc) := by rw [h.L hk 1 (by omega), hs]; rfl
  have d2 : w.cell? ⟨b, 1 + k * 3 + 2, none⟩ = some (.int .i64 (rof s).til) := by rw [h.L hk 2 (by omega), hs]; rfl
  have d3 : w.cell? ⟨b, 100 + k, none⟩ = some (.int .u64 s.seen) := by rw [h.S hk, hs]
  have hf : ∀ o, w.frozen? ⟨b, o, none⟩ = false := h.frozen
  have hl1 := h.len1
  have hl2 := h.len2
  have hbw := h.blk.lt
  have hk1 : 1 ≤ k := by have := (okW_t h1).1; omega
  have hk2 : ((k : Int) == 0) = false := by simp; omega
  have hwk := fun ha => (h.wk hk hs ha).1
  clear h hs
  rcases hc with ⟨ho, rfl⟩ | ⟨ho, rfl, ha | ⟨ha, hi⟩⟩
  · clear hwk
    go_enter Try.func16, Try.ntmps16
    go_wp2_with (first | (go_at_call 25; ((with_reducible refine (rworker_any _ _).mono ?_); rintro e w' ⟨rfl, rfl⟩)) | (go_at_call 55; ((with_reducible refine (rnow_any _ _).mono ?_); rintro e w' ⟨rfl, rfl⟩)))
    go_ret
    exact ⟨rfl, HH.out, Only.refl _ _⟩
  · rw [rof_off ha] at d0 d1 d2
    clear hwk
    go_enter Try.func16, Try.ntmps16
    go_wp2_with (first | (go_at_call 25; ((with_reducible refine (rworker_any _ _).mono ?_); rintro e w' ⟨rfl, rfl⟩)) | (go_at_call 55; ((with_reducible refine (rnow_any _ _).mono ?_); rintro e w' ⟨rfl, rfl⟩)))
    go_ret
    exact ⟨rfl, HH.out.alloc _, (Only.refl _ _).alloc _⟩
  · rw [rof_on ha] at d0 d1 d2
    simp only [hwk ha] at d0
    clear hwk
    go_enter Try.func16, Try.ntmps16
    go_wp2_with (first | (go_at_call 25; ((with_reducible refine (rworker_any _ _).mono ?_); rintro e w' ⟨rfl, rfl⟩)) | (go_at_call 55; ((with_reducible refine (rnow_any _ _).mono ?_); rintro e w' ⟨rfl, rfl⟩)))
    go_ret
    exact ⟨rfl, HH.out.alloc _, (Only.refl _ _).alloc _⟩
set_option maxRecDepth 100000 in
set_option maxHeartbeats 1000000 in
theorem rbeat_yes {b : Nat} {len : Int} {l : List Seat} {w : World} (h : RL w b len l) (k : Nat) (hk : k < 33) (inc now : Int) (h1 : okW k = true) (h3 : okT now = true) (s : Seat) (hs : l[k]'(by have := h.n; omega) = s)
    (ho : s.seen ≤ inc) (ha : s.alive = true) (hi : (s.inc != inc) = false) :
    Calls Try.prog 16 #[.pointer (some ⟨b, 0, none⟩), .int .i64 k, .int .u64 inc, .int .i64 now] w (RCodePost b len w 0 (l.set k { s with til := max s.til (now + len) })) := by
  have HH := Lib.hid h
  have c0 : w.cell? ⟨b, 0, none⟩ = some (.int .i64 len) := h.blk.cell 0
  have d0 : w.cell? ⟨b, 1 + k * 3, none⟩ = some (.int .i64 (rof s).w) := by have := h.L hk 0 (by omega); rw [hs] at this; exact this
  have d1 : w.cell? ⟨b, 1 + k * 3 + 1, none⟩ = some (.int .u64 (rof s).inc) := by rw [h.L hk 1 (by omega), hs]; rfl
  have d2 : w.cell? ⟨b, 1 + k * 3 + 2, none⟩ = some (.int .i64 (rof s).til) := by rw [h.L hk 2 (by omega), hs]; rfl
  have d3 : w.cell? ⟨b, 100 + k, none⟩ = some (.int .u64 s.seen) := by rw [h.S hk, hs]
  have hf : ∀ o, w.frozen? ⟨b, o, none⟩ = false := h.frozen
  have hl1 := h.len1
  have hl2 := h.len2
  have hbw := h.blk.lt
  have ht1 := (okT_t h3).1
  have ht2 := (okT_t h3).2
  have hk1 : 1 ≤ k := by have := (okW_t h1).1; omega
  have hk2 : ((k : Int) == 0) = false := by simp; omega
  have hw := (h.wk hk hs ha).1
  have HN := fun til => RL.row h hk s.w s.inc til { s with til := til } (by simp [rof, ha]) (fun _ => ⟨hw, hk1⟩) (by simp [hs])
  have HP := Lib.hid HN
  clear HN
  rw [rof_on ha] at d0 d1 d2
  simp only [hw] at d0
  clear h hs
  go_enter Try.func16, Try.ntmps16
  go_wp2_with (first | (go_at_call 25; ((with_reducible refine (rworker_any _ _).mono ?_); rintro e w' ⟨rfl, rfl⟩)) | (go_at_call 55; ((with_reducible refine (rnow_any _ _).mono ?_); rintro e w' ⟨rfl, rfl⟩)))
  refine Reg.wp_text (by kernel_rfl) (by kernel_rfl) ?_
  go_wp2
  all_goals refine Reg.fin (by kernel_rfl) ?_
  all_goals go_wp2
  all_goals refine Reg.wp_text (by kernel_rfl) (by kernel_rfl) ?_
  all_goals go_wp2
  all_goals refine Reg.fin (by kernel_rfl) ?_
  all_goals go_wp2
  all_goals go_ret
  · have e1 : max s.til (now + len) = now + len := by omega
    have := HP.out (now + len)
    rw [e1]
    rw [hw] at this ⊢
    exact ⟨rfl, (this.alloc _).drew.drew, (((Only.refl _ _).set1.set1.set1).alloc _).drew.drew⟩
  · have e1 : max s.til (now + len) = s.til := by omega
    have := HP.out s.til
    rw [e1]
    rw [hw] at this ⊢
    exact ⟨rfl, (this.alloc _).drew.drew, (((Only.refl _ _).set1.set1.set1).alloc _).drew.drew⟩
theorem rbeat_any {b : Nat} {len : Int} {l : List Seat} {w : World} (h : RL w b len l) (n inc now : Int) :
    Calls Try.prog 16 #[.pointer (some ⟨b, 0, none⟩), .int .i64 n, .int .u64 inc, .int .i64 now] w (RCodePost b len w (beatC l n inc now) (beatL len l n inc now)) := by
  cases hb : (okW n && okT now) with
  | false =>
    have e1 : beatC l n inc now = 2 := by simp [beatC, hb]
    have e3 : beatL len l n inc now = l := by simp [beatL, e1]
    rw [e1, e3]
    exact rbeat_bad h n inc now hb
  | true =>
    have hw : okW n = true ∧ okT now = true := by simpa only [Bool.and_eq_true] using hb
    obtain ⟨k, rfl, hk, _⟩ := okW_nat hw.1
    have hs := sat_k h.n hk
    by_cases ho : inc < (sat l k).seen
    · have e1 : beatC l k inc now = 230 := by rw [beatC, if_pos hb, if_pos ho]
      have e3 : beatL len l k inc now = l := by simp [beatL, e1]
      rw [e1, e3]
      exact rbeat_no h k hk inc now hw.1 hw.2 _ hs.symm _ (.inl ⟨ho, rfl⟩)
    · by_cases ha : (sat l k).alive = true
      · by_cases hi : (sat l k).inc = inc
        · have e1 : beatC l k inc now = 0 := by rw [beatC, if_pos hb, if_neg ho, if_pos ⟨ha, hi⟩]
          have e3 : beatL len l k inc now = l.set k { sat l k with til := max (sat l k).til (now + len) } := by simp [beatL, e1]
          rw [e1, e3]
          exact rbeat_yes h k hk inc now hw.1 hw.2 _ hs.symm (by omega) ha (by simp [hi])
        · have e1 : beatC l k inc now = 5 := by rw [beatC, if_pos hb, if_neg ho, if_neg (fun h => hi h.2)]
          have e3 : beatL len l k inc now = l := by simp [beatL, e1]
          rw [e1, e3]
          exact rbeat_no h k hk inc now hw.1 hw.2 _ hs.symm _ (.inr ⟨by omega, rfl, .inr ⟨ha, by simpa using hi⟩⟩)
      · have e1 : beatC l k inc now = 5 := by rw [beatC, if_pos hb, if_neg ho, if_neg (fun h => ha h.1)]
        have e3 : beatL len l k inc now = l := by simp [beatL, e1]
        rw [e1, e3]
        exact rbeat_no h k hk inc now hw.1 hw.2 _ hs.symm _ (.inr ⟨by omega, rfl, .inl (by simpa using ha)⟩)
/-! ### Leave -/
set_option maxRecDepth 100000 in
set_option maxHeartbeats 1000000 in
theorem rleave_any {b : Nat} {len : Int} {l : List Seat} {w : World} (h : RL w b len l) (n : Int) :
    Calls Try.prog 21 #[.pointer (some ⟨b, 0, none⟩), .int .i64 n] w (RCodePost b len w (leaveN l n) (leave1 l n)) := by
  have HH := Lib.hid h
  have hn := h.n
  cases how : okW n with
  | false =>
    have hno := leave_no (l := l) (n := n) (by simp [how])
    rw [hno.1, hno.2]
    clear h
    go_enter Try.func21, Try.ntmps21
    go_wp2_with (first | (go_at_call 25; ((with_reducible refine (rworker_any _ _).mono ?_); rintro e w' ⟨rfl, rfl⟩)) | (go_at_call 55; ((with_reducible refine (rnow_any _ _).mono ?_); rintro e w' ⟨rfl, rfl⟩)))
    go_ret
    exact ⟨rfl, HH.out, Only.refl _ _⟩
  | true =>
    obtain ⟨k, rfl, hk, hk1⟩ := okW_nat how
    have hs := (sat_k hn hk).symm
    have hk2 : ((k : Int) == 0) = false := by simp; omega
    cases ha : (sat l k).alive with
    | false =>
      have hno := leave_no (l := l) (n := k) (by simp [ha])
      rw [hno.1, hno.2]
      generalize sat l k = s at hs ha
      have c0 : w.cell? ⟨b, 0, none⟩ = some (.int .i64 len) := h.blk.cell 0
      have d0 : w.cell? ⟨b, 1 + k * 3, none⟩ = some (.int .i64 (rof s).w) := by have := h.L hk 0 (by omega); rw [hs] at this; exact this
      have d1 : w.cell? ⟨b, 1 + k * 3 + 1, none⟩ = some (.int .u64 (rof s).inc) := by rw [h.L hk 1 (by omega), hs]; rfl
      have d2 : w.cell? ⟨b, 1 + k * 3 + 2, none⟩ = some (.int .i64 (rof s).til) := by rw [h.L hk 2 (by omega), hs]; rfl
      have d3 : w.cell? ⟨b, 100 + k, none⟩ = some (.int .u64 s.seen) := by rw [h.S hk, hs]
      have hf : ∀ o, w.frozen? ⟨b, o, none⟩ = false := h.frozen
      have hl1 := h.len1
      have hl2 := h.len2
      have hbw := h.blk.lt
      rw [rof_off ha] at d0 d1 d2
      clear h hs
      go_enter Try.func21, Try.ntmps21
      go_wp2_with (first | (go_at_call 25; ((with_reducible refine (rworker_any _ _).mono ?_); rintro e w' ⟨rfl, rfl⟩)) | (go_at_call 55; ((with_reducible refine (rnow_any _ _).mono ?_); rintro e w' ⟨rfl, rfl⟩)))
      go_ret
      exact ⟨rfl, HH.out, Only.refl _ _⟩
    | true =>
      have hno := leave_yes (l := l) (n := k) (by simp [how, ha])
      rw [hno.1, hno.2]
      generalize sat l k = s at hs ha
      have c0 : w.cell? ⟨b, 0, none⟩ = some (.int .i64 len) := h.blk.cell 0
      have d0 : w.cell? ⟨b, 1 + k * 3, none⟩ = some (.int .i64 (rof s).w) := by have := h.L hk 0 (by omega); rw [hs] at this; exact this
      have d1 : w.cell? ⟨b, 1 + k * 3 + 1, none⟩ = some (.int .u64 (rof s).inc) := by rw [h.L hk 1 (by omega), hs]; rfl
      have d2 : w.cell? ⟨b, 1 + k * 3 + 2, none⟩ = some (.int .i64 (rof s).til) := by rw [h.L hk 2 (by omega), hs]; rfl
      have d3 : w.cell? ⟨b, 100 + k, none⟩ = some (.int .u64 s.seen) := by rw [h.S hk, hs]
      have hf : ∀ o, w.frozen? ⟨b, o, none⟩ = false := h.frozen
      have hl1 := h.len1
      have hl2 := h.len2
      have hbw := h.blk.lt
      have hw := (h.wk hk hs ha).1
      have HP := Lib.hid (RL.row h hk 0 0 0 { s with alive := false } (by simp [rof]) (fun h => by simp at h) (by simp [hs]))
      rw [rof_on ha] at d0 d1 d2
      simp only [hw] at d0
      clear h hs
      go_enter Try.func21, Try.ntmps21
      go_wp2_with (first | (go_at_call 25; ((with_reducible refine (rworker_any _ _).mono ?_); rintro e w' ⟨rfl, rfl⟩)) | (go_at_call 55; ((with_reducible refine (rnow_any _ _).mono ?_); rintro e w' ⟨rfl, rfl⟩)))
      go_ret
      exact ⟨rfl, HP.out, (Only.refl _ _).set1.set1.set1⟩
end Go.Proofs.Ytppkfpphefonoaa
