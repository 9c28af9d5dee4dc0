/- The walks of the document's leases, third part: Expire, Rows. No condition. -/
import Derived.Test.YtppkfpphefonoaaLeaseS
namespace Go.Proofs.Ytppkfpphefonoaa
open Go.RowKit Lea
set_option linter.unusedVariables false
def RExpPost (b : Nat) (len : Int) (l : List Seat) (w : World) (c : Int) (xs : List Nat) (l' : List Seat) (e : Ending) (w' : World) : Prop :=
  ∃ v, e = .returned (.tuple #[v, .int .i64 c]) ∧ w'.ownsRow w.heap.size 3 1 v xs.length (intsOf xs) ∧ RL w' b len l' ∧ Only (· = b) w w'
theorem off0 {w : World} {b : Nat} {len : Int} {l : List Seat} (h : RL w b len l) : (sat l 0).alive = false := by
  have hn := h.n
  cases ha : (sat l 0).alive with
  | false => rfl
  | true =>
    have e : sat l ((0 : Nat) : Int) = l[0]'(by omega) := sat_k hn (k := 0) (by decide)
    have := (h.wk (k := 0) (by decide) e.symm ha).2
    omega
def RExpRel (b : Nat) (len : Int) (l : List Seat) (now : Int) (w : World) (u v : Value) (wr : World) : Prop :=
  ∃ i : Nat, 1 ≤ i ∧ i ≤ 33 ∧ u = .int .i64 i ∧ wr.ownsRow w.heap.size 3 1 v (expI l now i).length (intsOf (expI l now i)) ∧ RL wr b len (expL l now i) ∧ Only (· = b) w wr
theorem rexp_skip {b : Nat} {len : Int} {l : List Seat} {now : Int} {w wr : World} {v : Value} {k : Nat} {s : Seat} (hn : l.length = 33) (hk : k < 33) (hsd : sat l k = s) (hd : dueS now s = false)
    (hown : wr.ownsRow w.heap.size 3 1 v (expI l now k).length (intsOf (expI l now k))) (hP : RL wr b len (expL l now k)) (hO : Only (· = b) w wr) :
    RExpRel b len l now w (.int .i64 (k + 1 : Nat)) v wr := by
  have hd' : dueS now (l[k]'(by omega)) = false := by rw [← sat_k hn hk, hsd]; exact hd
  refine ⟨k + 1, by omega, by omega, rfl, ?_, ?_, hO⟩
  · rw [expI_succ, hsd, if_neg (by simp [hd])]; exact hown
  · rw [expL_no (by omega) hd']; exact hP
set_option maxHeartbeats 1000000 in
theorem rexpire_bad {b : Nat} {len : Int} {l : List Seat} {w : World} (h : RL w b len l) (now : Int) (h1 : okT now = false) :
    Calls Try.prog 18 #[.pointer (some ⟨b, 0, none⟩), .int .i64 now] w (RExpPost b len l w 2 [] l) := by
  have HH := Lib.hid h
  clear h
  go_enter Try.func18, Try.ntmps18
  go_wp2_with (first | (go_at_call 25; ((with_reducible refine (rworker_any _ _).mono ?_); rintro e w' ⟨rfl, rfl⟩)) | (go_at_call 55; ((with_reducible refine (rnow_any _ _).mono ?_); rintro e w' ⟨rfl, rfl⟩)))
  go_ret2
  exact ⟨_, rfl, World.ownsRow_nil _ _ _ _, HH.out, Only.refl _ _⟩
set_option maxRecDepth 100000 in
set_option maxHeartbeats 1000000 in
theorem rexpire_good {b : Nat} {len : Int} {l : List Seat} {w : World} (h : RL w b len l) (now : Int) (h1 : okT now = true) :
    Calls Try.prog 18 #[.pointer (some ⟨b, 0, none⟩), .int .i64 now] w (RExpPost b len l w 0 (expI l now 33) (expL l now 33)) := by
  have HH := Lib.hid h
  have hn := h.n
  have hbW := h.blk.lt
  have h0 := off0 h
  clear h
  go_enter Try.func18, Try.ntmps18
  go_wp2_with (first | (go_at_call 25; ((with_reducible refine (rworker_any _ _).mono ?_); rintro e w' ⟨rfl, rfl⟩)) | (go_at_call 55; ((with_reducible refine (rnow_any _ _).mono ?_); rintro e w' ⟨rfl, rfl⟩)))
  go_loopw [7, 6] (fun u v wr => RExpRel b len l now w u v wr) (fun u v _ => (33 - intOf u).toNat)
  case atStart =>
    have hd : dueS now (sat l 0) = false := by simp [dueS, h0]
    have e0 : expI l now 1 = [] := by rw [expI_succ, if_neg (by simpa using hd)]; simp [expI]
    have e1 : expL l now 1 = l := by
      rw [expL_no (by omega) (by rw [← sat_k hn (k := 0) (by decide)]; exact hd), expL_zero]
    exact ⟨1, by omega, by omega, rfl, by rw [e0]; simpa [intsOf] using World.ownsRow_nil _ _ _ _, by rw [e1]; exact HH.out, Only.refl _ _⟩
  case round =>
    obtain ⟨k, hk1, hk33, rfl, hown, hP, ho⟩ := hrel
    have HP := Lib.hid hP
    have HO := Lib.hid ho
    have hsz := ho.size
    by_cases hk : k < 33
    · have hs : (expL l now k)[k]'(by rw [expL_len]; omega) = l[k]'(by omega) := expL_at l now k (by omega)
      have hsd := sat_k hn hk
      generalize l[k]'(by omega) = s at hs hsd
      have hk2 : ((k : Int) != 0) = true := by simp; omega
      have c0 : wr.cell? ⟨b, 0, none⟩ = some (.int .i64 len) := hP.blk.cell 0
      have d0 : wr.cell? ⟨b, 1 + k * 3, none⟩ = some (.int .i64 (rof s).w) := by have := hP.L hk 0 (by omega); rw [hs] at this; exact this
      have d1 : wr.cell? ⟨b, 1 + k * 3 + 1, none⟩ = some (.int .u64 (rof s).inc) := by rw [hP.L hk 1 (by omega), hs]; rfl
      have d2 : wr.cell? ⟨b, 1 + k * 3 + 2, none⟩ = some (.int .i64 (rof s).til) := by rw [hP.L hk 2 (by omega), hs]; rfl
      have d3 : wr.cell? ⟨b, 100 + k, none⟩ = some (.int .u64 s.seen) := by rw [hP.S hk, hs]
      have hf : ∀ o, wr.frozen? ⟨b, o, none⟩ = false := hP.frozen
      have hl1 := hP.len1
      have hl2 := hP.len2
      have hbw := hP.blk.lt
      have hil : (expI l now k).length ≤ k := expI_len l now k
      cases ha : s.alive with
      | true =>
        have hw := (hP.wk hk hs ha).1
        rw [rof_on ha] at d0 d1 d2
        simp only [hw] at d0
        have HO1 := Lib.hid (RL.row hP hk 0 0 0 { s with alive := false } (by simp [rof]) (fun h => by simp at h) (by simp [hs]))
        clear hP ho
        by_cases hle : s.til ≤ now
        · generalize hxi : (expI l now k).length = m at *
          have hm : (m : Nat) < 2147483648 := by omega
          go_wp2_with (at_builtin; refine wpl_append_row rfl rfl rfl rfl Try.underlying41 info_int rfl rfl rfl (by decide) (by decide) hown ?c1 ?c2 ?c3 ?_)
          case c3 => rfl
          intro v' w1 hown2 hb1
          have HP1 := Lib.hid (HP.out.below hb1 hbW)
          have hP1 := HP1.out
          have c0 : w1.cell? ⟨b, 0, none⟩ = some (.int .i64 len) := hP1.blk.cell 0
          have d0 : w1.cell? ⟨b, 1 + k * 3, none⟩ = some (.int .i64 (rof s).w) := by have := hP1.L hk 0 (by omega); rw [hs] at this; exact this
          have d1 : w1.cell? ⟨b, 1 + k * 3 + 1, none⟩ = some (.int .u64 (rof s).inc) := by rw [hP1.L hk 1 (by omega), hs]; rfl
          have d2 : w1.cell? ⟨b, 1 + k * 3 + 2, none⟩ = some (.int .i64 (rof s).til) := by rw [hP1.L hk 2 (by omega), hs]; rfl
          have d3 : w1.cell? ⟨b, 100 + k, none⟩ = some (.int .u64 s.seen) := by rw [hP1.S hk, hs]
          have hf : ∀ o, w1.frozen? ⟨b, o, none⟩ = false := hP1.frozen
          have hl1 := hP1.len1
          have hl2 := hP1.len2
          have hbw := hP1.blk.lt
          have HO2 := Lib.hid (RL.row HP1.out hk 0 0 0 { s with alive := false } (by simp [rof]) (fun h => by simp at h) (by simp [hs]))
          have HW2 := Lib.hid (HO.out.stepB hb1 (Nat.le_refl _))
          clear hP1
          go_wp2
          go_roundw
          case rel =>
            have hd : dueS now s = true := by simp [dueS, ha, hle]
            have hd' : dueS now (l[k]'(by omega)) = true := by rw [← sat_k hn hk, hsd]; exact hd
            refine ⟨k + 1, by omega, by omega, rfl, ?_, ?_, ?_⟩
            · rw [expI_succ, hsd, if_pos hd, List.length_append, hxi]
              have := ownsRow_setCell_below (ownsRow_setCell_below (ownsRow_setCell_below hown2 (a := ⟨b, 1 + k * 3, none⟩) hbW (.int .i64 0)) (a := ⟨b, 1 + k * 3 + 1, none⟩) hbW (.int .u64 0)) (a := ⟨b, 1 + k * 3 + 2, none⟩) hbW (.int .i64 0)
              simpa [intsOf] using this
            · have := HO2.out
              rw [expL_yes (by omega) hd', ← sat_k hn hk, hsd]
              exact this
            · exact HW2.out.set1.set1.set1
          case measure => simp [intOf]; omega
        · have hd : dueS now s = false := by simp [dueS, hle]
          go_wp2
          go_roundw
          case rel => exact rexp_skip hn hk hsd hd hown HP.out HO.out
          case measure => simp [intOf]; omega
      | false =>
        have hd : dueS now s = false := by simp [dueS, ha]
        rw [rof_off ha] at d0 d1 d2
        clear hP ho
        go_wp2
        go_roundw
        case rel => exact rexp_skip hn hk hsd hd hown HP.out HO.out
        case measure => simp [intOf]; omega
    · have : k = 33 := by omega
      subst this
      clear hP ho
      go_wp2
      go_ret2
      exact ⟨_, rfl, hown, HP.out, HO.out⟩
theorem rexpire_any {b : Nat} {len : Int} {l : List Seat} {w : World} (h : RL w b len l) (now : Int) :
    Calls Try.prog 18 #[.pointer (some ⟨b, 0, none⟩), .int .i64 now] w (RExpPost b len l w (if okT now = true then 0 else 2) (if okT now = true then expI l now 33 else []) (if okT now = true then expL l now 33 else l)) := by
  by_cases h1 : okT now = true
  · rw [if_pos h1, if_pos h1, if_pos h1]; exact rexpire_good h now h1
  · rw [if_neg h1, if_neg h1, if_neg h1]; exact rexpire_bad h now (by simpa using h1)
/-! ### Rows -/
def RRowsRel (l : List Seat) (w : World) (u v : Value) (wr : World) : Prop :=
  ∃ i : Nat, 1 ≤ i ∧ i ≤ 33 ∧ u = .int .i64 i ∧ wr.ownsRow w.heap.size 31 3 v (rowI l i).length (rowsOf l (rowI l i)) ∧ Below w.heap.size w wr
set_option maxRecDepth 100000 in
set_option maxHeartbeats 1000000 in
theorem rrows_any {b : Nat} {len : Int} {l : List Seat} {w : World} (h : RL w b len l) :
    Calls Try.prog 23 #[.pointer (some ⟨b, 0, none⟩)] w (RowsPost l w) := by
  have HH := Lib.hid h
  have hn := h.n
  have hbW := h.blk.lt
  have h0 := off0 h
  have hrfl := Below.refl w.heap.size w
  clear h
  go_enter Try.func23, Try.ntmps23
  go_wp2
  go_loopw [4, 3] (fun u v wr => RRowsRel l w u v wr) (fun u v _ => (33 - intOf u).toNat)
  case atStart =>
    have e0 : rowI l 1 = [] := by rw [rowI_succ, if_neg (by simpa using h0)]; simp [rowI]
    exact ⟨1, by omega, by omega, rfl, by rw [e0]; simpa [rowsOf] using World.ownsRow_nil _ _ _ _, hrfl⟩
  case round =>
    obtain ⟨k, hk1, hk33, rfl, hown, hb⟩ := hrel
    have hsz := hb.size
    have HB := Lib.hid hb
    have hP := HH.out.below hb hbW
    by_cases hk : k < 33
    · have hs := (sat_k hn hk).symm
      have hsd : sat l k = l[k]'(by omega) := sat_k hn hk
      generalize l[k]'(by omega) = s at hs hsd
      have hk2 : ((k : Int) != 0) = true := by simp; omega
      have hs' : l[k]'(by omega) = s := by rw [← sat_k hn hk, hsd]
      clear hs
      have hs := hs'
      clear hs'
      have c0 : wr.cell? ⟨b, 0, none⟩ = some (.int .i64 len) := hP.blk.cell 0
      have d0 : wr.cell? ⟨b, 1 + k * 3, none⟩ = some (.int .i64 (rof s).w) := by have := hP.L hk 0 (by omega); rw [hs] at this; exact this
      have d1 : wr.cell? ⟨b, 1 + k * 3 + 1, none⟩ = some (.int .u64 (rof s).inc) := by rw [hP.L hk 1 (by omega), hs]; rfl
      have d2 : wr.cell? ⟨b, 1 + k * 3 + 2, none⟩ = some (.int .i64 (rof s).til) := by rw [hP.L hk 2 (by omega), hs]; rfl
      have d3 : wr.cell? ⟨b, 100 + k, none⟩ = some (.int .u64 s.seen) := by rw [hP.S hk, hs]
      have hf : ∀ o, wr.frozen? ⟨b, o, none⟩ = false := hP.frozen
      have hl1 := hP.len1
      have hl2 := hP.len2
      have hbw := hP.blk.lt
      have hil : (rowI l k).length ≤ k := rowI_len l k
      cases ha : s.alive with
      | true =>
        have hw := (hP.wk hk hs ha).1
        rw [rof_on ha] at d0 d1 d2
        simp only [hw] at d0
        clear hP hb
        generalize hxi : (rowI l k).length = m at *
        have hm : (m : Nat) < 2147483648 := by omega
        go_wp2_with (at_builtin; refine wpl_append_row rfl rfl rfl rfl Try.underlying47 info_lease rfl rfl rfl (by decide) (by decide) hown ?c1 ?c2 ?c3 ?_)
        case c3 => rfl
        intro v' w1 hown2 hb1
        go_wp2
        go_roundw
        case rel =>
          refine ⟨k + 1, by omega, by omega, rfl, ?_, HB.out.trans hb1⟩
          rw [rowI_succ, hsd, if_pos ha, List.length_append, hxi, rowsOf, List.flatMap_append]
          have e2 : ([k].flatMap fun (k : Nat) => rowL (sat l k)) = [.int .i64 k, .int .u64 s.inc, .int .i64 s.til] := by simp [hsd, rowL, hw]
          rw [e2]
          exact hown2
        case measure => simp [intOf]; omega
      | false =>
        rw [rof_off ha] at d0 d1 d2
        clear hP hb
        go_wp2
        go_roundw
        case rel =>
          refine ⟨k + 1, by omega, by omega, rfl, ?_, HB.out⟩
          rw [rowI_succ, hsd, if_neg (by simp [ha])]
          exact hown
        case measure => simp [intOf]; omega
    · have : k = 33 := by omega
      subst this
      clear hP hb
      go_wp2
      go_ret
      exact ⟨_, rfl, hown, HB.out⟩
end Go.Proofs.Ytppkfpphefonoaa
