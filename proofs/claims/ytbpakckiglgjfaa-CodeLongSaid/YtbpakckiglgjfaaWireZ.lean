
/- The walks of the program's reader of bricks, fourth part: texts, what is left, the end; what no reader answers. No condition but that numbers fit their kinds. -/
import Derived.Test.YtbpakckiglgjfaaWireY
namespace Go.Proofs.Ytbpakckiglgjfaa
open Go.RowKit Wire
set_option linter.unusedVariables false
namespace Wire
def txV (s : ByteArray) (e most : Int) : ByteArray := (numS s e (cC s most)).extract 0 (numV s e (cC s most)).toNat
def txS (s : ByteArray) (e most : Int) : ByteArray := if numE s e (cC s most) = 0 then tl (numS s e (cC s most)) (numV s e (cC s most)).toNat else numS s e (cC s most)
def txE (s : ByteArray) (e most : Int) : Int := numE s e (cC s most)
def endE (s : ByteArray) (e : Int) : Int := if e = 0 ∧ s.size ≠ 0 then 8 else e
end Wire
def TextPost (b : Nat) (w : World) (v : ByteArray) (s' : ByteArray) (e' : Int) (e : Ending) (w' : World) : Prop := e = .returned (.string v) ∧ PR w' b s' e' ∧ Only (· = b) w w'
theorem numE_ne {s : ByteArray} {e c : Int} (he : e ≠ 0) : numE s e c = e := by unfold numE; rw [if_neg he]
theorem cnt_fit {s : ByteArray} {e most : Int} : (numV s e (cC s most)).toNat ≤ (numS s e (cC s most)).size := by
  by_cases h : numV s e (cC s most) = 0
  · rw [h]; simp
  · have h1 := cnt_ok (.inl h)
    rw [h1.1, h1.2.1]
    have h2 := h1.2.2.2.2
    have h3 : (rdS s).2.2 = 0 := by
      unfold numV at h
      split at h
      · rename_i hh; exact hh.2.1
      · exact absurd rfl h
    rw [tl_len _ _ (rd_le h3)]
    unfold nI at h2
    have := rd_le h3
    omega
set_option maxHeartbeats 400000 in
theorem perr_any {b : Nat} {s : ByteArray} {e0 : Int} {w : World} (h : PR w b s e0) : Calls Try.prog 34 #[.pointer (some ⟨b, 0, none⟩)] w fun e w' => e = .returned (.int .i64 e0) ∧ w = w' := by
  have HH := Lib.hid h
  have c1 := h.c1
  clear h
  go_enter Try.func34, Try.ntmps34
  go_wp2_with (go_at_call 60; ((with_reducible refine (none_any HH.out).mono ?_); rintro e w' ⟨rfl, rfl⟩))
  go_ret
  exact ⟨rfl, rfl⟩
theorem empty_of {s : ByteArray} (h : s.size = 0) : s = ⟨#[]⟩ := by
  obtain ⟨d⟩ := s
  have h' : d.size = 0 := h
  have : d = #[] := Array.eq_empty_of_size_eq_zero h'
  rw [this]
theorem ne_empty {s : ByteArray} (h : s.size ≠ 0) : (!s.toList.isEmpty) = true := by
  rw [ByteArray.toList_eq]
  simp
  intro e
  apply h
  simp [ByteArray.size, e]
set_option maxHeartbeats 1000000 in
theorem pend_any {b : Nat} {s : ByteArray} {e0 : Int} {w : World} (h : PR w b s e0) : Calls Try.prog 37 #[.pointer (some ⟨b, 0, none⟩)] w (IntPost b w (endE s e0) s (endE s e0)) := by
  have HH := Lib.hid h
  have c0 := h.c0
  have c1 := h.c1
  have hf : ∀ o, w.frozen? ⟨b, o, none⟩ = false := h.frozen
  clear h
  by_cases he : e0 = 0
  · subst he
    by_cases hs : s.size = 0
    · have := empty_of hs
      subst this
      have e1 : endE ⟨#[]⟩ 0 = 0 := by unfold endE; rw [if_neg (by simp [ByteArray.size])]
      rw [e1]
      clear hs e1
      go_enter Try.func37, Try.ntmps37
      go_wp2_with (go_at_call 60; ((with_reducible refine (none_any HH.out).mono ?_); rintro e w' ⟨rfl, rfl⟩))
      go_ret
      exact ⟨rfl, HH.out, Only.refl _ _⟩
    · have e1 : endE s 0 = 8 := by unfold endE; rw [if_pos ⟨rfl, hs⟩]
      rw [e1]
      have hne := ne_empty hs
      clear hs e1
      go_enter Try.func37, Try.ntmps37
      go_wp2_with (go_at_call 60; ((with_reducible refine (none_any HH.out).mono ?_); rintro e w' ⟨rfl, rfl⟩))
      go_ret
      exact ⟨rfl, HH.out.setE 8, (Only.refl _ _).set1⟩
  · have e1 : endE s e0 = e0 := by unfold endE; rw [if_neg (fun h => he h.1)]
    rw [e1]
    have he1 : (e0 == 0) = false := by simpa using he
    clear he e1
    go_enter Try.func37, Try.ntmps37
    go_wp2_with (go_at_call 60; ((with_reducible refine (none_any HH.out).mono ?_); rintro e w' ⟨rfl, rfl⟩))
    go_ret
    exact ⟨rfl, HH.out, Only.refl _ _⟩
def WNewPost (s : ByteArray) (w : World) (e : Ending) (w' : World) : Prop := e = .returned (.pointer (some ⟨w.heap.size, 0, none⟩)) ∧ PR w' w.heap.size s 0 ∧ Below w.heap.size w w'
set_option maxHeartbeats 400000 in
theorem wnew_any (s : ByteArray) (hs : s.size ≤ maxLen) (w : World) : Calls Try.prog 32 #[.string s] w (WNewPost s w) := by
  go_enter Try.func32, Try.ntmps32
  go_wp2
  go_ret
  exact ⟨rfl, ⟨Blk.new w _ _, hs⟩, (Below.refl _ _).alloc (Nat.le_refl _) _⟩
/-! ### No reader -/
theorem NR.grow {w w' : World} {v : Value} (h : NR w v) (hb : Below w.heap.size w w') : NR w' v := by
  rcases h with rfl | ⟨b, rfl, hc⟩
  · exact .inl rfl
  · refine .inr ⟨b, rfl, ?_⟩
    have hlt : b < w.heap.size := by
      rcases Nat.lt_or_ge b w.heap.size with h | h
      · exact h
      · simp [World.cell?, Array.getElem?_eq_none h] at hc
    rw [hb.cell hlt]; exact hc
set_option maxHeartbeats 400000 in
theorem nuint {v : Value} {w : World} (h : NR w v) (most : Int) : Calls Try.prog 33 #[v, .int .u64 most] w fun e w' => e = .returned (.int .u64 0) ∧ Below w.heap.size w w' := by
  have hb := (Below.refl w.heap.size w).alloc (Nat.le_refl _) (.cells #[.int .u64 most] 49)
  have HN := Lib.hid (fun f => num_none (f := f) (h.grow hb))
  clear h
  go_enter Try.func33, Try.ntmps33
  go_wp2_with (go_at_call 58; ((with_reducible refine (HN.out _).mono ?_); rintro e w' ⟨rfl, rfl⟩))
  go_ret
  exact ⟨rfl, hb⟩
set_option maxHeartbeats 400000 in
theorem nint {v : Value} {w : World} (h : NR w v) (lo hi : Int) : Calls Try.prog 62 #[v, .int .i64 lo, .int .i64 hi] w fun e w' => e = .returned (.int .i64 0) ∧ Below w.heap.size w w' := by
  have hb := ((Below.refl w.heap.size w).alloc (Nat.le_refl _) (.cells #[.int .i64 lo] 2)).alloc (by simp) (.cells #[.int .i64 hi] 2)
  have HN := Lib.hid (fun f => num_none (f := f) (h.grow hb))
  have HZ := Lib.hid (fun w => zag_any 0 (by unfold U64; omega) w)
  clear h
  go_enter Try.func62, Try.ntmps62
  go_wp2_with (first | (go_at_call 58; ((with_reducible refine (HN.out _).mono ?_); rintro e w' ⟨rfl, rfl⟩)) | (go_at_call 77; ((with_reducible refine (HZ.out _).mono ?_); rintro e w'' ⟨rfl, rfl⟩)))
  go_ret
  exact ⟨rfl, hb⟩
set_option maxHeartbeats 400000 in
theorem ncounted {v : Value} {w : World} (h : NR w v) (most : Int) : Calls Try.prog 61 #[v, .int .i64 most] w fun e w' => e = .returned (.int .u64 0) ∧ Below w.heap.size w w' := by
  have hb := ((Below.refl w.heap.size w).alloc (Nat.le_refl _) (.cells #[v] 58)).alloc (by simp) (.cells #[.int .i64 most] 3)
  have HN := Lib.hid (fun f => num_none (f := f) (h.grow hb))
  rcases h with rfl | ⟨b, rfl, hc⟩
  · go_enter Try.func61, Try.ntmps61
    go_wp2_with (go_at_call 58; ((with_reducible refine (HN.out _).mono ?_); rintro e w' ⟨rfl, rfl⟩))
    go_ret
    exact ⟨rfl, hb⟩
  · clear hc
    go_enter Try.func61, Try.ntmps61
    go_wp2_with (go_at_call 58; ((with_reducible refine (HN.out _).mono ?_); rintro e w' ⟨rfl, rfl⟩))
    go_ret
    exact ⟨rfl, hb⟩
set_option maxHeartbeats 400000 in
theorem ncount {v : Value} {w : World} (h : NR w v) (most : Int) : Calls Try.prog 35 #[v, .int .i64 most] w fun e w' => e = .returned (.int .i64 0) ∧ Below w.heap.size w w' := by
  have HN := Lib.hid (ncounted h most)
  clear h
  go_enter Try.func35, Try.ntmps35
  go_wp2_with (go_at_call 61; ((with_reducible refine HN.out.mono ?_); rintro e w' ⟨rfl, hb⟩))
  go_ret
  exact ⟨rfl, hb⟩
set_option maxHeartbeats 400000 in
theorem nerr {v : Value} {w : World} (h : NR w v) : Calls Try.prog 34 #[v] w fun e w' => e = .returned (.int .i64 1) ∧ w = w' := by
  have HX := Lib.hid (none_none h)
  clear h
  go_enter Try.func34, Try.ntmps34
  go_wp2_with (go_at_call 60; ((with_reducible refine HX.out.mono ?_); rintro e w' ⟨rfl, rfl⟩))
  go_ret
  exact ⟨rfl, rfl⟩
set_option maxHeartbeats 400000 in
theorem nend {v : Value} {w : World} (h : NR w v) : Calls Try.prog 37 #[v] w fun e w' => e = .returned (.int .i64 1) ∧ w = w' := by
  have HX := Lib.hid (none_none h)
  clear h
  go_enter Try.func37, Try.ntmps37
  go_wp2_with (go_at_call 60; ((with_reducible refine HX.out.mono ?_); rintro e w' ⟨rfl, rfl⟩))
  go_ret
  exact ⟨rfl, rfl⟩
end Go.Proofs.Ytbpakckiglgjfaa
