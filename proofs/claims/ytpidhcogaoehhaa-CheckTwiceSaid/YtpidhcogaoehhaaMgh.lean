import Derived.Test.YtpidhcogaoehhaaWireW
import Derived.Test.YtpidhcogaoehhaaMgc
import Derived.Test.YtpidhcogaoehhaaMga
import Derived.Deep.Slices
import Derived.OpenShut

/- The walks of the program's reader of bricks, second part: its methods. No condition but that numbers fit their kinds. -/
namespace Go.Proofs.Ytpidhcogaoehhaa
open Go.RowKit Wire
set_option linter.unusedVariables false
/-! ### The checks -/
set_option maxHeartbeats 400000 in
theorem uint1_any (x n most : Int) (q : Nat) {w : World} (hq : w.cell? ⟨q, 0, none⟩ = some (.int .u64 most)) :
    Calls Try.prog 51 #[.int .u64 x, .int .i64 n, .pointer (some ⟨q, 0, none⟩)] w fun e w' => e = .returned (.tuple #[.int .i64 n, .int .i64 (if most < x then 9 else 0)]) ∧ w = w' := by
  by_cases h : most < x
  · rw [if_pos h]
    go_enter Try.func51, Try.ntmps51
    go_wp2
    go_ret2
    exact ⟨rfl, rfl⟩
  · rw [if_neg h]
    have h' : x ≤ most := by omega
    clear h
    go_enter Try.func51, Try.ntmps51
    go_wp2
    go_ret2
    exact ⟨rfl, rfl⟩
set_option maxHeartbeats 400000 in
theorem int1_any (x n lo hi : Int) (q r : Nat) {w : World} (hx : U64 x) (hq : w.cell? ⟨q, 0, none⟩ = some (.int .i64 lo)) (hr : w.cell? ⟨r, 0, none⟩ = some (.int .i64 hi)) :
    Calls Try.prog 82 #[.int .u64 x, .int .i64 n, .pointer (some ⟨q, 0, none⟩), .pointer (some ⟨r, 0, none⟩)] w fun e w' => e = .returned (.tuple #[.int .i64 n, .int .i64 (if Num.zag x < lo ∨ hi < Num.zag x then 9 else 0)]) ∧ w = w' := by
  have HZ := Lib.hid (zag_any x hx w)
  clear hx
  by_cases h : Num.zag x < lo
  · rw [if_pos (.inl h)]
    go_enter Try.func82, Try.ntmps82
    go_wp2_with (go_at_call 81; ((with_reducible refine HZ.out.mono ?_); rintro e w' ⟨rfl, rfl⟩))
    go_ret2
    exact ⟨rfl, rfl⟩
  · have h' : lo ≤ Num.zag x := by omega
    by_cases h2 : hi < Num.zag x
    · rw [if_pos (.inr h2)]
      clear h
      go_enter Try.func82, Try.ntmps82
      go_wp2_with (go_at_call 81; ((with_reducible refine HZ.out.mono ?_); rintro e w' ⟨rfl, rfl⟩))
      go_ret2
      exact ⟨rfl, rfl⟩
    · rw [if_neg (fun hh => hh.elim h h2)]
      have h2' : Num.zag x ≤ hi := by omega
      clear h h2
      go_enter Try.func82, Try.ntmps82
      go_wp2_with (go_at_call 81; ((with_reducible refine HZ.out.mono ?_); rintro e w' ⟨rfl, rfl⟩))
      go_ret2
      exact ⟨rfl, rfl⟩
def has (x : Nat → Int) (n : Nat) (y : Int) : Bool := (List.range n).any fun i => x i == y
theorem has_succ (x : Nat → Int) (n : Nat) (y : Int) : has x (n + 1) y = (has x n y || x n == y) := by simp [has, List.range_succ]
theorem has_of {x : Nat → Int} {n : Nat} {y : Int} {k : Nat} (h : k < n) (e : x k = y) : has x n y = true := by
  unfold has; rw [List.any_eq_true]; exact ⟨k, List.mem_range.2 h, by simpa using e⟩
namespace Wire
/-- The fault of a count. -/
def cntC (s : ByteArray) (x n most : Int) : Int := if most < 0 ∨ most < x then 4 else if s.size - n < x then 10 else 0
end Wire
set_option maxHeartbeats 1000000 in
theorem cnt1_any (x n most : Int) (q r b : Nat) {s : ByteArray} {e0 : Int} {w : World} (h : PR w b s e0) (hx : U64 x) (hn : 0 ≤ n) (hns : n ≤ s.size) (hm : I64 most) (hq : w.cell? ⟨q, 0, none⟩ = some (.int .i64 most)) (hr : w.cell? ⟨r, 0, none⟩ = some (.pointer (some ⟨b, 0, none⟩))) :
    Calls Try.prog 80 #[.int .u64 x, .int .i64 n, .pointer (some ⟨q, 0, none⟩), .pointer (some ⟨r, 0, none⟩)] w fun e w' => e = .returned (.tuple #[.int .i64 n, .int .i64 (cntC s x n most)]) ∧ w = w' := by
  have c0 := h.c0
  have hsz := h.sz
  unfold maxLen at hsz
  have hx0 := hx.1
  have hx1 := hx.2
  have hm0 := hm.1
  have hm1 := hm.2
  clear h hx hm
  by_cases h1 : most < 0
  · have e1 : cntC s x n most = 4 := by unfold cntC; rw [if_pos (.inl h1)]
    rw [e1]
    go_enter Try.func80, Try.ntmps80
    go_wp2
    go_ret2
    exact ⟨rfl, rfl⟩
  · have h1' : 0 ≤ most := by omega
    clear h1
    by_cases h2 : most < x
    · have e1 : cntC s x n most = 4 := by unfold cntC; rw [if_pos (.inr h2)]
      rw [e1]
      go_enter Try.func80, Try.ntmps80
      go_wp2
      go_ret2
      exact ⟨rfl, rfl⟩
    · have h2' : x ≤ most := by omega
      by_cases h3 : s.size - n < x
      · have e1 : cntC s x n most = 10 := by unfold cntC; rw [if_neg (by omega), if_pos h3]
        rw [e1]
        clear h2
        go_enter Try.func80, Try.ntmps80
        go_wp2
        go_ret2
        exact ⟨rfl, rfl⟩
      · have e1 : cntC s x n most = 0 := by unfold cntC; rw [if_neg (by omega), if_neg h3]
        rw [e1]
        have h3' : x ≤ s.size - n := by omega
        clear h2 h3
        go_enter Try.func80, Try.ntmps80
        go_wp2
        go_ret2
        exact ⟨rfl, rfl⟩
end Go.Proofs.Ytpidhcogaoehhaa


/- The walks of the program's reader of bricks, third part: its methods. No condition but that numbers fit their kinds. -/
namespace Go.Proofs.Ytpidhcogaoehhaa
open Go.RowKit Wire
set_option linter.unusedVariables false
namespace Wire
def xI (s : ByteArray) : Int := ((rdS s).1 : Nat)
def nI (s : ByteArray) : Int := ((rdS s).2.1 : Nat)
def uC (s : ByteArray) (most : Int) : Int := if most < xI s then 9 else 0
def iC (s : ByteArray) (lo hi : Int) : Int := if Num.zag (xI s) < lo ∨ hi < Num.zag (xI s) then 9 else 0
def tC (s : ByteArray) (xs : Nat → Int) (n : Nat) : Int := if has xs n (xI s) = true then 0 else 8
def cC (s : ByteArray) (most : Int) : Int := cntC s (xI s) (nI s) most
end Wire
theorem xI_U64 (s : ByteArray) : U64 (xI s) := rdS_U64 s
theorem numV_U64 (s : ByteArray) (e c : Int) : U64 (numV s e c) := by
  unfold numV
  split
  · exact rdS_U64 s
  · unfold U64; omega
theorem nI_le {s : ByteArray} (h : (rdS s).2.2 = 0) : nI s ≤ s.size := by unfold nI; have := rd_le h; omega
theorem cnt_ok {s : ByteArray} {e most : Int} (h : numV s e (cC s most) ≠ 0 ∨ (e = 0 ∧ numE s e (cC s most) = 0)) : numV s e (cC s most) = xI s ∧ numS s e (cC s most) = tl s (rdS s).2.1 ∧ numE s e (cC s most) = 0 ∧ xI s ≤ most ∧ xI s ≤ s.size - nI s := by
  have key : e = 0 ∧ (rdS s).2.2 = 0 ∧ cC s most = 0 := by
    rcases h with h | ⟨h1, h2⟩
    · unfold numV at h
      split at h
      · assumption
      · exact absurd rfl h
    · unfold numE at h2
      rw [if_pos h1] at h2
      split at h2
      · exact ⟨h1, by assumption, h2⟩
      · omega
  have hc := key.2.2
  unfold cC cntC at hc
  refine ⟨by unfold numV; rw [if_pos key]; rfl, by unfold numS; rw [if_pos key], by unfold numE; rw [if_pos key.1, if_pos key.2.1]; exact key.2.2, ?_, ?_⟩
  · split at hc
    · omega
    · omega
  · split at hc
    · omega
    · split at hc <;> omega
theorem numV_zero {s : ByteArray} {e c : Int} (h : numE s e c ≠ 0) : numV s e c = 0 := by
  unfold numE at h
  unfold numV
  split
  · rename_i hh; rw [if_pos hh.1, if_pos hh.2.1] at h; exact absurd hh.2.2 h
  · rfl
theorem tl_len (s : ByteArray) (n : Nat) (h : n ≤ s.size) : (tl s n).size = s.size - n := by unfold tl; simp
theorem cnt_range {s : ByteArray} {e most : Int} (hm : I64 most) : 0 ≤ numV s e (cC s most) ∧ numV s e (cC s most) ≤ 9223372036854775807 := by
  by_cases h : numV s e (cC s most) = 0
  · rw [h]; omega
  · have := cnt_ok (.inl h)
    have h1 := hm.2
    have h2 := (numV_U64 s e (cC s most)).1
    omega
/-! ### The methods -/
set_option maxHeartbeats 1000000 in
theorem puint_any {b : Nat} {s : ByteArray} {e0 : Int} {w : World} (h : PR w b s e0) (most : Int) :
    Calls Try.prog 27 #[.pointer (some ⟨b, 0, none⟩), .int .u64 most] w (NumPost b w (numV s e0 (uC s most)) (numS s e0 (uC s most)) (numE s e0 (uC s most))) := by
  have HN := Lib.hid (num_uint (h.alloc (.cells #[.int .u64 most] 60)) w.heap.size (uC s most) (fun _ => uint1_any (xI s) (nI s) most w.heap.size (by rw [(Blk.new w _ _).cell 0]; rfl)))
  clear h
  go_enter Try.func27, Try.ntmps27
  go_wp2_with (go_at_call 50; ((with_reducible refine HN.out.mono ?_); rintro e w' ⟨rfl, hP, hO⟩))
  go_ret
  exact ⟨rfl, hP, ((Only.refl _ _).alloc _).trans hO⟩
def IntPost (b : Nat) (w : World) (v : Int) (s' : ByteArray) (e' : Int) (e : Ending) (w' : World) : Prop := e = .returned (.int .i64 v) ∧ PR w' b s' e' ∧ Only (· = b) w w'
set_option maxHeartbeats 1000000 in
theorem pint_any {b : Nat} {s : ByteArray} {e0 : Int} {w : World} (h : PR w b s e0) (lo hi : Int) :
    Calls Try.prog 54 #[.pointer (some ⟨b, 0, none⟩), .int .i64 lo, .int .i64 hi] w (IntPost b w (Num.zag (numV s e0 (iC s lo hi))) (numS s e0 (iC s lo hi)) (numE s e0 (iC s lo hi))) := by
  have HN := Lib.hid (num_int ((h.alloc (.cells #[.int .i64 lo] 2)).alloc (.cells #[.int .i64 hi] 2)) w.heap.size (w.heap.size + 1) (iC s lo hi)
    (fun _ => int1_any (xI s) (nI s) lo hi w.heap.size (w.heap.size + 1) (xI_U64 s) (by rw [((Blk.new w _ _).alloc _).cell 0]; rfl) (by
      have := (Blk.new (w.alloc (.cells #[.int .i64 lo] 2)) 2 #[.int .i64 hi]).cell 0
      rw [show (w.alloc (.cells #[.int .i64 lo] 2)).heap.size = w.heap.size + 1 from by simp] at this
      rw [this]; rfl)))
  have HU := numV_U64 s e0 (iC s lo hi)
  have HZ := Lib.hid (fun w => zag_any _ HU w)
  clear h HU
  go_enter Try.func54, Try.ntmps54
  go_wp2_with (first | (go_at_call 50; ((with_reducible refine HN.out.mono ?_); rintro e w' ⟨rfl, hP, hO⟩)) | (go_at_call 81; ((with_reducible refine (HZ.out _).mono ?_); rintro e w'' ⟨rfl, rfl⟩)))
  go_ret
  exact ⟨rfl, hP, (((Only.refl _ _).alloc _).alloc _).trans hO⟩
theorem Slic.alloc {w : World} {v : Value} {n : Nat} {f : Nat → Value} (h : Slic w v n f) (o : Obj) : Slic (w.alloc o) v n f := by
  obtain ⟨p, cap, rfl, hS⟩ := h
  refine ⟨p, cap, rfl, fun hn => ?_⟩
  obtain ⟨g, off, rfl, hg, hx⟩ := hS hn
  exact ⟨g, off, rfl, by simp; omega, fun i hi => by rw [← hx i hi]; simp only [World.cell?]; rw [Below.heap_alloc _ _ _ hg]⟩
namespace Wire
def xs01 (i : Nat) : Int := if i = 0 then 0 else 1
def bC (s : ByteArray) : Int := tC s xs01 2
end Wire
def BoolPost (b : Nat) (w : World) (v : Bool) (s' : ByteArray) (e' : Int) (e : Ending) (w' : World) : Prop := e = .returned (.bool v) ∧ PR w' b s' e' ∧ Only (· = b) w w'
set_option maxHeartbeats 1000000 in
theorem pcounted_any {b : Nat} {s : ByteArray} {e0 : Int} {w : World} (h : PR w b s e0) (most : Int) (hm : I64 most) :
    Calls Try.prog 53 #[.pointer (some ⟨b, 0, none⟩), .int .i64 most] w (NumPost b w (numV s e0 (cC s most)) (numS s e0 (cC s most)) (numE s e0 (cC s most))) := by
  have HN := Lib.hid (num_cnt ((h.alloc (.cells #[.pointer (some ⟨b, 0, none⟩)] 62)).alloc (.cells #[.int .i64 most] 3)) (w.heap.size + 1) w.heap.size (cC s most)
    (fun hr => cnt1_any (xI s) (nI s) most (w.heap.size + 1) w.heap.size b ((h.alloc (.cells #[.pointer (some ⟨b, 0, none⟩)] 62)).alloc (.cells #[.int .i64 most] 3)) (xI_U64 s) (by unfold nI; omega) (nI_le hr) hm (by
      have := (Blk.new (w.alloc (.cells #[.pointer (some ⟨b, 0, none⟩)] 62)) 3 #[.int .i64 most]).cell 0
      rw [show (w.alloc (.cells #[.pointer (some ⟨b, 0, none⟩)] 62)).heap.size = w.heap.size + 1 from by simp] at this
      rw [this]; rfl) (by rw [((Blk.new w _ _).alloc _).cell 0]; rfl)))
  clear h hm
  go_enter Try.func53, Try.ntmps53
  go_wp2_with (go_at_call 50; ((with_reducible refine HN.out.mono ?_); rintro e w' ⟨rfl, hP, hO⟩))
  go_ret
  exact ⟨rfl, hP, (((Only.refl _ _).alloc _).alloc _).trans hO⟩
set_option maxHeartbeats 1000000 in
theorem pcount_any {b : Nat} {s : ByteArray} {e0 : Int} {w : World} (h : PR w b s e0) (most : Int) (hm : I64 most) :
    Calls Try.prog 29 #[.pointer (some ⟨b, 0, none⟩), .int .i64 most] w (IntPost b w (numV s e0 (cC s most)) (numS s e0 (cC s most)) (numE s e0 (cC s most))) := by
  have HN := Lib.hid (pcounted_any h most hm)
  have hr := cnt_range (s := s) (e := e0) hm
  have hr1 := hr.1
  have hr2 := hr.2
  clear h hm hr
  generalize numV s e0 (cC s most) = x at *
  go_enter Try.func29, Try.ntmps29
  go_wp2_with (go_at_call 53; ((with_reducible refine HN.out.mono ?_); rintro e w' ⟨rfl, hP, hO⟩))
  go_ret
  exact ⟨rfl, hP, hO⟩
end Go.Proofs.Ytpidhcogaoehhaa


/- The walks of the program's reader of bricks, fourth part: texts, what is left, the end; what no reader answers. No condition but that numbers fit their kinds. -/
namespace Go.Proofs.Ytpidhcogaoehhaa
open Go.RowKit Wire
set_option linter.unusedVariables false
namespace Wire
def txV (s : ByteArray) (e most : Int) : ByteArray := (numS s e (cC s most)).extract 0 (numV s e (cC s most)).toNat
def txS (s : ByteArray) (e most : Int) : ByteArray := if numE s e (cC s most) = 0 then tl (numS s e (cC s most)) (numV s e (cC s most)).toNat else numS s e (cC s most)
def txE (s : ByteArray) (e most : Int) : Int := numE s e (cC s most)
def endE (s : ByteArray) (e : Int) : Int := if e = 0 ∧ s.size ≠ 0 then 8 else e
end Wire
def TextPost (b : Nat) (w : World) (v : ByteArray) (s' : ByteArray) (e' : Int) (e : Ending) (w' : World) : Prop := e = .returned (.string v) ∧ PR w' b s' e' ∧ Only (· = b) w w'
theorem numE_ne {s : ByteArray} {e c : Int} (he : e ≠ 0) : numE s e c = e := by unfold numE; rw [if_neg he]
theorem cnt_fit {s : ByteArray} {e most : Int} : (numV s e (cC s most)).toNat ≤ (numS s e (cC s most)).size := by
  by_cases h : numV s e (cC s most) = 0
  · rw [h]; simp
  · have h1 := cnt_ok (.inl h)
    rw [h1.1, h1.2.1]
    have h2 := h1.2.2.2.2
    have h3 : (rdS s).2.2 = 0 := by
      unfold numV at h
      split at h
      · rename_i hh; exact hh.2.1
      · exact absurd rfl h
    rw [tl_len _ _ (rd_le h3)]
    unfold nI at h2
    have := rd_le h3
    omega
set_option maxHeartbeats 400000 in
theorem perr_any {b : Nat} {s : ByteArray} {e0 : Int} {w : World} (h : PR w b s e0) : Calls Try.prog 28 #[.pointer (some ⟨b, 0, none⟩)] w fun e w' => e = .returned (.int .i64 e0) ∧ w = w' := by
  have HH := Lib.hid h
  have c1 := h.c1
  clear h
  go_enter Try.func28, Try.ntmps28
  go_wp2_with (go_at_call 52; ((with_reducible refine (none_any HH.out).mono ?_); rintro e w' ⟨rfl, rfl⟩))
  go_ret
  exact ⟨rfl, rfl⟩
theorem empty_of {s : ByteArray} (h : s.size = 0) : s = ⟨#[]⟩ := by
  obtain ⟨d⟩ := s
  have h' : d.size = 0 := h
  have : d = #[] := Array.eq_empty_of_size_eq_zero h'
  rw [this]
theorem ne_empty {s : ByteArray} (h : s.size ≠ 0) : (!s.toList.isEmpty) = true := by
  rw [ByteArray.toList_eq]
  simp
  intro e
  apply h
  simp [ByteArray.size, e]
set_option maxHeartbeats 1000000 in
theorem pend_any {b : Nat} {s : ByteArray} {e0 : Int} {w : World} (h : PR w b s e0) : Calls Try.prog 31 #[.pointer (some ⟨b, 0, none⟩)] w (IntPost b w (endE s e0) s (endE s e0)) := by
  have HH := Lib.hid h
  have c0 := h.c0
  have c1 := h.c1
  have hf : ∀ o, w.frozen? ⟨b, o, none⟩ = false := h.frozen
  clear h
  by_cases he : e0 = 0
  · subst he
    by_cases hs : s.size = 0
    · have := empty_of hs
      subst this
      have e1 : endE ⟨#[]⟩ 0 = 0 := by unfold endE; rw [if_neg (by simp [ByteArray.size])]
      rw [e1]
      clear hs e1
      go_enter Try.func31, Try.ntmps31
      go_wp2_with (go_at_call 52; ((with_reducible refine (none_any HH.out).mono ?_); rintro e w' ⟨rfl, rfl⟩))
      go_ret
      exact ⟨rfl, HH.out, Only.refl _ _⟩
    · have e1 : endE s 0 = 8 := by unfold endE; rw [if_pos ⟨rfl, hs⟩]
      rw [e1]
      have hne := ne_empty hs
      clear hs e1
      go_enter Try.func31, Try.ntmps31
      go_wp2_with (go_at_call 52; ((with_reducible refine (none_any HH.out).mono ?_); rintro e w' ⟨rfl, rfl⟩))
      go_ret
      exact ⟨rfl, HH.out.setE 8, (Only.refl _ _).set1⟩
  · have e1 : endE s e0 = e0 := by unfold endE; rw [if_neg (fun h => he h.1)]
    rw [e1]
    have he1 : (e0 == 0) = false := by simpa using he
    clear he e1
    go_enter Try.func31, Try.ntmps31
    go_wp2_with (go_at_call 52; ((with_reducible refine (none_any HH.out).mono ?_); rintro e w' ⟨rfl, rfl⟩))
    go_ret
    exact ⟨rfl, HH.out, Only.refl _ _⟩
def WNewPost (s : ByteArray) (w : World) (e : Ending) (w' : World) : Prop := e = .returned (.pointer (some ⟨w.heap.size, 0, none⟩)) ∧ PR w' w.heap.size s 0 ∧ Below w.heap.size w w'
set_option maxHeartbeats 400000 in
theorem wnew_any (s : ByteArray) (hs : s.size ≤ maxLen) (w : World) : Calls Try.prog 26 #[.string s] w (WNewPost s w) := by
  go_enter Try.func26, Try.ntmps26
  go_wp2
  go_ret
  exact ⟨rfl, ⟨Blk.new w _ _, hs⟩, (Below.refl _ _).alloc (Nat.le_refl _) _⟩
/-! ### No reader -/
theorem NR.grow {w w' : World} {v : Value} (h : NR w v) (hb : Below w.heap.size w w') : NR w' v := by
  rcases h with rfl | ⟨b, rfl, hc⟩
  · exact .inl rfl
  · refine .inr ⟨b, rfl, ?_⟩
    have hlt : b < w.heap.size := by
      rcases Nat.lt_or_ge b w.heap.size with h | h
      · exact h
      · simp [World.cell?, Array.getElem?_eq_none h] at hc
    rw [hb.cell hlt]; exact hc
set_option maxHeartbeats 400000 in
theorem nuint {v : Value} {w : World} (h : NR w v) (most : Int) : Calls Try.prog 27 #[v, .int .u64 most] w fun e w' => e = .returned (.int .u64 0) ∧ Below w.heap.size w w' := by
  have hb := (Below.refl w.heap.size w).alloc (Nat.le_refl _) (.cells #[.int .u64 most] 60)
  have HN := Lib.hid (fun f => num_none (f := f) (h.grow hb))
  clear h
  go_enter Try.func27, Try.ntmps27
  go_wp2_with (go_at_call 50; ((with_reducible refine (HN.out _).mono ?_); rintro e w' ⟨rfl, rfl⟩))
  go_ret
  exact ⟨rfl, hb⟩
set_option maxHeartbeats 400000 in
theorem nint {v : Value} {w : World} (h : NR w v) (lo hi : Int) : Calls Try.prog 54 #[v, .int .i64 lo, .int .i64 hi] w fun e w' => e = .returned (.int .i64 0) ∧ Below w.heap.size w w' := by
  have hb := ((Below.refl w.heap.size w).alloc (Nat.le_refl _) (.cells #[.int .i64 lo] 2)).alloc (by simp) (.cells #[.int .i64 hi] 2)
  have HN := Lib.hid (fun f => num_none (f := f) (h.grow hb))
  have HZ := Lib.hid (fun w => zag_any 0 (by unfold U64; omega) w)
  clear h
  go_enter Try.func54, Try.ntmps54
  go_wp2_with (first | (go_at_call 50; ((with_reducible refine (HN.out _).mono ?_); rintro e w' ⟨rfl, rfl⟩)) | (go_at_call 81; ((with_reducible refine (HZ.out _).mono ?_); rintro e w'' ⟨rfl, rfl⟩)))
  go_ret
  exact ⟨rfl, hb⟩
set_option maxHeartbeats 400000 in
theorem ncounted {v : Value} {w : World} (h : NR w v) (most : Int) : Calls Try.prog 53 #[v, .int .i64 most] w fun e w' => e = .returned (.int .u64 0) ∧ Below w.heap.size w w' := by
  have hb := ((Below.refl w.heap.size w).alloc (Nat.le_refl _) (.cells #[v] 62)).alloc (by simp) (.cells #[.int .i64 most] 3)
  have HN := Lib.hid (fun f => num_none (f := f) (h.grow hb))
  rcases h with rfl | ⟨b, rfl, hc⟩
  · go_enter Try.func53, Try.ntmps53
    go_wp2_with (go_at_call 50; ((with_reducible refine (HN.out _).mono ?_); rintro e w' ⟨rfl, rfl⟩))
    go_ret
    exact ⟨rfl, hb⟩
  · clear hc
    go_enter Try.func53, Try.ntmps53
    go_wp2_with (go_at_call 50; ((with_reducible refine (HN.out _).mono ?_); rintro e w' ⟨rfl, rfl⟩))
    go_ret
    exact ⟨rfl, hb⟩
set_option maxHeartbeats 400000 in
theorem ncount {v : Value} {w : World} (h : NR w v) (most : Int) : Calls Try.prog 29 #[v, .int .i64 most] w fun e w' => e = .returned (.int .i64 0) ∧ Below w.heap.size w w' := by
  have HN := Lib.hid (ncounted h most)
  clear h
  go_enter Try.func29, Try.ntmps29
  go_wp2_with (go_at_call 53; ((with_reducible refine HN.out.mono ?_); rintro e w' ⟨rfl, hb⟩))
  go_ret
  exact ⟨rfl, hb⟩
set_option maxHeartbeats 400000 in
theorem nerr {v : Value} {w : World} (h : NR w v) : Calls Try.prog 28 #[v] w fun e w' => e = .returned (.int .i64 1) ∧ w = w' := by
  have HX := Lib.hid (none_none h)
  clear h
  go_enter Try.func28, Try.ntmps28
  go_wp2_with (go_at_call 52; ((with_reducible refine HX.out.mono ?_); rintro e w' ⟨rfl, rfl⟩))
  go_ret
  exact ⟨rfl, rfl⟩
set_option maxHeartbeats 400000 in
theorem nend {v : Value} {w : World} (h : NR w v) : Calls Try.prog 31 #[v] w fun e w' => e = .returned (.int .i64 1) ∧ w = w' := by
  have HX := Lib.hid (none_none h)
  clear h
  go_enter Try.func31, Try.ntmps31
  go_wp2_with (go_at_call 52; ((with_reducible refine HX.out.mono ?_); rintro e w' ⟨rfl, rfl⟩))
  go_ret
  exact ⟨rfl, rfl⟩
end Go.Proofs.Ytpidhcogaoehhaa


/- An argument that is a slice, opened out of its reading: what its elements' cells hold. No condition. -/
namespace Go.Proofs.Ytpidhcogaoehhaa
open Go.RowKit Go.ChangeShapes Go.WideShapes Go.Deep
set_option linter.unusedVariables false
section
variable {H : Type} {enc : TypeId × Value → H} {P : Program} {w : World} {base : Nat} {held : Bool} {n : Nat}
/-- One field of a struct's cells. -/
theorem open_field {t : TypeId} {fs : Array Field} {fuel : Nat} {cs : List Value} {x : DataW H × List MemPlace} (hs : P.underlying t = some (.struct fs)) (h : DataW.trod enc P w base (fun _ => true) held fuel t cs = some x)
    (i : Nat) (f : Field) (hf : fs[i]? = some f) (o : Nat) (ho : f.offset = o) (hc : P.cellsOf f.type = 1) (hlt : o < cs.length) :
    ∃ m y, DataW.trod enc P w base (fun _ => true) held m f.type [cs.getD o undef] = some y := by
  obtain ⟨xs, m, _, _, _, hl, hx⟩ := DataW.trod_struct hs h
  have := hx i f hf
  have hi : i < fs.size := (Array.getElem?_eq_some_iff.1 hf).1
  rw [ho, hc, List.getElem?_eq_getElem (by omega)] at this
  refine ⟨m, xs[i]'(by omega), ?_⟩
  rw [← this]
  congr 1
  rw [List.drop_eq_getElem_cons hlt]
  show _ = [cs[o]]
  simp [List.getD, hlt]
/-- A slice of whatever: where it lies, and how its elements read. -/
theorem open_rows {r : Reach} {b0 : Nat} {t e : TypeId} {v : Value} {d : DataW H} {ps : List MemPlace} {m : Nat} (ht : P.underlying t = some (.slice e)) (hc : P.cellsOf e = m) (hm : 0 < m) (hval : Value.okWide P w r b0 t v) (hd : DataW.Trod enc P w base (fun _ => true) held t v d ps) :
    ∃ p n cap, v = .slice p n cap ∧ (0 < n → ∃ g off, p = some ⟨g, off, none⟩ ∧ g < w.heap.size ∧
      ∀ i, i < n → ∃ (cs : List Value) (fuel : Nat) (x : DataW H × List MemPlace), cs.length = m ∧ (∀ j, j < m → w.cell? ⟨g, off + i * m + j, none⟩ = cs[j]?) ∧ DataW.trod enc P w base (fun _ => true) held fuel e cs = some x) := by
  have hv : v.cells.toList = [v] := by
    obtain ⟨_, _, _, rfl⟩ := okWide_slice ht hval
    rfl
  obtain ⟨fuel, hf⟩ := hd
  rw [hv] at hf
  rcases open_slice ht hf with ⟨h1, _⟩ | ⟨a, len, cap, mm, k, D, Pl, h1, hb, hl, hmx, hmm, _, hx⟩
  · refine ⟨none, 0, 0, by simpa using h1, fun h => by omega⟩
  · refine ⟨some a, len, cap, by simpa using h1, fun h => ?_⟩
    simp only [if_true] at hmm
    have key : ∀ i, i < len → ∃ cs', cs'.length = m ∧ (∀ j, j < m → w.cell? ((a.add (i * m)).add j) = cs'[j]?) ∧ DataW.trod enc P w base (fun _ => true) held k e cs' = some (D i, Pl i) := fun i hi => by
      obtain ⟨cs', hcs, hy⟩ := hx i (by omega)
      rw [hc] at hcs
      obtain ⟨_, hlen, hcell⟩ := World.cells?_some hcs
      exact ⟨cs', hlen, hcell, hy⟩
    obtain ⟨g, off, spot⟩ := a
    have hspot : spot = none := by
      obtain ⟨cs', hlen, hcell, _⟩ := key 0 h
      have h0 := hcell 0 hm
      rw [List.getElem?_eq_getElem (by omega)] at h0
      simpa [Addr.add] using World.cell?_spot h0
    subst hspot
    have hlt : g < w.heap.size := by
      obtain ⟨cs', hlen, hcell, _⟩ := key 0 h
      have h0 := hcell 0 hm
      rw [List.getElem?_eq_getElem (by omega)] at h0
      rcases Nat.lt_or_ge g w.heap.size with h | h
      · exact h
      · simp [Addr.add, World.cell?, Array.getElem?_eq_none h] at h0
    refine ⟨g, off, rfl, hlt, fun i hi => ?_⟩
    obtain ⟨cs', hlen, hcell, hy⟩ := key i hi
    refine ⟨cs', k, _, hlen, fun j hj => ?_, hy⟩
    rw [← hcell j hj, Deep.add_add, add_plain, Nat.add_assoc]
theorem choose_fn {α : Type} [Inhabited α] {n : Nat} {p : Nat → α → Prop} (h : ∀ i, i < n → ∃ x, p i x) : ∃ f : Nat → α, ∀ i, i < n → p i (f i) := choose_lt h
end
end Go.Proofs.Ytpidhcogaoehhaa


/- Arguments that are slices of numbers, texts, Booleans; the document's writers. No condition but that numbers fit their kinds. -/
namespace Go.Proofs.Ytpidhcogaoehhaa
open Go.RowKit Wire
set_option linter.unusedVariables false
section
open Go.ChangeShapes Go.WideShapes Go.Deep
variable {H : Type} {enc : TypeId × Value → H} {P : Program} {W : World} {base : Nat} {held : Bool} {r : Reach} {b0 : Nat} {v : Value} {d : DataW H} {ps : List MemPlace} {t e : TypeId}
theorem open_slic (ht : P.underlying t = some (.slice e)) (hc : P.cellsOf e = 1) (hval : Value.okWide P W r b0 t v) (hd : DataW.Trod enc P W base (fun _ => true) held t v d ps) :
    ∃ n f, Slic W v n f ∧ ∀ i, i < n → ∃ fuel x, DataW.trod enc P W base (fun _ => true) held fuel e [f i] = some x := by
  obtain ⟨p, n, cap, rfl, h⟩ := open_rows ht hc (by decide) hval hd
  by_cases hn : 0 < n
  · obtain ⟨g, off, rfl, hg, hx⟩ := h hn
    have key : ∀ i, i < n → ∃ u : Value, W.cell? ⟨g, off + i, none⟩ = some u ∧ ∃ fuel x, DataW.trod enc P W base (fun _ => true) held fuel e [u] = some x := by
      intro i hi
      obtain ⟨cs, fuel, x, hl, hcell, hy⟩ := hx i hi
      match cs, hl with
      | [u], _ => exact ⟨u, by have := hcell 0 (by decide); simpa using this, fuel, x, hy⟩
    haveI : Inhabited Value := ⟨undef⟩
    obtain ⟨f, hf⟩ := choose_fn key
    exact ⟨n, f, ⟨_, cap, rfl, fun _ => ⟨g, off, rfl, hg, fun i hi => (hf i hi).1⟩⟩, fun i hi => (hf i hi).2⟩
  · exact ⟨n, fun _ => undef, ⟨p, cap, rfl, fun h => absurd h hn⟩, fun i hi => absurd (Nat.lt_of_le_of_lt (Nat.zero_le _) hi) hn⟩
theorem Slic.congr {w : World} {v : Value} {n : Nat} {f g : Nat → Value} (h : Slic w v n f) (e : ∀ i, i < n → f i = g i) : Slic w v n g := by
  obtain ⟨p, cap, rfl, hS⟩ := h
  refine ⟨p, cap, rfl, fun hn => ?_⟩
  obtain ⟨g0, off, rfl, hg, hx⟩ := hS hn
  exact ⟨g0, off, rfl, hg, fun i hi => by rw [hx i hi, e i hi]⟩
theorem open_ints' {k : IntKind} (ht : P.underlying t = some (.slice e)) (he : P.underlying e = some (.int k)) (hc : P.cellsOf e = 1) (hval : Value.okWide P W r b0 t v) (hd : DataW.Trod enc P W base (fun _ => true) held t v d ps) :
    ∃ (n : Nat) (x : Nat → Int), Slic W v n (fun i => .int k (x i)) ∧ ∀ i, i < n → (Lit.int k (x i)).wf = true := by
  obtain ⟨n, f, h1, h2⟩ := open_slic ht hc hval hd
  have key : ∀ i, i < n → ∃ y : Int, f i = .int k y ∧ (Lit.int k y).wf = true := fun i hi => by
    obtain ⟨fuel, x, hx⟩ := h2 i hi
    obtain ⟨y, hy, _, hw⟩ := DataW.trod_int he hx
    exact ⟨y, by simpa using hy, hw⟩
  obtain ⟨x, hx⟩ := choose_fn key
  exact ⟨n, x, h1.congr fun i hi => (hx i hi).1, fun i hi => (hx i hi).2⟩
theorem open_ints_cell {k : IntKind} {fuel : Nat} {u : Value} {x : DataW H × List MemPlace} (ht : P.underlying t = some (.slice e)) (he : P.underlying e = some (.int k)) (hc : P.cellsOf e = 1) (h : DataW.trod enc P W base (fun _ => true) held fuel t [u] = some x) :
    ∃ (n : Nat) (x : Nat → Int), Slic W u n (fun i => .int k (x i)) ∧ ∀ i, i < n → (Lit.int k (x i)).wf = true := by
  rcases open_slice1 ht hc h with ⟨h1, _⟩ | ⟨a, len, cap, m, n, V, D, Pl, h1, hb, hl, hmx, hmm, _, hx⟩
  · have : u = .slice none 0 0 := by simpa using h1
    subst this
    exact ⟨0, fun _ => 0, ⟨none, 0, rfl, fun h => by omega⟩, fun i hi => by omega⟩
  · have : u = .slice (some a) len cap := by simpa using h1
    subst this
    simp only [if_true] at hmm
    have key : ∀ i, i < len → ∃ y : Int, W.cell? (a.add i) = some (.int k y) ∧ (Lit.int k y).wf = true := fun i hi => by
      obtain ⟨h2, h3⟩ := hx i (by omega)
      obtain ⟨y, hy, _, hw⟩ := DataW.trod_int he h3
      exact ⟨y, by rw [h2]; simpa using hy, hw⟩
    obtain ⟨y, hy⟩ := choose_fn key
    refine ⟨len, y, ⟨some a, cap, rfl, fun hn => ?_⟩, fun i hi => (hy i hi).2⟩
    obtain ⟨g, off, spot⟩ := a
    have h0 := (hy 0 hn).1
    have hspot : spot = none := by simpa [Addr.add] using World.cell?_spot h0
    subst hspot
    refine ⟨g, off, rfl, ?_, fun i hi => by rw [← (hy i hi).1, add_plain]⟩
    rcases Nat.lt_or_ge g W.heap.size with h | h
    · exact h
    · simp [Addr.add, World.cell?, Array.getElem?_eq_none h] at h0
theorem open_strs' (ht : P.underlying t = some (.slice e)) (he : P.underlying e = some .string) (hc : P.cellsOf e = 1) (hval : Value.okWide P W r b0 t v) (hd : DataW.Trod enc P W base (fun _ => true) held t v d ps) :
    ∃ (n : Nat) (x : Nat → ByteArray), Slic W v n (fun i => .string (x i)) ∧ ∀ i, i < n → (x i).size ≤ maxLen := by
  obtain ⟨n, f, h1, h2⟩ := open_slic ht hc hval hd
  have key : ∀ i, i < n → ∃ y : ByteArray, f i = .string y ∧ y.size ≤ maxLen := fun i hi => by
    obtain ⟨fuel, x, hx⟩ := h2 i hi
    obtain ⟨y, hy, _, hw⟩ := DataW.trod_string he hx
    exact ⟨y, by simpa using hy, hw⟩
  haveI : Inhabited ByteArray := ⟨⟨#[]⟩⟩
  obtain ⟨x, hx⟩ := choose_fn key
  exact ⟨n, x, h1.congr fun i hi => (hx i hi).1, fun i hi => (hx i hi).2⟩
theorem open_bools' (ht : P.underlying t = some (.slice e)) (he : P.underlying e = some .bool) (hc : P.cellsOf e = 1) (hval : Value.okWide P W r b0 t v) (hd : DataW.Trod enc P W base (fun _ => true) held t v d ps) :
    ∃ (n : Nat) (x : Nat → Bool), Slic W v n (fun i => .bool (x i)) := by
  obtain ⟨n, f, h1, h2⟩ := open_slic ht hc hval hd
  have key : ∀ i, i < n → ∃ y : Bool, f i = .bool y := fun i hi => by
    obtain ⟨fuel, x, hx⟩ := h2 i hi
    obtain ⟨y, hy, _⟩ := DataW.trod_bool he hx
    exact ⟨y, by simpa using hy⟩
  obtain ⟨x, hx⟩ := choose_fn key
  exact ⟨n, x, h1.congr fun i hi => hx i hi⟩
end
theorem Slic.grow {w w' : World} {v : Value} {n : Nat} {f : Nat → Value} (h : Slic w v n f) (hb : Below w.heap.size w w') : Slic w' v n f := by
  obtain ⟨p, cap, rfl, hS⟩ := h
  refine ⟨p, cap, rfl, fun hn => ?_⟩
  obtain ⟨g0, off, rfl, hg, hx⟩ := hS hn
  exact ⟨g0, off, rfl, by have := hb.size; omega, fun i hi => by rw [hb.cell hg]; exact hx i hi⟩
/-! ### The document's writers -/
/-! ### The law -/
namespace Wire
def catS (g : Nat → ByteArray) (n : Nat) : ByteArray := ⟨(cat g n).toArray⟩
theorem catS_zero (g : Nat → ByteArray) : catS g 0 = ⟨#[]⟩ := rfl
theorem catS_succ (g : Nat → ByteArray) (n : Nat) : catS g n ++ g n = catS g (n + 1) := by
  apply ByteArray.ext
  rw [ByteArray.data_append]
  unfold catS
  rw [cat_succ]
  simp
def AllS (g : Nat → ByteArray) (n : Nat) (w : World) (e : Ending) (w' : World) : Prop := e = .returned (.string (catS g n)) ∧ Below w.heap.size w w'
theorem alls {f : FuncId} {args : Array Value} {g : Nat → ByteArray} {n : Nat} {w : World} (h : Calls Try.prog f args w (AllPost g n w)) : Calls Try.prog f args w (AllS g n w) := h
theorem catS_size (g : Nat → ByteArray) (n : Nat) : (catS g n).size = (cat g n).length := by simp [catS, ByteArray.size]
end Wire
end Go.Proofs.Ytpidhcogaoehhaa


/- The walks of the document's reader of bricks. No condition but that numbers fit their kinds. -/
namespace Go.Proofs.Ytpidhcogaoehhaa
open Go.RowKit Wire
set_option linter.unusedVariables false
theorem Only.cellq {S : Nat → Prop} {w w' : World} {g o : Nat} {v : Value} (ho : Only S w w') (hc : w.cell? ⟨g, o, none⟩ = some v) (hne : ¬ S g) : w'.cell? ⟨g, o, none⟩ = some v := by
  have hlt : g < w.heap.size := by
    rcases Nat.lt_or_ge g w.heap.size with h | h
    · exact h
    · simp [World.cell?, Array.getElem?_eq_none h] at hc
  rw [← hc]; simp only [World.cell?]; rw [ho.block g hlt hne]
theorem ba_eq {s t : ByteArray} (h : s.data.toList = t.data.toList) : s = t := by
  cases s; cases t; congr; exact Array.toList_inj.1 h
theorem zag0 : Num.zag 0 = 0 := rfl
end Go.Proofs.Ytpidhcogaoehhaa
