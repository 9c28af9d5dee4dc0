import Derived.Test.YtlahficmkfgooaaGreatWireW
import Derived.Test.YtlahficmkfgooaaGreatMgc
import Derived.Test.YtlahficmkfgooaaGreatMga
import Derived.Deep.Slices
import Derived.OpenShut

/- The walks of the program's reader of bricks, second part: its methods. No condition but that numbers fit their kinds. -/
namespace Go.Proofs.YtlahficmkfgooaaGreat
open Go.RowKit Wire
set_option linter.unusedVariables false
/-! ### The checks -/
set_option maxHeartbeats 400000 in
theorem uint1_any (x n most : Int) (q : Nat) {w : World} (hq : w.cell? ⟨q, 0, none⟩ = some (.int .u64 most)) :
    Calls Tryz.prog 77 #[.int .u64 x, .int .i64 n, .pointer (some ⟨q, 0, none⟩)] w fun e w' => e = .returned (.tuple #[.int .i64 n, .int .i64 (if most < x then 9 else 0)]) ∧ w = w' := by
  by_cases h : most < x
  · rw [if_pos h]
    go_enter Tryz.func77, Tryz.ntmps77
    go_wp2
    go_ret2
    exact ⟨rfl, rfl⟩
  · rw [if_neg h]
    have h' : x ≤ most := by omega
    clear h
    go_enter Tryz.func77, Tryz.ntmps77
    go_wp2
    go_ret2
    exact ⟨rfl, rfl⟩
set_option maxHeartbeats 400000 in
theorem int1_any (x n lo hi : Int) (q r : Nat) {w : World} (hx : U64 x) (hq : w.cell? ⟨q, 0, none⟩ = some (.int .i64 lo)) (hr : w.cell? ⟨r, 0, none⟩ = some (.int .i64 hi)) :
    Calls Tryz.prog 81 #[.int .u64 x, .int .i64 n, .pointer (some ⟨q, 0, none⟩), .pointer (some ⟨r, 0, none⟩)] w fun e w' => e = .returned (.tuple #[.int .i64 n, .int .i64 (if Num.zag x < lo ∨ hi < Num.zag x then 9 else 0)]) ∧ w = w' := by
  have HZ := Lib.hid (zag_any x hx w)
  clear hx
  by_cases h : Num.zag x < lo
  · rw [if_pos (.inl h)]
    go_enter Tryz.func81, Tryz.ntmps81
    go_wp2_with (go_at_call 80; ((with_reducible refine HZ.out.mono ?_); rintro e w' ⟨rfl, rfl⟩))
    go_ret2
    exact ⟨rfl, rfl⟩
  · have h' : lo ≤ Num.zag x := by omega
    by_cases h2 : hi < Num.zag x
    · rw [if_pos (.inr h2)]
      clear h
      go_enter Tryz.func81, Tryz.ntmps81
      go_wp2_with (go_at_call 80; ((with_reducible refine HZ.out.mono ?_); rintro e w' ⟨rfl, rfl⟩))
      go_ret2
      exact ⟨rfl, rfl⟩
    · rw [if_neg (fun hh => hh.elim h h2)]
      have h2' : Num.zag x ≤ hi := by omega
      clear h h2
      go_enter Tryz.func81, Tryz.ntmps81
      go_wp2_with (go_at_call 80; ((with_reducible refine HZ.out.mono ?_); rintro e w' ⟨rfl, rfl⟩))
      go_ret2
      exact ⟨rfl, rfl⟩
def has (x : Nat → Int) (n : Nat) (y : Int) : Bool := (List.range n).any fun i => x i == y
theorem has_succ (x : Nat → Int) (n : Nat) (y : Int) : has x (n + 1) y = (has x n y || x n == y) := by simp [has, List.range_succ]
theorem has_of {x : Nat → Int} {n : Nat} {y : Int} {k : Nat} (h : k < n) (e : x k = y) : has x n y = true := by
  unfold has; rw [List.any_eq_true]; exact ⟨k, List.mem_range.2 h, by simpa using e⟩
namespace Wire
/-- The fault of a count. -/
def cntC (s : ByteArray) (x n most : Int) : Int := if most < 0 ∨ most < x then 4 else if s.size - n < x then 10 else 0
end Wire
set_option maxHeartbeats 1000000 in
theorem cnt1_any (x n most : Int) (q r b : Nat) {s : ByteArray} {e0 : Int} {w : World} (h : PR w b s e0) (hx : U64 x) (hn : 0 ≤ n) (hns : n ≤ s.size) (hm : I64 most) (hq : w.cell? ⟨q, 0, none⟩ = some (.int .i64 most)) (hr : w.cell? ⟨r, 0, none⟩ = some (.pointer (some ⟨b, 0, none⟩))) :
    Calls Tryz.prog 99 #[.int .u64 x, .int .i64 n, .pointer (some ⟨q, 0, none⟩), .pointer (some ⟨r, 0, none⟩)] w fun e w' => e = .returned (.tuple #[.int .i64 n, .int .i64 (cntC s x n most)]) ∧ w = w' := by
  have c0 := h.c0
  have hsz := h.sz
  unfold maxLen at hsz
  have hx0 := hx.1
  have hx1 := hx.2
  have hm0 := hm.1
  have hm1 := hm.2
  clear h hx hm
  by_cases h1 : most < 0
  · have e1 : cntC s x n most = 4 := by unfold cntC; rw [if_pos (.inl h1)]
    rw [e1]
    go_enter Tryz.func99, Tryz.ntmps99
    go_wp2
    go_ret2
    exact ⟨rfl, rfl⟩
  · have h1' : 0 ≤ most := by omega
    clear h1
    by_cases h2 : most < x
    · have e1 : cntC s x n most = 4 := by unfold cntC; rw [if_pos (.inr h2)]
      rw [e1]
      go_enter Tryz.func99, Tryz.ntmps99
      go_wp2
      go_ret2
      exact ⟨rfl, rfl⟩
    · have h2' : x ≤ most := by omega
      by_cases h3 : s.size - n < x
      · have e1 : cntC s x n most = 10 := by unfold cntC; rw [if_neg (by omega), if_pos h3]
        rw [e1]
        clear h2
        go_enter Tryz.func99, Tryz.ntmps99
        go_wp2
        go_ret2
        exact ⟨rfl, rfl⟩
      · have e1 : cntC s x n most = 0 := by unfold cntC; rw [if_neg (by omega), if_neg h3]
        rw [e1]
        have h3' : x ≤ s.size - n := by omega
        clear h2 h3
        go_enter Tryz.func99, Tryz.ntmps99
        go_wp2
        go_ret2
        exact ⟨rfl, rfl⟩
end Go.Proofs.YtlahficmkfgooaaGreat


/- The walks of the program's reader of bricks, third part: its methods. No condition but that numbers fit their kinds. -/
namespace Go.Proofs.YtlahficmkfgooaaGreat
open Go.RowKit Wire
set_option linter.unusedVariables false
namespace Wire
def xI (s : ByteArray) : Int := ((rdS s).1 : Nat)
def nI (s : ByteArray) : Int := ((rdS s).2.1 : Nat)
def uC (s : ByteArray) (most : Int) : Int := if most < xI s then 9 else 0
def iC (s : ByteArray) (lo hi : Int) : Int := if Num.zag (xI s) < lo ∨ hi < Num.zag (xI s) then 9 else 0
def tC (s : ByteArray) (xs : Nat → Int) (n : Nat) : Int := if has xs n (xI s) = true then 0 else 8
def cC (s : ByteArray) (most : Int) : Int := cntC s (xI s) (nI s) most
end Wire
theorem xI_U64 (s : ByteArray) : U64 (xI s) := rdS_U64 s
theorem numV_U64 (s : ByteArray) (e c : Int) : U64 (numV s e c) := by
  unfold numV
  split
  · exact rdS_U64 s
  · unfold U64; omega
theorem nI_le {s : ByteArray} (h : (rdS s).2.2 = 0) : nI s ≤ s.size := by unfold nI; have := rd_le h; omega
theorem cnt_ok {s : ByteArray} {e most : Int} (h : numV s e (cC s most) ≠ 0 ∨ (e = 0 ∧ numE s e (cC s most) = 0)) : numV s e (cC s most) = xI s ∧ numS s e (cC s most) = tl s (rdS s).2.1 ∧ numE s e (cC s most) = 0 ∧ xI s ≤ most ∧ xI s ≤ s.size - nI s := by
  have key : e = 0 ∧ (rdS s).2.2 = 0 ∧ cC s most = 0 := by
    rcases h with h | ⟨h1, h2⟩
    · unfold numV at h
      split at h
      · assumption
      · exact absurd rfl h
    · unfold numE at h2
      rw [if_pos h1] at h2
      split at h2
      · exact ⟨h1, by assumption, h2⟩
      · omega
  have hc := key.2.2
  unfold cC cntC at hc
  refine ⟨by unfold numV; rw [if_pos key]; rfl, by unfold numS; rw [if_pos key], by unfold numE; rw [if_pos key.1, if_pos key.2.1]; exact key.2.2, ?_, ?_⟩
  · split at hc
    · omega
    · omega
  · split at hc
    · omega
    · split at hc <;> omega
theorem numV_zero {s : ByteArray} {e c : Int} (h : numE s e c ≠ 0) : numV s e c = 0 := by
  unfold numE at h
  unfold numV
  split
  · rename_i hh; rw [if_pos hh.1, if_pos hh.2.1] at h; exact absurd hh.2.2 h
  · rfl
theorem tl_len (s : ByteArray) (n : Nat) (h : n ≤ s.size) : (tl s n).size = s.size - n := by unfold tl; simp
theorem cnt_range {s : ByteArray} {e most : Int} (hm : I64 most) : 0 ≤ numV s e (cC s most) ∧ numV s e (cC s most) ≤ 9223372036854775807 := by
  by_cases h : numV s e (cC s most) = 0
  · rw [h]; omega
  · have := cnt_ok (.inl h)
    have h1 := hm.2
    have h2 := (numV_U64 s e (cC s most)).1
    omega
/-! ### The methods -/
set_option maxHeartbeats 1000000 in
theorem puint_any {b : Nat} {s : ByteArray} {e0 : Int} {w : World} (h : PR w b s e0) (most : Int) :
    Calls Tryz.prog 39 #[.pointer (some ⟨b, 0, none⟩), .int .u64 most] w (NumPost b w (numV s e0 (uC s most)) (numS s e0 (uC s most)) (numE s e0 (uC s most))) := by
  have HN := Lib.hid (num_uint (h.alloc (.cells #[.int .u64 most] 37)) w.heap.size (uC s most) (fun _ => uint1_any (xI s) (nI s) most w.heap.size (by rw [(Blk.new w _ _).cell 0]; rfl)))
  clear h
  go_enter Tryz.func39, Tryz.ntmps39
  go_wp2_with (go_at_call 76; ((with_reducible refine HN.out.mono ?_); rintro e w' ⟨rfl, hP, hO⟩))
  go_ret
  exact ⟨rfl, hP, ((Only.refl _ _).alloc _).trans hO⟩
def IntPost (b : Nat) (w : World) (v : Int) (s' : ByteArray) (e' : Int) (e : Ending) (w' : World) : Prop := e = .returned (.int .i64 v) ∧ PR w' b s' e' ∧ Only (· = b) w w'
set_option maxHeartbeats 1000000 in
theorem pint_any {b : Nat} {s : ByteArray} {e0 : Int} {w : World} (h : PR w b s e0) (lo hi : Int) :
    Calls Tryz.prog 41 #[.pointer (some ⟨b, 0, none⟩), .int .i64 lo, .int .i64 hi] w (IntPost b w (Num.zag (numV s e0 (iC s lo hi))) (numS s e0 (iC s lo hi)) (numE s e0 (iC s lo hi))) := by
  have HN := Lib.hid (num_int ((h.alloc (.cells #[.int .i64 lo] 2)).alloc (.cells #[.int .i64 hi] 2)) w.heap.size (w.heap.size + 1) (iC s lo hi)
    (fun _ => int1_any (xI s) (nI s) lo hi w.heap.size (w.heap.size + 1) (xI_U64 s) (by rw [((Blk.new w _ _).alloc _).cell 0]; rfl) (by
      have := (Blk.new (w.alloc (.cells #[.int .i64 lo] 2)) 2 #[.int .i64 hi]).cell 0
      rw [show (w.alloc (.cells #[.int .i64 lo] 2)).heap.size = w.heap.size + 1 from by simp] at this
      rw [this]; rfl)))
  have HU := numV_U64 s e0 (iC s lo hi)
  have HZ := Lib.hid (fun w => zag_any _ HU w)
  clear h HU
  go_enter Tryz.func41, Tryz.ntmps41
  go_wp2_with (first | (go_at_call 76; ((with_reducible refine HN.out.mono ?_); rintro e w' ⟨rfl, hP, hO⟩)) | (go_at_call 80; ((with_reducible refine (HZ.out _).mono ?_); rintro e w'' ⟨rfl, rfl⟩)))
  go_ret
  exact ⟨rfl, hP, (((Only.refl _ _).alloc _).alloc _).trans hO⟩
theorem Slic.alloc {w : World} {v : Value} {n : Nat} {f : Nat → Value} (h : Slic w v n f) (o : Obj) : Slic (w.alloc o) v n f := by
  obtain ⟨p, cap, rfl, hS⟩ := h
  refine ⟨p, cap, rfl, fun hn => ?_⟩
  obtain ⟨g, off, rfl, hg, hx⟩ := hS hn
  exact ⟨g, off, rfl, by simp; omega, fun i hi => by rw [← hx i hi]; simp only [World.cell?]; rw [Below.heap_alloc _ _ _ hg]⟩
namespace Wire
def xs01 (i : Nat) : Int := if i = 0 then 0 else 1
def bC (s : ByteArray) : Int := tC s xs01 2
end Wire
def BoolPost (b : Nat) (w : World) (v : Bool) (s' : ByteArray) (e' : Int) (e : Ending) (w' : World) : Prop := e = .returned (.bool v) ∧ PR w' b s' e' ∧ Only (· = b) w w'
set_option maxHeartbeats 1000000 in
theorem pcounted_any {b : Nat} {s : ByteArray} {e0 : Int} {w : World} (h : PR w b s e0) (most : Int) (hm : I64 most) :
    Calls Tryz.prog 75 #[.pointer (some ⟨b, 0, none⟩), .int .i64 most] w (NumPost b w (numV s e0 (cC s most)) (numS s e0 (cC s most)) (numE s e0 (cC s most))) := by
  have HN := Lib.hid (num_cnt ((h.alloc (.cells #[.pointer (some ⟨b, 0, none⟩)] 78)).alloc (.cells #[.int .i64 most] 3)) (w.heap.size + 1) w.heap.size (cC s most)
    (fun hr => cnt1_any (xI s) (nI s) most (w.heap.size + 1) w.heap.size b ((h.alloc (.cells #[.pointer (some ⟨b, 0, none⟩)] 78)).alloc (.cells #[.int .i64 most] 3)) (xI_U64 s) (by unfold nI; omega) (nI_le hr) hm (by
      have := (Blk.new (w.alloc (.cells #[.pointer (some ⟨b, 0, none⟩)] 78)) 3 #[.int .i64 most]).cell 0
      rw [show (w.alloc (.cells #[.pointer (some ⟨b, 0, none⟩)] 78)).heap.size = w.heap.size + 1 from by simp] at this
      rw [this]; rfl) (by rw [((Blk.new w _ _).alloc _).cell 0]; rfl)))
  clear h hm
  go_enter Tryz.func75, Tryz.ntmps75
  go_wp2_with (go_at_call 76; ((with_reducible refine HN.out.mono ?_); rintro e w' ⟨rfl, hP, hO⟩))
  go_ret
  exact ⟨rfl, hP, (((Only.refl _ _).alloc _).alloc _).trans hO⟩
set_option maxHeartbeats 1000000 in
theorem pcount_any {b : Nat} {s : ByteArray} {e0 : Int} {w : World} (h : PR w b s e0) (most : Int) (hm : I64 most) :
    Calls Tryz.prog 38 #[.pointer (some ⟨b, 0, none⟩), .int .i64 most] w (IntPost b w (numV s e0 (cC s most)) (numS s e0 (cC s most)) (numE s e0 (cC s most))) := by
  have HN := Lib.hid (pcounted_any h most hm)
  have hr := cnt_range (s := s) (e := e0) hm
  have hr1 := hr.1
  have hr2 := hr.2
  clear h hm hr
  generalize numV s e0 (cC s most) = x at *
  go_enter Tryz.func38, Tryz.ntmps38
  go_wp2_with (go_at_call 75; ((with_reducible refine HN.out.mono ?_); rintro e w' ⟨rfl, hP, hO⟩))
  go_ret
  exact ⟨rfl, hP, hO⟩
end Go.Proofs.YtlahficmkfgooaaGreat


/- The walks of the program's reader of bricks, fourth part: texts, what is left, the end; what no reader answers. No condition but that numbers fit their kinds. -/
namespace Go.Proofs.YtlahficmkfgooaaGreat
open Go.RowKit Wire
set_option linter.unusedVariables false
namespace Wire
def txV (s : ByteArray) (e most : Int) : ByteArray := (numS s e (cC s most)).extract 0 (numV s e (cC s most)).toNat
def txS (s : ByteArray) (e most : Int) : ByteArray := if numE s e (cC s most) = 0 then tl (numS s e (cC s most)) (numV s e (cC s most)).toNat else numS s e (cC s most)
def txE (s : ByteArray) (e most : Int) : Int := numE s e (cC s most)
def endE (s : ByteArray) (e : Int) : Int := if e = 0 ∧ s.size ≠ 0 then 8 else e
end Wire
def TextPost (b : Nat) (w : World) (v : ByteArray) (s' : ByteArray) (e' : Int) (e : Ending) (w' : World) : Prop := e = .returned (.string v) ∧ PR w' b s' e' ∧ Only (· = b) w w'
theorem numE_ne {s : ByteArray} {e c : Int} (he : e ≠ 0) : numE s e c = e := by unfold numE; rw [if_neg he]
theorem cnt_fit {s : ByteArray} {e most : Int} : (numV s e (cC s most)).toNat ≤ (numS s e (cC s most)).size := by
  by_cases h : numV s e (cC s most) = 0
  · rw [h]; simp
  · have h1 := cnt_ok (.inl h)
    rw [h1.1, h1.2.1]
    have h2 := h1.2.2.2.2
    have h3 : (rdS s).2.2 = 0 := by
      unfold numV at h
      split at h
      · rename_i hh; exact hh.2.1
      · exact absurd rfl h
    rw [tl_len _ _ (rd_le h3)]
    unfold nI at h2
    have := rd_le h3
    omega
set_option maxHeartbeats 1000000 in
theorem ptext_any {b : Nat} {s : ByteArray} {e0 : Int} {w : World} (h : PR w b s e0) (most : Int) (hm : I64 most) :
    Calls Tryz.prog 40 #[.pointer (some ⟨b, 0, none⟩), .int .i64 most] w (TextPost b w (txV s e0 most) (txS s e0 most) (txE s e0 most)) := by
  have HN := Lib.hid (pcounted_any h most hm)
  have hr := cnt_range (s := s) (e := e0) hm
  have hr1 := hr.1
  have hr2 := hr.2
  have hfit := cnt_fit (s := s) (e := e0) (most := most)
  unfold txV txS txE
  clear h hm hr
  generalize numV s e0 (cC s most) = x at *
  generalize numS s e0 (cC s most) = s1 at *
  generalize numE s e0 (cC s most) = e1 at *
  obtain ⟨n, rfl⟩ := Int.eq_ofNat_of_zero_le hr1
  simp only [Int.toNat_natCast] at *
  by_cases he : e1 = 0
  · subst he
    rw [if_pos rfl]
    go_enter Tryz.func40, Tryz.ntmps40
    go_wp2_with (first | (go_at_call 75; ((with_reducible refine HN.out.mono ?_); rintro e w1 ⟨rfl, hP, hO⟩; have HP := Lib.hid hP; have c0 := hP.c0; clear hP)) | (go_at_call 78; ((with_reducible refine (none_any HP.out).mono ?_); rintro e w' ⟨rfl, rfl⟩)) | (go_at_call 79; ((with_reducible refine (take_yes HP.out n hfit).mono ?_); rintro e w2 ⟨rfl, hP2, hO2⟩)))
    go_ret
    exact ⟨rfl, hP2, hO.trans (hO2.mono fun _ _ h => h)⟩
  · rw [if_neg he]
    go_enter Tryz.func40, Tryz.ntmps40
    go_wp2_with (first | (go_at_call 75; ((with_reducible refine HN.out.mono ?_); rintro e w1 ⟨rfl, hP, hO⟩; have HP := Lib.hid hP; have c0 := hP.c0; clear hP)) | (go_at_call 78; ((with_reducible refine (none_any HP.out).mono ?_); rintro e w' ⟨rfl, rfl⟩)) | (go_at_call 79; ((with_reducible refine (take_bad HP.out n 0 he).mono ?_); rintro e w2 ⟨rfl, hP2, hO2⟩)))
    go_ret
    exact ⟨rfl, hP2, hO.trans (hO2.mono fun _ _ h => h)⟩
set_option maxHeartbeats 400000 in
theorem perr_any {b : Nat} {s : ByteArray} {e0 : Int} {w : World} (h : PR w b s e0) : Calls Tryz.prog 104 #[.pointer (some ⟨b, 0, none⟩)] w fun e w' => e = .returned (.int .i64 e0) ∧ w = w' := by
  have HH := Lib.hid h
  have c1 := h.c1
  clear h
  go_enter Tryz.func104, Tryz.ntmps104
  go_wp2_with (go_at_call 78; ((with_reducible refine (none_any HH.out).mono ?_); rintro e w' ⟨rfl, rfl⟩))
  go_ret
  exact ⟨rfl, rfl⟩
theorem empty_of {s : ByteArray} (h : s.size = 0) : s = ⟨#[]⟩ := by
  obtain ⟨d⟩ := s
  have h' : d.size = 0 := h
  have : d = #[] := Array.eq_empty_of_size_eq_zero h'
  rw [this]
theorem ne_empty {s : ByteArray} (h : s.size ≠ 0) : (!s.toList.isEmpty) = true := by
  rw [ByteArray.toList_eq]
  simp
  intro e
  apply h
  simp [ByteArray.size, e]
set_option maxHeartbeats 1000000 in
theorem pend_any {b : Nat} {s : ByteArray} {e0 : Int} {w : World} (h : PR w b s e0) : Calls Tryz.prog 42 #[.pointer (some ⟨b, 0, none⟩)] w (IntPost b w (endE s e0) s (endE s e0)) := by
  have HH := Lib.hid h
  have c0 := h.c0
  have c1 := h.c1
  have hf : ∀ o, w.frozen? ⟨b, o, none⟩ = false := h.frozen
  clear h
  by_cases he : e0 = 0
  · subst he
    by_cases hs : s.size = 0
    · have := empty_of hs
      subst this
      have e1 : endE ⟨#[]⟩ 0 = 0 := by unfold endE; rw [if_neg (by simp [ByteArray.size])]
      rw [e1]
      clear hs e1
      go_enter Tryz.func42, Tryz.ntmps42
      go_wp2_with (go_at_call 78; ((with_reducible refine (none_any HH.out).mono ?_); rintro e w' ⟨rfl, rfl⟩))
      go_ret
      exact ⟨rfl, HH.out, Only.refl _ _⟩
    · have e1 : endE s 0 = 8 := by unfold endE; rw [if_pos ⟨rfl, hs⟩]
      rw [e1]
      have hne := ne_empty hs
      clear hs e1
      go_enter Tryz.func42, Tryz.ntmps42
      go_wp2_with (go_at_call 78; ((with_reducible refine (none_any HH.out).mono ?_); rintro e w' ⟨rfl, rfl⟩))
      go_ret
      exact ⟨rfl, HH.out.setE 8, (Only.refl _ _).set1⟩
  · have e1 : endE s e0 = e0 := by unfold endE; rw [if_neg (fun h => he h.1)]
    rw [e1]
    have he1 : (e0 == 0) = false := by simpa using he
    clear he e1
    go_enter Tryz.func42, Tryz.ntmps42
    go_wp2_with (go_at_call 78; ((with_reducible refine (none_any HH.out).mono ?_); rintro e w' ⟨rfl, rfl⟩))
    go_ret
    exact ⟨rfl, HH.out, Only.refl _ _⟩
def WNewPost (s : ByteArray) (w : World) (e : Ending) (w' : World) : Prop := e = .returned (.pointer (some ⟨w.heap.size, 0, none⟩)) ∧ PR w' w.heap.size s 0 ∧ Below w.heap.size w w'
set_option maxHeartbeats 400000 in
theorem wnew_any (s : ByteArray) (hs : s.size ≤ maxLen) (w : World) : Calls Tryz.prog 37 #[.string s] w (WNewPost s w) := by
  go_enter Tryz.func37, Tryz.ntmps37
  go_wp2
  go_ret
  exact ⟨rfl, ⟨Blk.new w _ _, hs⟩, (Below.refl _ _).alloc (Nat.le_refl _) _⟩
/-! ### No reader -/
theorem NR.grow {w w' : World} {v : Value} (h : NR w v) (hb : Below w.heap.size w w') : NR w' v := by
  rcases h with rfl | ⟨b, rfl, hc⟩
  · exact .inl rfl
  · refine .inr ⟨b, rfl, ?_⟩
    have hlt : b < w.heap.size := by
      rcases Nat.lt_or_ge b w.heap.size with h | h
      · exact h
      · simp [World.cell?, Array.getElem?_eq_none h] at hc
    rw [hb.cell hlt]; exact hc
set_option maxHeartbeats 400000 in
theorem nuint {v : Value} {w : World} (h : NR w v) (most : Int) : Calls Tryz.prog 39 #[v, .int .u64 most] w fun e w' => e = .returned (.int .u64 0) ∧ Below w.heap.size w w' := by
  have hb := (Below.refl w.heap.size w).alloc (Nat.le_refl _) (.cells #[.int .u64 most] 37)
  have HN := Lib.hid (fun f => num_none (f := f) (h.grow hb))
  clear h
  go_enter Tryz.func39, Tryz.ntmps39
  go_wp2_with (go_at_call 76; ((with_reducible refine (HN.out _).mono ?_); rintro e w' ⟨rfl, rfl⟩))
  go_ret
  exact ⟨rfl, hb⟩
set_option maxHeartbeats 400000 in
theorem nint {v : Value} {w : World} (h : NR w v) (lo hi : Int) : Calls Tryz.prog 41 #[v, .int .i64 lo, .int .i64 hi] w fun e w' => e = .returned (.int .i64 0) ∧ Below w.heap.size w w' := by
  have hb := ((Below.refl w.heap.size w).alloc (Nat.le_refl _) (.cells #[.int .i64 lo] 2)).alloc (by simp) (.cells #[.int .i64 hi] 2)
  have HN := Lib.hid (fun f => num_none (f := f) (h.grow hb))
  have HZ := Lib.hid (fun w => zag_any 0 (by unfold U64; omega) w)
  clear h
  go_enter Tryz.func41, Tryz.ntmps41
  go_wp2_with (first | (go_at_call 76; ((with_reducible refine (HN.out _).mono ?_); rintro e w' ⟨rfl, rfl⟩)) | (go_at_call 80; ((with_reducible refine (HZ.out _).mono ?_); rintro e w'' ⟨rfl, rfl⟩)))
  go_ret
  exact ⟨rfl, hb⟩
set_option maxHeartbeats 400000 in
theorem ncounted {v : Value} {w : World} (h : NR w v) (most : Int) : Calls Tryz.prog 75 #[v, .int .i64 most] w fun e w' => e = .returned (.int .u64 0) ∧ Below w.heap.size w w' := by
  have hb := ((Below.refl w.heap.size w).alloc (Nat.le_refl _) (.cells #[v] 78)).alloc (by simp) (.cells #[.int .i64 most] 3)
  have HN := Lib.hid (fun f => num_none (f := f) (h.grow hb))
  rcases h with rfl | ⟨b, rfl, hc⟩
  · go_enter Tryz.func75, Tryz.ntmps75
    go_wp2_with (go_at_call 76; ((with_reducible refine (HN.out _).mono ?_); rintro e w' ⟨rfl, rfl⟩))
    go_ret
    exact ⟨rfl, hb⟩
  · clear hc
    go_enter Tryz.func75, Tryz.ntmps75
    go_wp2_with (go_at_call 76; ((with_reducible refine (HN.out _).mono ?_); rintro e w' ⟨rfl, rfl⟩))
    go_ret
    exact ⟨rfl, hb⟩
set_option maxHeartbeats 400000 in
theorem ncount {v : Value} {w : World} (h : NR w v) (most : Int) : Calls Tryz.prog 38 #[v, .int .i64 most] w fun e w' => e = .returned (.int .i64 0) ∧ Below w.heap.size w w' := by
  have HN := Lib.hid (ncounted h most)
  clear h
  go_enter Tryz.func38, Tryz.ntmps38
  go_wp2_with (go_at_call 75; ((with_reducible refine HN.out.mono ?_); rintro e w' ⟨rfl, hb⟩))
  go_ret
  exact ⟨rfl, hb⟩
set_option maxHeartbeats 400000 in
theorem ntext {v : Value} {w : World} (h : NR w v) (most : Int) : Calls Tryz.prog 40 #[v, .int .i64 most] w fun e w' => e = .returned (.string ⟨#[]⟩) ∧ Below w.heap.size w w' := by
  have HN := Lib.hid (ncounted h most)
  have HH := Lib.hid h
  clear h
  go_enter Tryz.func40, Tryz.ntmps40
  go_wp2_with (first | (go_at_call 75; ((with_reducible refine HN.out.mono ?_); rintro e w1 ⟨rfl, hb⟩; have HX := Lib.hid (none_none (HH.out.grow hb)))) | (go_at_call 78; ((with_reducible refine HX.out.mono ?_); rintro e w' ⟨rfl, rfl⟩)))
  go_ret
  exact ⟨rfl, hb⟩
set_option maxHeartbeats 400000 in
theorem nerr {v : Value} {w : World} (h : NR w v) : Calls Tryz.prog 104 #[v] w fun e w' => e = .returned (.int .i64 1) ∧ w = w' := by
  have HX := Lib.hid (none_none h)
  clear h
  go_enter Tryz.func104, Tryz.ntmps104
  go_wp2_with (go_at_call 78; ((with_reducible refine HX.out.mono ?_); rintro e w' ⟨rfl, rfl⟩))
  go_ret
  exact ⟨rfl, rfl⟩
set_option maxHeartbeats 400000 in
theorem nend {v : Value} {w : World} (h : NR w v) : Calls Tryz.prog 42 #[v] w fun e w' => e = .returned (.int .i64 1) ∧ w = w' := by
  have HX := Lib.hid (none_none h)
  clear h
  go_enter Tryz.func42, Tryz.ntmps42
  go_wp2_with (go_at_call 78; ((with_reducible refine HX.out.mono ?_); rintro e w' ⟨rfl, rfl⟩))
  go_ret
  exact ⟨rfl, rfl⟩
end Go.Proofs.YtlahficmkfgooaaGreat


/- An argument that is a slice, opened out of its reading: what its elements' cells hold. No condition. -/
namespace Go.Proofs.YtlahficmkfgooaaGreat
open Go.RowKit Go.ChangeShapes Go.WideShapes Go.Deep
set_option linter.unusedVariables false
section
variable {H : Type} {enc : TypeId × Value → H} {P : Program} {w : World} {base : Nat} {held : Bool} {n : Nat}
/-- One field of a struct's cells. -/
theorem open_field {t : TypeId} {fs : Array Field} {fuel : Nat} {cs : List Value} {x : DataW H × List MemPlace} (hs : P.underlying t = some (.struct fs)) (h : DataW.trod enc P w base (fun _ => true) held fuel t cs = some x)
    (i : Nat) (f : Field) (hf : fs[i]? = some f) (o : Nat) (ho : f.offset = o) (hc : P.cellsOf f.type = 1) (hlt : o < cs.length) :
    ∃ m y, DataW.trod enc P w base (fun _ => true) held m f.type [cs.getD o undef] = some y := by
  obtain ⟨xs, m, _, _, _, hl, hx⟩ := DataW.trod_struct hs h
  have := hx i f hf
  have hi : i < fs.size := (Array.getElem?_eq_some_iff.1 hf).1
  rw [ho, hc, List.getElem?_eq_getElem (by omega)] at this
  refine ⟨m, xs[i]'(by omega), ?_⟩
  rw [← this]
  congr 1
  rw [List.drop_eq_getElem_cons hlt]
  show _ = [cs[o]]
  simp [List.getD, hlt]
/-- A slice of whatever: where it lies, and how its elements read. -/
theorem open_rows {r : Reach} {b0 : Nat} {t e : TypeId} {v : Value} {d : DataW H} {ps : List MemPlace} {m : Nat} (ht : P.underlying t = some (.slice e)) (hc : P.cellsOf e = m) (hm : 0 < m) (hval : Value.okWide P w r b0 t v) (hd : DataW.Trod enc P w base (fun _ => true) held t v d ps) :
    ∃ p n cap, v = .slice p n cap ∧ (0 < n → ∃ g off, p = some ⟨g, off, none⟩ ∧ g < w.heap.size ∧
      ∀ i, i < n → ∃ (cs : List Value) (fuel : Nat) (x : DataW H × List MemPlace), cs.length = m ∧ (∀ j, j < m → w.cell? ⟨g, off + i * m + j, none⟩ = cs[j]?) ∧ DataW.trod enc P w base (fun _ => true) held fuel e cs = some x) := by
  have hv : v.cells.toList = [v] := by
    obtain ⟨_, _, _, rfl⟩ := okWide_slice ht hval
    rfl
  obtain ⟨fuel, hf⟩ := hd
  rw [hv] at hf
  rcases open_slice ht hf with ⟨h1, _⟩ | ⟨a, len, cap, mm, k, D, Pl, h1, hb, hl, hmx, hmm, _, hx⟩
  · refine ⟨none, 0, 0, by simpa using h1, fun h => by omega⟩
  · refine ⟨some a, len, cap, by simpa using h1, fun h => ?_⟩
    simp only [if_true] at hmm
    have key : ∀ i, i < len → ∃ cs', cs'.length = m ∧ (∀ j, j < m → w.cell? ((a.add (i * m)).add j) = cs'[j]?) ∧ DataW.trod enc P w base (fun _ => true) held k e cs' = some (D i, Pl i) := fun i hi => by
      obtain ⟨cs', hcs, hy⟩ := hx i (by omega)
      rw [hc] at hcs
      obtain ⟨_, hlen, hcell⟩ := World.cells?_some hcs
      exact ⟨cs', hlen, hcell, hy⟩
    obtain ⟨g, off, spot⟩ := a
    have hspot : spot = none := by
      obtain ⟨cs', hlen, hcell, _⟩ := key 0 h
      have h0 := hcell 0 hm
      rw [List.getElem?_eq_getElem (by omega)] at h0
      simpa [Addr.add] using World.cell?_spot h0
    subst hspot
    have hlt : g < w.heap.size := by
      obtain ⟨cs', hlen, hcell, _⟩ := key 0 h
      have h0 := hcell 0 hm
      rw [List.getElem?_eq_getElem (by omega)] at h0
      rcases Nat.lt_or_ge g w.heap.size with h | h
      · exact h
      · simp [Addr.add, World.cell?, Array.getElem?_eq_none h] at h0
    refine ⟨g, off, rfl, hlt, fun i hi => ?_⟩
    obtain ⟨cs', hlen, hcell, hy⟩ := key i hi
    refine ⟨cs', k, _, hlen, fun j hj => ?_, hy⟩
    rw [← hcell j hj, Deep.add_add, add_plain, Nat.add_assoc]
theorem choose_fn {α : Type} [Inhabited α] {n : Nat} {p : Nat → α → Prop} (h : ∀ i, i < n → ∃ x, p i x) : ∃ f : Nat → α, ∀ i, i < n → p i (f i) := choose_lt h
end
section
variable {H : Type} {enc : TypeId × Value → H} {P : Program} {w : World} {base : Nat} {held : Bool}
/-- A slice, out of the reading of its one cell. -/
theorem open_cell_rows {t e : TypeId} {v : Value} {x : DataW H × List MemPlace} {m fuel : Nat} (ht : P.underlying t = some (.slice e)) (hc : P.cellsOf e = m) (hm : 0 < m) (hf : DataW.trod enc P w base (fun _ => true) held fuel t [v] = some x) :
    ∃ p n cap, v = .slice p n cap ∧ (0 < n → ∃ g off, p = some ⟨g, off, none⟩ ∧ g < w.heap.size ∧
      ∀ i, i < n → ∃ (cs : List Value) (fuel : Nat) (x : DataW H × List MemPlace), cs.length = m ∧ (∀ j, j < m → w.cell? ⟨g, off + i * m + j, none⟩ = cs[j]?) ∧ DataW.trod enc P w base (fun _ => true) held fuel e cs = some x) := by
  obtain ⟨d, ps⟩ := x
  rcases open_slice ht hf with ⟨h1, _⟩ | ⟨a, len, cap, mm, k, D, Pl, h1, hb, hl, hmx, hmm, _, hx⟩
  · refine ⟨none, 0, 0, by simpa using h1, fun h => by omega⟩
  · refine ⟨some a, len, cap, by simpa using h1, fun h => ?_⟩
    simp only [if_true] at hmm
    have key : ∀ i, i < len → ∃ cs', cs'.length = m ∧ (∀ j, j < m → w.cell? ((a.add (i * m)).add j) = cs'[j]?) ∧ DataW.trod enc P w base (fun _ => true) held k e cs' = some (D i, Pl i) := fun i hi => by
      obtain ⟨cs', hcs, hy⟩ := hx i (by omega)
      rw [hc] at hcs
      obtain ⟨_, hlen, hcell⟩ := World.cells?_some hcs
      exact ⟨cs', hlen, hcell, hy⟩
    obtain ⟨g, off, spot⟩ := a
    have hspot : spot = none := by
      obtain ⟨cs', hlen, hcell, _⟩ := key 0 h
      have h0 := hcell 0 hm
      rw [List.getElem?_eq_getElem (by omega)] at h0
      simpa [Addr.add] using World.cell?_spot h0
    subst hspot
    have hlt : g < w.heap.size := by
      obtain ⟨cs', hlen, hcell, _⟩ := key 0 h
      have h0 := hcell 0 hm
      rw [List.getElem?_eq_getElem (by omega)] at h0
      rcases Nat.lt_or_ge g w.heap.size with h | h
      · exact h
      · simp [Addr.add, World.cell?, Array.getElem?_eq_none h] at h0
    refine ⟨g, off, rfl, hlt, fun i hi => ?_⟩
    obtain ⟨cs', hlen, hcell, hy⟩ := key i hi
    refine ⟨cs', k, _, hlen, fun j hj => ?_, hy⟩
    rw [← hcell j hj, Deep.add_add, add_plain, Nat.add_assoc]
end
end Go.Proofs.YtlahficmkfgooaaGreat


/- Arguments that are slices of numbers, texts, Booleans; the document's writers. No condition but that numbers fit their kinds. -/
namespace Go.Proofs.YtlahficmkfgooaaGreat
open Go.RowKit Wire
set_option linter.unusedVariables false
section
open Go.ChangeShapes Go.WideShapes Go.Deep
variable {H : Type} {enc : TypeId × Value → H} {P : Program} {W : World} {base : Nat} {held : Bool} {r : Reach} {b0 : Nat} {v : Value} {d : DataW H} {ps : List MemPlace} {t e : TypeId}
theorem open_slic (ht : P.underlying t = some (.slice e)) (hc : P.cellsOf e = 1) (hval : Value.okWide P W r b0 t v) (hd : DataW.Trod enc P W base (fun _ => true) held t v d ps) :
    ∃ n f, Slic W v n f ∧ ∀ i, i < n → ∃ fuel x, DataW.trod enc P W base (fun _ => true) held fuel e [f i] = some x := by
  obtain ⟨p, n, cap, rfl, h⟩ := open_rows ht hc (by decide) hval hd
  by_cases hn : 0 < n
  · obtain ⟨g, off, rfl, hg, hx⟩ := h hn
    have key : ∀ i, i < n → ∃ u : Value, W.cell? ⟨g, off + i, none⟩ = some u ∧ ∃ fuel x, DataW.trod enc P W base (fun _ => true) held fuel e [u] = some x := by
      intro i hi
      obtain ⟨cs, fuel, x, hl, hcell, hy⟩ := hx i hi
      match cs, hl with
      | [u], _ => exact ⟨u, by have := hcell 0 (by decide); simpa using this, fuel, x, hy⟩
    haveI : Inhabited Value := ⟨undef⟩
    obtain ⟨f, hf⟩ := choose_fn key
    exact ⟨n, f, ⟨_, cap, rfl, fun _ => ⟨g, off, rfl, hg, fun i hi => (hf i hi).1⟩⟩, fun i hi => (hf i hi).2⟩
  · exact ⟨n, fun _ => undef, ⟨p, cap, rfl, fun h => absurd h hn⟩, fun i hi => absurd (Nat.lt_of_le_of_lt (Nat.zero_le _) hi) hn⟩
theorem Slic.congr {w : World} {v : Value} {n : Nat} {f g : Nat → Value} (h : Slic w v n f) (e : ∀ i, i < n → f i = g i) : Slic w v n g := by
  obtain ⟨p, cap, rfl, hS⟩ := h
  refine ⟨p, cap, rfl, fun hn => ?_⟩
  obtain ⟨g0, off, rfl, hg, hx⟩ := hS hn
  exact ⟨g0, off, rfl, hg, fun i hi => by rw [hx i hi, e i hi]⟩
theorem open_ints' {k : IntKind} (ht : P.underlying t = some (.slice e)) (he : P.underlying e = some (.int k)) (hc : P.cellsOf e = 1) (hval : Value.okWide P W r b0 t v) (hd : DataW.Trod enc P W base (fun _ => true) held t v d ps) :
    ∃ (n : Nat) (x : Nat → Int), Slic W v n (fun i => .int k (x i)) ∧ ∀ i, i < n → (Lit.int k (x i)).wf = true := by
  obtain ⟨n, f, h1, h2⟩ := open_slic ht hc hval hd
  have key : ∀ i, i < n → ∃ y : Int, f i = .int k y ∧ (Lit.int k y).wf = true := fun i hi => by
    obtain ⟨fuel, x, hx⟩ := h2 i hi
    obtain ⟨y, hy, _, hw⟩ := DataW.trod_int he hx
    exact ⟨y, by simpa using hy, hw⟩
  obtain ⟨x, hx⟩ := choose_fn key
  exact ⟨n, x, h1.congr fun i hi => (hx i hi).1, fun i hi => (hx i hi).2⟩
theorem open_ints_cell {k : IntKind} {fuel : Nat} {u : Value} {x : DataW H × List MemPlace} (ht : P.underlying t = some (.slice e)) (he : P.underlying e = some (.int k)) (hc : P.cellsOf e = 1) (h : DataW.trod enc P W base (fun _ => true) held fuel t [u] = some x) :
    ∃ (n : Nat) (x : Nat → Int), Slic W u n (fun i => .int k (x i)) ∧ ∀ i, i < n → (Lit.int k (x i)).wf = true := by
  rcases open_slice1 ht hc h with ⟨h1, _⟩ | ⟨a, len, cap, m, n, V, D, Pl, h1, hb, hl, hmx, hmm, _, hx⟩
  · have : u = .slice none 0 0 := by simpa using h1
    subst this
    exact ⟨0, fun _ => 0, ⟨none, 0, rfl, fun h => by omega⟩, fun i hi => by omega⟩
  · have : u = .slice (some a) len cap := by simpa using h1
    subst this
    simp only [if_true] at hmm
    have key : ∀ i, i < len → ∃ y : Int, W.cell? (a.add i) = some (.int k y) ∧ (Lit.int k y).wf = true := fun i hi => by
      obtain ⟨h2, h3⟩ := hx i (by omega)
      obtain ⟨y, hy, _, hw⟩ := DataW.trod_int he h3
      exact ⟨y, by rw [h2]; simpa using hy, hw⟩
    obtain ⟨y, hy⟩ := choose_fn key
    refine ⟨len, y, ⟨some a, cap, rfl, fun hn => ?_⟩, fun i hi => (hy i hi).2⟩
    obtain ⟨g, off, spot⟩ := a
    have h0 := (hy 0 hn).1
    have hspot : spot = none := by simpa [Addr.add] using World.cell?_spot h0
    subst hspot
    refine ⟨g, off, rfl, ?_, fun i hi => by rw [← (hy i hi).1, add_plain]⟩
    rcases Nat.lt_or_ge g W.heap.size with h | h
    · exact h
    · simp [Addr.add, World.cell?, Array.getElem?_eq_none h] at h0
theorem open_strs' (ht : P.underlying t = some (.slice e)) (he : P.underlying e = some .string) (hc : P.cellsOf e = 1) (hval : Value.okWide P W r b0 t v) (hd : DataW.Trod enc P W base (fun _ => true) held t v d ps) :
    ∃ (n : Nat) (x : Nat → ByteArray), Slic W v n (fun i => .string (x i)) ∧ ∀ i, i < n → (x i).size ≤ maxLen := by
  obtain ⟨n, f, h1, h2⟩ := open_slic ht hc hval hd
  have key : ∀ i, i < n → ∃ y : ByteArray, f i = .string y ∧ y.size ≤ maxLen := fun i hi => by
    obtain ⟨fuel, x, hx⟩ := h2 i hi
    obtain ⟨y, hy, _, hw⟩ := DataW.trod_string he hx
    exact ⟨y, by simpa using hy, hw⟩
  haveI : Inhabited ByteArray := ⟨⟨#[]⟩⟩
  obtain ⟨x, hx⟩ := choose_fn key
  exact ⟨n, x, h1.congr fun i hi => (hx i hi).1, fun i hi => (hx i hi).2⟩
theorem open_bools' (ht : P.underlying t = some (.slice e)) (he : P.underlying e = some .bool) (hc : P.cellsOf e = 1) (hval : Value.okWide P W r b0 t v) (hd : DataW.Trod enc P W base (fun _ => true) held t v d ps) :
    ∃ (n : Nat) (x : Nat → Bool), Slic W v n (fun i => .bool (x i)) := by
  obtain ⟨n, f, h1, h2⟩ := open_slic ht hc hval hd
  have key : ∀ i, i < n → ∃ y : Bool, f i = .bool y := fun i hi => by
    obtain ⟨fuel, x, hx⟩ := h2 i hi
    obtain ⟨y, hy, _⟩ := DataW.trod_bool he hx
    exact ⟨y, by simpa using hy⟩
  obtain ⟨x, hx⟩ := choose_fn key
  exact ⟨n, x, h1.congr fun i hi => hx i hi⟩
end
theorem Slic.grow {w w' : World} {v : Value} {n : Nat} {f : Nat → Value} (h : Slic w v n f) (hb : Below w.heap.size w w') : Slic w' v n f := by
  obtain ⟨p, cap, rfl, hS⟩ := h
  refine ⟨p, cap, rfl, fun hn => ?_⟩
  obtain ⟨g0, off, rfl, hg, hx⟩ := hS hn
  exact ⟨g0, off, rfl, by have := hb.size; omega, fun i hi => by rw [hb.cell hg]; exact hx i hi⟩
/-! ### The document's writers -/
set_option maxHeartbeats 400000 in
theorem ruint3_any (x : Int) (hx : U64 x) (w : World) : Calls Tryz.prog 72 #[.int .u64 x] w fun e w' => e = .returned (.string (Num.lebS x)) ∧ Below w.heap.size w w' := by
  have HU := Lib.hid (ruint_any x hx w)
  go_enter Tryz.func72, Tryz.ntmps72
  go_wp2_with (go_at_call 97; ((with_reducible refine HU.out.mono ?_); rintro e w' ⟨rfl, hb⟩))
  go_ret
  exact ⟨rfl, hb⟩
set_option maxHeartbeats 400000 in
theorem rint3_any (x : Int) (hx : I64 x) (w : World) : Calls Tryz.prog 74 #[.int .i64 x] w fun e w' => e = .returned (.string (intS x)) ∧ Below w.heap.size w w' := by
  have HU := Lib.hid (rint_any x hx w)
  go_enter Tryz.func74, Tryz.ntmps74
  go_wp2_with (go_at_call 98; ((with_reducible refine HU.out.mono ?_); rintro e w' ⟨rfl, hb⟩))
  go_ret
  exact ⟨rfl, hb⟩
set_option maxHeartbeats 400000 in
theorem rtext3_any (s : ByteArray) (hs : s.size ≤ 140737488355328) (w : World) : Calls Tryz.prog 73 #[.string s] w fun e w' => e = .returned (.string (textS s)) ∧ Below w.heap.size w w' := by
  have hl := lebS_size (x := (s.size : Int)) (by omega)
  have HU := Lib.hid (fun w => ruint3_any s.size (by unfold U64; omega) w)
  go_enter Tryz.func73, Tryz.ntmps73
  go_wp2_with (go_at_call 72; ((with_reducible refine (HU.out _).mono ?_); rintro e w1 ⟨rfl, b1⟩))
  go_ret
  exact ⟨rfl, b1⟩
/-! ### The law -/
namespace Wire
def catS (g : Nat → ByteArray) (n : Nat) : ByteArray := ⟨(cat g n).toArray⟩
theorem catS_zero (g : Nat → ByteArray) : catS g 0 = ⟨#[]⟩ := rfl
theorem catS_succ (g : Nat → ByteArray) (n : Nat) : catS g n ++ g n = catS g (n + 1) := by
  apply ByteArray.ext
  rw [ByteArray.data_append]
  unfold catS
  rw [cat_succ]
  simp
def AllS (g : Nat → ByteArray) (n : Nat) (w : World) (e : Ending) (w' : World) : Prop := e = .returned (.string (catS g n)) ∧ Below w.heap.size w w'
theorem alls {f : FuncId} {args : Array Value} {g : Nat → ByteArray} {n : Nat} {w : World} (h : Calls Tryz.prog f args w (AllPost g n w)) : Calls Tryz.prog f args w (AllS g n w) := h
theorem catS_size (g : Nat → ByteArray) (n : Nat) : (catS g n).size = (cat g n).length := by simp [catS, ByteArray.size]
end Wire
end Go.Proofs.YtlahficmkfgooaaGreat


/- The walks of the document's reader of bricks. No condition but that numbers fit their kinds. -/
namespace Go.Proofs.YtlahficmkfgooaaGreat
open Go.RowKit Wire
set_option linter.unusedVariables false
/-- The document's reader lies in block c. -/
structure RR (w : World) (c : Nat) (s : ByteArray) (e : Int) : Prop where
  blk : Blk w c 87 #[.string s, .int .i64 e]
  sz : s.size ≤ maxLen
theorem RR.c0 {w : World} {b : Nat} {s : ByteArray} {e : Int} (h : RR w b s e) : w.cell? ⟨b, 0, none⟩ = some (.string s) := h.blk.cell 0
theorem RR.c1 {w : World} {b : Nat} {s : ByteArray} {e : Int} (h : RR w b s e) : w.cell? ⟨b, 1, none⟩ = some (.int .i64 e) := h.blk.cell 1
theorem RR.frozen {w : World} {b : Nat} {s : ByteArray} {e : Int} (h : RR w b s e) (o : Nat) : w.frozen? ⟨b, o, none⟩ = false := h.blk.frozen o
theorem RR.alloc {w : World} {b : Nat} {s : ByteArray} {e : Int} (h : RR w b s e) (o : Obj) : RR (w.alloc o) b s e := ⟨h.blk.alloc o, h.sz⟩
theorem RR.only {S : Nat → Prop} {w w' : World} {b : Nat} {s : ByteArray} {e : Int} (h : RR w b s e) (ho : Only S w w') (hs : ¬ S b) : RR w' b s e := ⟨h.blk.only ho hs, h.sz⟩
theorem RR.below {w w' : World} {b : Nat} {s : ByteArray} {e : Int} (h : RR w b s e) (ho : Below w.heap.size w w') : RR w' b s e := ⟨h.blk.below ho, h.sz⟩
theorem RR.drew {w : World} {b : Nat} {s : ByteArray} {e : Int} (h : RR w b s e) : RR w.drew b s e := ⟨h.blk.drew, h.sz⟩
theorem RR.setE {w : World} {b : Nat} {s : ByteArray} {e : Int} (h : RR w b s e) (e' : Int) : RR (w.setCell ⟨b, 1, none⟩ (.int .i64 e')) b s e' := ⟨h.blk.set 1 _, h.sz⟩
theorem RR.setS {w : World} {b : Nat} {s : ByteArray} {e : Int} (h : RR w b s e) (s' : ByteArray) (hs : s'.size ≤ maxLen) : RR (w.setCell ⟨b, 0, none⟩ (.string s')) b s' e := ⟨h.blk.set 0 _, hs⟩
def RNumPost (b : Nat) (w : World) (v : Int) (s' : ByteArray) (e' : Int) (e : Ending) (w' : World) : Prop := e = .returned (.int .u64 v) ∧ RR w' b s' e' ∧ Only (· = b) w w'
def RIntPost (b : Nat) (w : World) (v : Int) (s' : ByteArray) (e' : Int) (e : Ending) (w' : World) : Prop := e = .returned (.int .i64 v) ∧ RR w' b s' e' ∧ Only (· = b) w w'
def RBoolPost (b : Nat) (w : World) (v : Bool) (s' : ByteArray) (e' : Int) (e : Ending) (w' : World) : Prop := e = .returned (.bool v) ∧ RR w' b s' e' ∧ Only (· = b) w w'
def RTextPost (b : Nat) (w : World) (v : ByteArray) (s' : ByteArray) (e' : Int) (e : Ending) (w' : World) : Prop := e = .returned (.string v) ∧ RR w' b s' e' ∧ Only (· = b) w w'
theorem Only.cellq {S : Nat → Prop} {w w' : World} {g o : Nat} {v : Value} (ho : Only S w w') (hc : w.cell? ⟨g, o, none⟩ = some v) (hne : ¬ S g) : w'.cell? ⟨g, o, none⟩ = some v := by
  have hlt : g < w.heap.size := by
    rcases Nat.lt_or_ge g w.heap.size with h | h
    · exact h
    · simp [World.cell?, Array.getElem?_eq_none h] at hc
  rw [← hc]; simp only [World.cell?]; rw [ho.block g hlt hne]
theorem ba_eq {s t : ByteArray} (h : s.data.toList = t.data.toList) : s = t := by
  cases s; cases t; congr; exact Array.toList_inj.1 h
set_option maxHeartbeats 400000 in
theorem rfail_any {b : Nat} {s : ByteArray} {e0 : Int} {w : World} (h : RR w b s e0) (e : Int) : Calls Tryz.prog 102 #[.pointer (some ⟨b, 0, none⟩), .int .i64 e] w fun x w' => x = .returned (.tuple #[]) ∧ w' = w.setCell ⟨b, 1, none⟩ (.int .i64 e) := by
  have c1 := h.c1
  have hf : ∀ o, w.frozen? ⟨b, o, none⟩ = false := h.frozen
  clear h
  go_enter Tryz.func102, Tryz.ntmps102
  go_wp2
  go_end0
  exact ⟨rfl, rfl⟩
set_option maxHeartbeats 1000000 in
theorem ruintm_any {b : Nat} {s : ByteArray} {e0 : Int} {w : World} (h : RR w b s e0) (most : Int) :
    Calls Tryz.prog 82 #[.pointer (some ⟨b, 0, none⟩), .int .u64 most] w (RNumPost b w (numV s e0 (uC s most)) (numS s e0 (uC s most)) (numE s e0 (uC s most))) := by
  have HH := Lib.hid h
  have c0 := h.c0
  have c1 := h.c1
  have hsz := h.sz
  unfold maxLen at hsz
  clear h
  by_cases he : e0 = 0
  · subst he
    by_cases hr : (rdS s).2.2 = 0
    · have r1 : ((((rdS s).2.2 : Nat) : Int) == 0) = true := by simp [hr]
      have r2 : ((((rdS s).2.2 : Nat) : Int) != 0) = false := by simp [hr]
      by_cases hm : most < xI s
      · have ev : numV s 0 (uC s most) = 0 := by simp [numV, uC, hm]
        have es : numS s 0 (uC s most) = s := by simp [numS, uC, hm]
        have ee : numE s 0 (uC s most) = 9 := by simp [numE, uC, hm, hr]
        rw [ev, es, ee]
        unfold xI at hm
        clear ev es ee hr
        go_enter Tryz.func82, Tryz.ntmps82
        go_wp2_with (first | (go_at_call 101; ((with_reducible refine (rread_raw s HH.out.sz _).mono ?_); rintro e w1 ⟨rfl, b1⟩; have H1 := Lib.hid (HH.out.below b1); have d0 := H1.out.c0; have d1 := H1.out.c1; have hf1 : ∀ o, w1.frozen? ⟨b, o, none⟩ = false := H1.out.frozen)) | (go_at_call 102; ((with_reducible refine (rfail_any H1.out 9).mono ?_); rintro e w2 ⟨rfl, rfl⟩)))
        go_ret
        exact ⟨rfl, H1.out.setE 9, ((Only.refl _ _).step b1).set1⟩
      · have ev : numV s 0 (uC s most) = xI s := by simp [numV, uC, hm, hr]; rfl
        have es : numS s 0 (uC s most) = tl s (rdS s).2.1 := by simp [numS, uC, hm, hr]
        have ee : numE s 0 (uC s most) = 0 := by simp [numE, uC, hm, hr]
        rw [ev, es, ee]
        have hle := rd_le hr
        unfold xI at hm ⊢
        have hm' : (((rdS s).1 : Nat) : Int) ≤ most := by omega
        clear ev es ee hr hm
        go_enter Tryz.func82, Tryz.ntmps82
        go_wp2_with (first | (go_at_call 101; ((with_reducible refine (rread_raw s HH.out.sz _).mono ?_); rintro e w1 ⟨rfl, b1⟩; have H1 := Lib.hid (HH.out.below b1); have d0 := H1.out.c0; have d1 := H1.out.c1; have hf1 : ∀ o, w1.frozen? ⟨b, o, none⟩ = false := H1.out.frozen)))
        go_ret
        exact ⟨rfl, H1.out.setS _ (Nat.le_trans (tl_size s _) HH.out.sz), ((Only.refl _ _).step b1).set1⟩
    · have r1 : ((((rdS s).2.2 : Nat) : Int) == 0) = false := by simp [hr]
      have r2 : ((((rdS s).2.2 : Nat) : Int) != 0) = true := by simp [hr]
      have ev : numV s 0 (uC s most) = 0 := by simp [numV, hr]
      have es : numS s 0 (uC s most) = s := by simp [numS, hr]
      have ee : numE s 0 (uC s most) = ((rdS s).2.2 : Nat) := by simp [numE, hr]
      rw [ev, es, ee]
      clear ev es ee hr
      go_enter Tryz.func82, Tryz.ntmps82
      go_wp2_with (first | (go_at_call 101; ((with_reducible refine (rread_raw s HH.out.sz _).mono ?_); rintro e w1 ⟨rfl, b1⟩; have H1 := Lib.hid (HH.out.below b1); have d0 := H1.out.c0; have d1 := H1.out.c1; have hf1 : ∀ o, w1.frozen? ⟨b, o, none⟩ = false := H1.out.frozen)) | (go_at_call 102; ((with_reducible refine (rfail_any H1.out ((rdS s).2.2 : Nat)).mono ?_); rintro e w2 ⟨rfl, rfl⟩)))
      go_ret
      exact ⟨rfl, H1.out.setE _, ((Only.refl _ _).step b1).set1⟩
  · have ev : numV s e0 (uC s most) = 0 := by simp [numV, he]
    have es : numS s e0 (uC s most) = s := by simp [numS, he]
    have ee : numE s e0 (uC s most) = e0 := by simp [numE, he]
    rw [ev, es, ee]
    have he' : (e0 != 0) = true := by simpa using he
    clear ev es ee he
    go_enter Tryz.func82, Tryz.ntmps82
    go_wp2
    go_ret
    exact ⟨rfl, HH.out, Only.refl _ _⟩
theorem zag0 : Num.zag 0 = 0 := rfl
set_option maxHeartbeats 1000000 in
theorem rintm_any {b : Nat} {s : ByteArray} {e0 : Int} {w : World} (h : RR w b s e0) (lo hi : Int) :
    Calls Tryz.prog 84 #[.pointer (some ⟨b, 0, none⟩), .int .i64 lo, .int .i64 hi] w (RIntPost b w (Num.zag (numV s e0 (iC s lo hi))) (numS s e0 (iC s lo hi)) (numE s e0 (iC s lo hi))) := by
  have HH := Lib.hid h
  have c0 := h.c0
  have c1 := h.c1
  have hsz := h.sz
  unfold maxLen at hsz
  clear h
  by_cases he : e0 = 0
  · subst he
    by_cases hr : (rdS s).2.2 = 0
    · have r1 : ((((rdS s).2.2 : Nat) : Int) == 0) = true := by simp [hr]
      have r2 : ((((rdS s).2.2 : Nat) : Int) != 0) = false := by simp [hr]
      by_cases hm : Num.zag (xI s) < lo ∨ hi < Num.zag (xI s)
      · have ev : numV s 0 (iC s lo hi) = 0 := by simp [numV, iC, hm]
        have es : numS s 0 (iC s lo hi) = s := by simp [numS, iC, hm]
        have ee : numE s 0 (iC s lo hi) = 9 := by simp [numE, iC, hm, hr]
        rw [ev, es, ee, zag0]
        have hm2 : Num.zag (xI s) < lo ∨ (lo ≤ Num.zag (xI s) ∧ hi < Num.zag (xI s)) := by omega
        unfold xI at hm2
        clear ev es ee hr hm
        rcases hm2 with hm | ⟨hm, hm2⟩
        · go_enter Tryz.func84, Tryz.ntmps84
          go_wp2_with (first | (go_at_call 103; ((with_reducible refine (rread_int_any s HH.out.sz _).mono ?_); unfold readIntV; rintro e w1 ⟨rfl, b1⟩; have H1 := Lib.hid (HH.out.below b1); have d0 := H1.out.c0; have d1 := H1.out.c1; have hf1 : ∀ o, w1.frozen? ⟨b, o, none⟩ = false := H1.out.frozen)) | (go_at_call 102; ((with_reducible refine (rfail_any H1.out 9).mono ?_); rintro e w2 ⟨rfl, rfl⟩)))
          go_ret
          exact ⟨rfl, H1.out.setE 9, ((Only.refl _ _).step b1).set1⟩
        · go_enter Tryz.func84, Tryz.ntmps84
          go_wp2_with (first | (go_at_call 103; ((with_reducible refine (rread_int_any s HH.out.sz _).mono ?_); unfold readIntV; rintro e w1 ⟨rfl, b1⟩; have H1 := Lib.hid (HH.out.below b1); have d0 := H1.out.c0; have d1 := H1.out.c1; have hf1 : ∀ o, w1.frozen? ⟨b, o, none⟩ = false := H1.out.frozen)) | (go_at_call 102; ((with_reducible refine (rfail_any H1.out 9).mono ?_); rintro e w2 ⟨rfl, rfl⟩)))
          go_ret
          exact ⟨rfl, H1.out.setE 9, ((Only.refl _ _).step b1).set1⟩
      · have ev : numV s 0 (iC s lo hi) = xI s := by simp [numV, iC, hm, hr]; rfl
        have es : numS s 0 (iC s lo hi) = tl s (rdS s).2.1 := by simp [numS, iC, hm, hr]
        have ee : numE s 0 (iC s lo hi) = 0 := by simp [numE, iC, hm, hr]
        rw [ev, es, ee]
        have hle := rd_le hr
        have hm1 : lo ≤ Num.zag (xI s) := by omega
        have hm2 : Num.zag (xI s) ≤ hi := by omega
        unfold xI at hm1 hm2 ⊢
        clear ev es ee hr hm
        go_enter Tryz.func84, Tryz.ntmps84
        go_wp2_with (first | (go_at_call 103; ((with_reducible refine (rread_int_any s HH.out.sz _).mono ?_); unfold readIntV; rintro e w1 ⟨rfl, b1⟩; have H1 := Lib.hid (HH.out.below b1); have d0 := H1.out.c0; have d1 := H1.out.c1; have hf1 : ∀ o, w1.frozen? ⟨b, o, none⟩ = false := H1.out.frozen)))
        go_ret
        exact ⟨rfl, H1.out.setS _ (Nat.le_trans (tl_size s _) HH.out.sz), ((Only.refl _ _).step b1).set1⟩
    · have r1 : ((((rdS s).2.2 : Nat) : Int) == 0) = false := by simp [hr]
      have r2 : ((((rdS s).2.2 : Nat) : Int) != 0) = true := by simp [hr]
      have ev : numV s 0 (iC s lo hi) = 0 := by simp [numV, hr]
      have es : numS s 0 (iC s lo hi) = s := by simp [numS, hr]
      have ee : numE s 0 (iC s lo hi) = ((rdS s).2.2 : Nat) := by simp [numE, hr]
      rw [ev, es, ee, zag0]
      clear ev es ee hr
      go_enter Tryz.func84, Tryz.ntmps84
      go_wp2_with (first | (go_at_call 103; ((with_reducible refine (rread_int_any s HH.out.sz _).mono ?_); unfold readIntV; rintro e w1 ⟨rfl, b1⟩; have H1 := Lib.hid (HH.out.below b1); have d0 := H1.out.c0; have d1 := H1.out.c1; have hf1 : ∀ o, w1.frozen? ⟨b, o, none⟩ = false := H1.out.frozen)) | (go_at_call 102; ((with_reducible refine (rfail_any H1.out ((rdS s).2.2 : Nat)).mono ?_); rintro e w2 ⟨rfl, rfl⟩)))
      go_ret
      exact ⟨rfl, H1.out.setE _, ((Only.refl _ _).step b1).set1⟩
  · have ev : numV s e0 (iC s lo hi) = 0 := by simp [numV, he]
    have es : numS s e0 (iC s lo hi) = s := by simp [numS, he]
    have ee : numE s e0 (iC s lo hi) = e0 := by simp [numE, he]
    rw [ev, es, ee, zag0]
    have he' : (e0 != 0) = true := by simpa using he
    clear ev es ee he
    go_enter Tryz.func84, Tryz.ntmps84
    go_wp2
    go_ret
    exact ⟨rfl, HH.out, Only.refl _ _⟩
end Go.Proofs.YtlahficmkfgooaaGreat
