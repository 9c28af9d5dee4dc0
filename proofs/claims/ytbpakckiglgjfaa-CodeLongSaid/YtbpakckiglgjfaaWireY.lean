
/- The walks of the program's reader of bricks, third part: its methods. No condition but that numbers fit their kinds. -/
import Derived.Test.YtbpakckiglgjfaaWireX
namespace Go.Proofs.Ytbpakckiglgjfaa
open Go.RowKit Wire
set_option linter.unusedVariables false
namespace Wire
def xI (s : ByteArray) : Int := ((rdS s).1 : Nat)
def nI (s : ByteArray) : Int := ((rdS s).2.1 : Nat)
def uC (s : ByteArray) (most : Int) : Int := if most < xI s then 9 else 0
def iC (s : ByteArray) (lo hi : Int) : Int := if Num.zag (xI s) < lo ∨ hi < Num.zag (xI s) then 9 else 0
def tC (s : ByteArray) (xs : Nat → Int) (n : Nat) : Int := if has xs n (xI s) = true then 0 else 8
def cC (s : ByteArray) (most : Int) : Int := cntC s (xI s) (nI s) most
end Wire
theorem xI_U64 (s : ByteArray) : U64 (xI s) := rdS_U64 s
theorem numV_U64 (s : ByteArray) (e c : Int) : U64 (numV s e c) := by
  unfold numV
  split
  · exact rdS_U64 s
  · unfold U64; omega
theorem nI_le {s : ByteArray} (h : (rdS s).2.2 = 0) : nI s ≤ s.size := by unfold nI; have := rd_le h; omega
theorem cnt_ok {s : ByteArray} {e most : Int} (h : numV s e (cC s most) ≠ 0 ∨ (e = 0 ∧ numE s e (cC s most) = 0)) : numV s e (cC s most) = xI s ∧ numS s e (cC s most) = tl s (rdS s).2.1 ∧ numE s e (cC s most) = 0 ∧ xI s ≤ most ∧ xI s ≤ s.size - nI s := by
  have key : e = 0 ∧ (rdS s).2.2 = 0 ∧ cC s most = 0 := by
    rcases h with h | ⟨h1, h2⟩
    · unfold numV at h
      split at h
      · assumption
      · exact absurd rfl h
    · unfold numE at h2
      rw [if_pos h1] at h2
      split at h2
      · exact ⟨h1, by assumption, h2⟩
      · omega
  have hc := key.2.2
  unfold cC cntC at hc
  refine ⟨by unfold numV; rw [if_pos key]; rfl, by unfold numS; rw [if_pos key], by unfold numE; rw [if_pos key.1, if_pos key.2.1]; exact key.2.2, ?_, ?_⟩
  · split at hc
    · omega
    · omega
  · split at hc
    · omega
    · split at hc <;> omega
theorem numV_zero {s : ByteArray} {e c : Int} (h : numE s e c ≠ 0) : numV s e c = 0 := by
  unfold numE at h
  unfold numV
  split
  · rename_i hh; rw [if_pos hh.1, if_pos hh.2.1] at h; exact absurd hh.2.2 h
  · rfl
theorem tl_len (s : ByteArray) (n : Nat) (h : n ≤ s.size) : (tl s n).size = s.size - n := by unfold tl; simp
theorem cnt_range {s : ByteArray} {e most : Int} (hm : I64 most) : 0 ≤ numV s e (cC s most) ∧ numV s e (cC s most) ≤ 9223372036854775807 := by
  by_cases h : numV s e (cC s most) = 0
  · rw [h]; omega
  · have := cnt_ok (.inl h)
    have h1 := hm.2
    have h2 := (numV_U64 s e (cC s most)).1
    omega
/-! ### The methods -/
set_option maxHeartbeats 1000000 in
theorem puint_any {b : Nat} {s : ByteArray} {e0 : Int} {w : World} (h : PR w b s e0) (most : Int) :
    Calls Try.prog 33 #[.pointer (some ⟨b, 0, none⟩), .int .u64 most] w (NumPost b w (numV s e0 (uC s most)) (numS s e0 (uC s most)) (numE s e0 (uC s most))) := by
  have HN := Lib.hid (num_uint (h.alloc (.cells #[.int .u64 most] 49)) w.heap.size (uC s most) (fun _ => uint1_any (xI s) (nI s) most w.heap.size (by rw [(Blk.new w _ _).cell 0]; rfl)))
  clear h
  go_enter Try.func33, Try.ntmps33
  go_wp2_with (go_at_call 58; ((with_reducible refine HN.out.mono ?_); rintro e w' ⟨rfl, hP, hO⟩))
  go_ret
  exact ⟨rfl, hP, ((Only.refl _ _).alloc _).trans hO⟩
def IntPost (b : Nat) (w : World) (v : Int) (s' : ByteArray) (e' : Int) (e : Ending) (w' : World) : Prop := e = .returned (.int .i64 v) ∧ PR w' b s' e' ∧ Only (· = b) w w'
set_option maxHeartbeats 1000000 in
theorem pint_any {b : Nat} {s : ByteArray} {e0 : Int} {w : World} (h : PR w b s e0) (lo hi : Int) :
    Calls Try.prog 62 #[.pointer (some ⟨b, 0, none⟩), .int .i64 lo, .int .i64 hi] w (IntPost b w (Num.zag (numV s e0 (iC s lo hi))) (numS s e0 (iC s lo hi)) (numE s e0 (iC s lo hi))) := by
  have HN := Lib.hid (num_int ((h.alloc (.cells #[.int .i64 lo] 2)).alloc (.cells #[.int .i64 hi] 2)) w.heap.size (w.heap.size + 1) (iC s lo hi)
    (fun _ => int1_any (xI s) (nI s) lo hi w.heap.size (w.heap.size + 1) (xI_U64 s) (by rw [((Blk.new w _ _).alloc _).cell 0]; rfl) (by
      have := (Blk.new (w.alloc (.cells #[.int .i64 lo] 2)) 2 #[.int .i64 hi]).cell 0
      rw [show (w.alloc (.cells #[.int .i64 lo] 2)).heap.size = w.heap.size + 1 from by simp] at this
      rw [this]; rfl)))
  have HU := numV_U64 s e0 (iC s lo hi)
  have HZ := Lib.hid (fun w => zag_any _ HU w)
  clear h HU
  go_enter Try.func62, Try.ntmps62
  go_wp2_with (first | (go_at_call 58; ((with_reducible refine HN.out.mono ?_); rintro e w' ⟨rfl, hP, hO⟩)) | (go_at_call 77; ((with_reducible refine (HZ.out _).mono ?_); rintro e w'' ⟨rfl, rfl⟩)))
  go_ret
  exact ⟨rfl, hP, (((Only.refl _ _).alloc _).alloc _).trans hO⟩
theorem Slic.alloc {w : World} {v : Value} {n : Nat} {f : Nat → Value} (h : Slic w v n f) (o : Obj) : Slic (w.alloc o) v n f := by
  obtain ⟨p, cap, rfl, hS⟩ := h
  refine ⟨p, cap, rfl, fun hn => ?_⟩
  obtain ⟨g, off, rfl, hg, hx⟩ := hS hn
  exact ⟨g, off, rfl, by simp; omega, fun i hi => by rw [← hx i hi]; simp only [World.cell?]; rw [Below.heap_alloc _ _ _ hg]⟩
namespace Wire
def xs01 (i : Nat) : Int := if i = 0 then 0 else 1
def bC (s : ByteArray) : Int := tC s xs01 2
end Wire
def BoolPost (b : Nat) (w : World) (v : Bool) (s' : ByteArray) (e' : Int) (e : Ending) (w' : World) : Prop := e = .returned (.bool v) ∧ PR w' b s' e' ∧ Only (· = b) w w'
set_option maxHeartbeats 1000000 in
theorem pcounted_any {b : Nat} {s : ByteArray} {e0 : Int} {w : World} (h : PR w b s e0) (most : Int) (hm : I64 most) :
    Calls Try.prog 61 #[.pointer (some ⟨b, 0, none⟩), .int .i64 most] w (NumPost b w (numV s e0 (cC s most)) (numS s e0 (cC s most)) (numE s e0 (cC s most))) := by
  have HN := Lib.hid (num_cnt ((h.alloc (.cells #[.pointer (some ⟨b, 0, none⟩)] 58)).alloc (.cells #[.int .i64 most] 3)) (w.heap.size + 1) w.heap.size (cC s most)
    (fun hr => cnt1_any (xI s) (nI s) most (w.heap.size + 1) w.heap.size b ((h.alloc (.cells #[.pointer (some ⟨b, 0, none⟩)] 58)).alloc (.cells #[.int .i64 most] 3)) (xI_U64 s) (by unfold nI; omega) (nI_le hr) hm (by
      have := (Blk.new (w.alloc (.cells #[.pointer (some ⟨b, 0, none⟩)] 58)) 3 #[.int .i64 most]).cell 0
      rw [show (w.alloc (.cells #[.pointer (some ⟨b, 0, none⟩)] 58)).heap.size = w.heap.size + 1 from by simp] at this
      rw [this]; rfl) (by rw [((Blk.new w _ _).alloc _).cell 0]; rfl)))
  clear h hm
  go_enter Try.func61, Try.ntmps61
  go_wp2_with (go_at_call 58; ((with_reducible refine HN.out.mono ?_); rintro e w' ⟨rfl, hP, hO⟩))
  go_ret
  exact ⟨rfl, hP, (((Only.refl _ _).alloc _).alloc _).trans hO⟩
set_option maxHeartbeats 1000000 in
theorem pcount_any {b : Nat} {s : ByteArray} {e0 : Int} {w : World} (h : PR w b s e0) (most : Int) (hm : I64 most) :
    Calls Try.prog 35 #[.pointer (some ⟨b, 0, none⟩), .int .i64 most] w (IntPost b w (numV s e0 (cC s most)) (numS s e0 (cC s most)) (numE s e0 (cC s most))) := by
  have HN := Lib.hid (pcounted_any h most hm)
  have hr := cnt_range (s := s) (e := e0) hm
  have hr1 := hr.1
  have hr2 := hr.2
  clear h hm hr
  generalize numV s e0 (cC s most) = x at *
  go_enter Try.func35, Try.ntmps35
  go_wp2_with (go_at_call 61; ((with_reducible refine HN.out.mono ?_); rintro e w' ⟨rfl, hP, hO⟩))
  go_ret
  exact ⟨rfl, hP, hO⟩
end Go.Proofs.Ytbpakckiglgjfaa
