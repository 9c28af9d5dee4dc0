import Derived.Test.YtlahficmkfgooaaGreatMgb
import Derived.Test.YtlahficmkfgooaaGreatMgc

/- The walks of the program's reader of bricks. No condition but that numbers fit their kinds. -/
namespace Go.Proofs.YtlahficmkfgooaaGreat
open Go.RowKit
set_option linter.unusedVariables false
namespace Wire
def rcells (s : ByteArray) (e : Int) : Array Value := #[.string s, .int .i64 e, .bool true]
def tl (s : ByteArray) (n : Nat) : ByteArray := s.extract n s.size
/-- What a number's reading comes to, of bytes and a fault: the number, the bytes behind, the fault. -/
def numV (s : ByteArray) (e0 code : Int) : Int := if e0 = 0 ∧ (rdS s).2.2 = 0 ∧ code = 0 then ((rdS s).1 : Nat) else 0
def numS (s : ByteArray) (e0 code : Int) : ByteArray := if e0 = 0 ∧ (rdS s).2.2 = 0 ∧ code = 0 then tl s (rdS s).2.1 else s
def numE (s : ByteArray) (e0 code : Int) : Int := if e0 = 0 then (if (rdS s).2.2 = 0 then code else ((rdS s).2.2 : Nat)) else e0
theorem rd_le {s : ByteArray} (h : (rdS s).2.2 = 0) : (rdS s).2.1 ≤ s.size := by
  rcases hr : rdS s with ⟨x, n, e⟩
  rw [hr] at h
  have h' : e = 0 := h
  subst h'
  have := (Num.rd_ok hr).1
  simpa using this
end Wire
open Wire
/-- A reader that was made lies in block b. -/
structure PR (w : World) (b : Nat) (s : ByteArray) (e : Int) : Prop where
  blk : Blk w b 125 (rcells s e)
  sz : s.size ≤ maxLen
theorem PR.c0 {w : World} {b : Nat} {s : ByteArray} {e : Int} (h : PR w b s e) : w.cell? ⟨b, 0, none⟩ = some (.string s) := h.blk.cell 0
theorem PR.c1 {w : World} {b : Nat} {s : ByteArray} {e : Int} (h : PR w b s e) : w.cell? ⟨b, 1, none⟩ = some (.int .i64 e) := h.blk.cell 1
theorem PR.c2 {w : World} {b : Nat} {s : ByteArray} {e : Int} (h : PR w b s e) : w.cell? ⟨b, 2, none⟩ = some (.bool true) := h.blk.cell 2
theorem PR.frozen {w : World} {b : Nat} {s : ByteArray} {e : Int} (h : PR w b s e) (o : Nat) : w.frozen? ⟨b, o, none⟩ = false := h.blk.frozen o
theorem PR.alloc {w : World} {b : Nat} {s : ByteArray} {e : Int} (h : PR w b s e) (o : Obj) : PR (w.alloc o) b s e := ⟨h.blk.alloc o, h.sz⟩
theorem PR.only {S : Nat → Prop} {w w' : World} {b : Nat} {s : ByteArray} {e : Int} (h : PR w b s e) (ho : Only S w w') (hs : ¬ S b) : PR w' b s e := ⟨h.blk.only ho hs, h.sz⟩
theorem PR.below {w w' : World} {b : Nat} {s : ByteArray} {e : Int} (h : PR w b s e) (ho : Below w.heap.size w w') : PR w' b s e := ⟨h.blk.below ho, h.sz⟩
theorem PR.drew {w : World} {b : Nat} {s : ByteArray} {e : Int} (h : PR w b s e) : PR w.drew b s e := ⟨h.blk.drew, h.sz⟩
theorem PR.setE {w : World} {b : Nat} {s : ByteArray} {e : Int} (h : PR w b s e) (e' : Int) : PR (w.setCell ⟨b, 1, none⟩ (.int .i64 e')) b s e' := ⟨h.blk.set 1 _, h.sz⟩
theorem PR.setS {w : World} {b : Nat} {s : ByteArray} {e : Int} (h : PR w b s e) (s' : ByteArray) (hs : s'.size ≤ maxLen) : PR (w.setCell ⟨b, 0, none⟩ (.string s')) b s' e := ⟨h.blk.set 0 _, hs⟩
theorem tl_size (s : ByteArray) (n : Nat) : (tl s n).size ≤ s.size := by unfold tl; simp
set_option maxHeartbeats 400000 in
theorem none_any {b : Nat} {s : ByteArray} {e : Int} {w : World} (h : PR w b s e) : Calls Tryz.prog 78 #[.pointer (some ⟨b, 0, none⟩)] w fun e w' => e = .returned (.bool false) ∧ w = w' := by
  have c2 := h.c2
  clear h
  go_enter Tryz.func78, Tryz.ntmps78
  go_wp2
  go_ret
  exact ⟨rfl, rfl⟩
/-- A reader that was not made, or none. -/
def NR (w : World) (v : Value) : Prop := v = .pointer none ∨ ∃ b, v = .pointer (some ⟨b, 0, none⟩) ∧ w.cell? ⟨b, 2, none⟩ = some (.bool false)
set_option maxHeartbeats 400000 in
theorem none_none {v : Value} {w : World} (h : NR w v) : Calls Tryz.prog 78 #[v] w fun e w' => e = .returned (.bool true) ∧ w = w' := by
  rcases h with rfl | ⟨b, rfl, c2⟩
  · go_enter Tryz.func78, Tryz.ntmps78
    go_wp2
    go_ret
    exact ⟨rfl, rfl⟩
  · go_enter Tryz.func78, Tryz.ntmps78
    go_wp2
    go_ret
    exact ⟨rfl, rfl⟩
def TakePost (b : Nat) (w : World) (r : Bool) (s' : ByteArray) (e' : Int) (e : Ending) (w' : World) : Prop := e = .returned (.bool r) ∧ PR w' b s' e' ∧ Only (· = b) w w'
set_option maxHeartbeats 400000 in
theorem take_bad {b : Nat} {s : ByteArray} {e0 : Int} {w : World} (h : PR w b s e0) (n : Int) (e : Int) (he : ¬ e0 = 0) :
    Calls Tryz.prog 79 #[.pointer (some ⟨b, 0, none⟩), .int .i64 n, .int .i64 e] w (TakePost b w false s e0) := by
  have HH := Lib.hid h
  have c1 := h.c1
  have h1 : (e0 != 0) = true := by simpa using he
  clear h he
  go_enter Tryz.func79, Tryz.ntmps79
  go_wp2
  go_ret
  exact ⟨rfl, HH.out, Only.refl _ _⟩
set_option maxHeartbeats 400000 in
theorem take_fault {b : Nat} {s : ByteArray} {w : World} (h : PR w b s 0) (n : Int) (e : Int) (he : ¬ e = 0) :
    Calls Tryz.prog 79 #[.pointer (some ⟨b, 0, none⟩), .int .i64 n, .int .i64 e] w (TakePost b w false s e) := by
  have HH := Lib.hid h
  have c1 := h.c1
  have hf : ∀ o, w.frozen? ⟨b, o, none⟩ = false := h.frozen
  have h1 : (e != 0) = true := by simpa using he
  clear h he
  go_enter Tryz.func79, Tryz.ntmps79
  go_wp2
  go_ret
  exact ⟨rfl, HH.out.setE e, (Only.refl _ _).set1⟩
set_option maxHeartbeats 400000 in
theorem take_yes {b : Nat} {s : ByteArray} {w : World} (h : PR w b s 0) (n : Nat) (hn : n ≤ s.size) :
    Calls Tryz.prog 79 #[.pointer (some ⟨b, 0, none⟩), .int .i64 n, .int .i64 0] w (TakePost b w true (tl s n) 0) := by
  have HH := Lib.hid h
  have c0 := h.c0
  have c1 := h.c1
  have hf : ∀ o, w.frozen? ⟨b, o, none⟩ = false := h.frozen
  have hsz := h.sz
  unfold maxLen at hsz
  clear h
  go_enter Tryz.func79, Tryz.ntmps79
  go_wp2
  go_ret
  refine ⟨rfl, ?_, ?_⟩
  · skip
    exact (HH.out.setE 0).setS _ (Nat.le_trans (tl_size s n) HH.out.sz)
  · exact (Only.refl _ _).set1.set1
def NumPost (b : Nat) (w : World) (v : Int) (s' : ByteArray) (e' : Int) (e : Ending) (w' : World) : Prop := e = .returned (.int .u64 v) ∧ PR w' b s' e' ∧ Only (· = b) w w'
theorem PR.belowP {w w' : World} {b : Nat} {s : ByteArray} {e : Int} (h : PR w b s e) {B : Nat} (ho : Below B w w') (hb : b < B) : PR w' b s e := ⟨h.blk.belowB ho hb, h.sz⟩
set_option maxHeartbeats 400000 in
theorem num_none {v f : Value} {w : World} (h : NR w v) : Calls Tryz.prog 76 #[v, f] w fun e w' => e = .returned (.int .u64 0) ∧ w = w' := by
  have HN := Lib.hid (none_none h)
  clear h
  go_enter Tryz.func76, Tryz.ntmps76
  go_wp2_with (go_at_call 78; ((with_reducible refine HN.out.mono ?_); rintro e w' ⟨rfl, rfl⟩))
  go_ret
  exact ⟨rfl, rfl⟩
set_option maxHeartbeats 1000000 in
  theorem num_uint {b : Nat} {s : ByteArray} {e0 : Int} {w : World} (h : PR w b s e0) (q : Nat) (code : Int)
      (hc : (rdS s).2.2 = 0 → Calls Tryz.prog 77 #[.int .u64 ((rdS s).1 : Nat), .int .i64 ((rdS s).2.1 : Nat), .pointer (some ⟨q, 0, none⟩)] w fun e w' => e = .returned (.tuple #[.int .i64 ((rdS s).2.1 : Nat), .int .i64 code]) ∧ w = w') :
      Calls Tryz.prog 76 #[.pointer (some ⟨b, 0, none⟩), .func (.func 77) #[] #[.pointer (some ⟨q, 0, none⟩)]] w (NumPost b w (numV s e0 code) (numS s e0 code) (numE s e0 code)) := by
    have HH := Lib.hid h
    have HC := Lib.hid hc
    have c0 := h.c0
    clear h hc
    by_cases hr : (rdS s).2.2 = 0
    · have HK := Lib.hid (HC.out hr)
      have hle := rd_le hr
      have r1 : ((((rdS s).2.2 : Nat) : Int) == 0) = true := by simp [hr]
      by_cases he : e0 = 0
      · subst he
        by_cases hcode : code = 0
        · subst hcode
          have ev : numV s 0 0 = ((rdS s).1 : Nat) := by simp [numV, hr]
          have es : numS s 0 0 = tl s (rdS s).2.1 := by simp [numS, hr]
          have ee : numE s 0 0 = 0 := by simp [numE, hr]
          rw [ev, es, ee]
          clear ev es ee hr
          have HT := Lib.hid (take_yes HH.out (rdS s).2.1 hle)
          go_enter Tryz.func76, Tryz.ntmps76
          go_wp2_with (first | (go_at_call 78; ((with_reducible refine (none_any HH.out).mono ?_); rintro e w' ⟨rfl, rfl⟩)) | (go_at_call 100; ((with_reducible refine (read_raw s HH.out.sz _).mono ?_); rintro e w' ⟨rfl, rfl⟩)) | (go_at_call 77; ((with_reducible refine (HK.out).mono ?_); rintro e w' ⟨rfl, rfl⟩)) | (go_at_call 79; ((with_reducible refine (HT.out).mono ?_); rintro e w' ⟨rfl, hP, hO⟩)))
          go_ret
          exact ⟨rfl, hP, hO⟩
        · have ev : numV s 0 code = 0 := by simp [numV, hcode]
          have es : numS s 0 code = s := by simp [numS, hcode]
          have ee : numE s 0 code = code := by simp [numE, hr]
          rw [ev, es, ee]
          clear ev es ee hr
          have HT := Lib.hid (take_fault HH.out ((rdS s).2.1 : Nat) code hcode)
          clear hcode
          go_enter Tryz.func76, Tryz.ntmps76
          go_wp2_with (first | (go_at_call 78; ((with_reducible refine (none_any HH.out).mono ?_); rintro e w' ⟨rfl, rfl⟩)) | (go_at_call 100; ((with_reducible refine (read_raw s HH.out.sz _).mono ?_); rintro e w' ⟨rfl, rfl⟩)) | (go_at_call 77; ((with_reducible refine (HK.out).mono ?_); rintro e w' ⟨rfl, rfl⟩)) | (go_at_call 79; ((with_reducible refine (HT.out).mono ?_); rintro e w' ⟨rfl, hP, hO⟩)))
          go_ret
          exact ⟨rfl, hP, hO⟩
      · have ev : numV s e0 code = 0 := by simp [numV, he]
        have es : numS s e0 code = s := by simp [numS, he]
        have ee : numE s e0 code = e0 := by simp [numE, he]
        rw [ev, es, ee]
        clear ev es ee hr
        have HT := Lib.hid (take_bad HH.out ((rdS s).2.1 : Nat) code he)
        clear he
        go_enter Tryz.func76, Tryz.ntmps76
        go_wp2_with (first | (go_at_call 78; ((with_reducible refine (none_any HH.out).mono ?_); rintro e w' ⟨rfl, rfl⟩)) | (go_at_call 100; ((with_reducible refine (read_raw s HH.out.sz _).mono ?_); rintro e w' ⟨rfl, rfl⟩)) | (go_at_call 77; ((with_reducible refine (HK.out).mono ?_); rintro e w' ⟨rfl, rfl⟩)) | (go_at_call 79; ((with_reducible refine (HT.out).mono ?_); rintro e w' ⟨rfl, hP, hO⟩)))
        go_ret
        exact ⟨rfl, hP, hO⟩
    · have r1 : ((((rdS s).2.2 : Nat) : Int) == 0) = false := by simp [hr]
      have hr' : ¬ (((rdS s).2.2 : Nat) : Int) = 0 := by omega
      have ev : numV s e0 code = 0 := by simp [numV, hr]
      have es : numS s e0 code = s := by simp [numS, hr]
      rw [ev, es]
      by_cases he : e0 = 0
      · subst he
        have ee : numE s 0 code = ((rdS s).2.2 : Nat) := by simp [numE, hr]
        rw [ee]
        clear ev es ee hr
        have HT := Lib.hid (take_fault HH.out ((rdS s).2.1 : Nat) ((rdS s).2.2 : Nat) hr')
        clear hr'
        go_enter Tryz.func76, Tryz.ntmps76
        go_wp2_with (first | (go_at_call 78; ((with_reducible refine (none_any HH.out).mono ?_); rintro e w' ⟨rfl, rfl⟩)) | (go_at_call 100; ((with_reducible refine (read_raw s HH.out.sz _).mono ?_); rintro e w' ⟨rfl, rfl⟩)) | (go_at_call 79; ((with_reducible refine (HT.out).mono ?_); rintro e w' ⟨rfl, hP, hO⟩)))
        go_ret
        exact ⟨rfl, hP, hO⟩
      · have ee : numE s e0 code = e0 := by simp [numE, he]
        rw [ee]
        clear ev es ee hr
        have HT := Lib.hid (take_bad HH.out ((rdS s).2.1 : Nat) ((rdS s).2.2 : Nat) he)
        clear he hr'
        go_enter Tryz.func76, Tryz.ntmps76
        go_wp2_with (first | (go_at_call 78; ((with_reducible refine (none_any HH.out).mono ?_); rintro e w' ⟨rfl, rfl⟩)) | (go_at_call 100; ((with_reducible refine (read_raw s HH.out.sz _).mono ?_); rintro e w' ⟨rfl, rfl⟩)) | (go_at_call 79; ((with_reducible refine (HT.out).mono ?_); rintro e w' ⟨rfl, hP, hO⟩)))
        go_ret
        exact ⟨rfl, hP, hO⟩
set_option maxHeartbeats 1000000 in
        theorem num_int {b : Nat} {s : ByteArray} {e0 : Int} {w : World} (h : PR w b s e0) (q r : Nat) (code : Int)
            (hc : (rdS s).2.2 = 0 → Calls Tryz.prog 81 #[.int .u64 ((rdS s).1 : Nat), .int .i64 ((rdS s).2.1 : Nat), .pointer (some ⟨q, 0, none⟩), .pointer (some ⟨r, 0, none⟩)] w fun e w' => e = .returned (.tuple #[.int .i64 ((rdS s).2.1 : Nat), .int .i64 code]) ∧ w = w') :
            Calls Tryz.prog 76 #[.pointer (some ⟨b, 0, none⟩), .func (.func 81) #[] #[.pointer (some ⟨q, 0, none⟩), .pointer (some ⟨r, 0, none⟩)]] w (NumPost b w (numV s e0 code) (numS s e0 code) (numE s e0 code)) := by
          have HH := Lib.hid h
          have HC := Lib.hid hc
          have c0 := h.c0
          clear h hc
          by_cases hr : (rdS s).2.2 = 0
          · have HK := Lib.hid (HC.out hr)
            have hle := rd_le hr
            have r1 : ((((rdS s).2.2 : Nat) : Int) == 0) = true := by simp [hr]
            by_cases he : e0 = 0
            · subst he
              by_cases hcode : code = 0
              · subst hcode
                have ev : numV s 0 0 = ((rdS s).1 : Nat) := by simp [numV, hr]
                have es : numS s 0 0 = tl s (rdS s).2.1 := by simp [numS, hr]
                have ee : numE s 0 0 = 0 := by simp [numE, hr]
                rw [ev, es, ee]
                clear ev es ee hr
                have HT := Lib.hid (take_yes HH.out (rdS s).2.1 hle)
                go_enter Tryz.func76, Tryz.ntmps76
                go_wp2_with (first | (go_at_call 78; ((with_reducible refine (none_any HH.out).mono ?_); rintro e w' ⟨rfl, rfl⟩)) | (go_at_call 100; ((with_reducible refine (read_raw s HH.out.sz _).mono ?_); rintro e w' ⟨rfl, rfl⟩)) | (go_at_call 81; ((with_reducible refine (HK.out).mono ?_); rintro e w' ⟨rfl, rfl⟩)) | (go_at_call 79; ((with_reducible refine (HT.out).mono ?_); rintro e w' ⟨rfl, hP, hO⟩)))
                go_ret
                exact ⟨rfl, hP, hO⟩
              · have ev : numV s 0 code = 0 := by simp [numV, hcode]
                have es : numS s 0 code = s := by simp [numS, hcode]
                have ee : numE s 0 code = code := by simp [numE, hr]
                rw [ev, es, ee]
                clear ev es ee hr
                have HT := Lib.hid (take_fault HH.out ((rdS s).2.1 : Nat) code hcode)
                clear hcode
                go_enter Tryz.func76, Tryz.ntmps76
                go_wp2_with (first | (go_at_call 78; ((with_reducible refine (none_any HH.out).mono ?_); rintro e w' ⟨rfl, rfl⟩)) | (go_at_call 100; ((with_reducible refine (read_raw s HH.out.sz _).mono ?_); rintro e w' ⟨rfl, rfl⟩)) | (go_at_call 81; ((with_reducible refine (HK.out).mono ?_); rintro e w' ⟨rfl, rfl⟩)) | (go_at_call 79; ((with_reducible refine (HT.out).mono ?_); rintro e w' ⟨rfl, hP, hO⟩)))
                go_ret
                exact ⟨rfl, hP, hO⟩
            · have ev : numV s e0 code = 0 := by simp [numV, he]
              have es : numS s e0 code = s := by simp [numS, he]
              have ee : numE s e0 code = e0 := by simp [numE, he]
              rw [ev, es, ee]
              clear ev es ee hr
              have HT := Lib.hid (take_bad HH.out ((rdS s).2.1 : Nat) code he)
              clear he
              go_enter Tryz.func76, Tryz.ntmps76
              go_wp2_with (first | (go_at_call 78; ((with_reducible refine (none_any HH.out).mono ?_); rintro e w' ⟨rfl, rfl⟩)) | (go_at_call 100; ((with_reducible refine (read_raw s HH.out.sz _).mono ?_); rintro e w' ⟨rfl, rfl⟩)) | (go_at_call 81; ((with_reducible refine (HK.out).mono ?_); rintro e w' ⟨rfl, rfl⟩)) | (go_at_call 79; ((with_reducible refine (HT.out).mono ?_); rintro e w' ⟨rfl, hP, hO⟩)))
              go_ret
              exact ⟨rfl, hP, hO⟩
          · have r1 : ((((rdS s).2.2 : Nat) : Int) == 0) = false := by simp [hr]
            have hr' : ¬ (((rdS s).2.2 : Nat) : Int) = 0 := by omega
            have ev : numV s e0 code = 0 := by simp [numV, hr]
            have es : numS s e0 code = s := by simp [numS, hr]
            rw [ev, es]
            by_cases he : e0 = 0
            · subst he
              have ee : numE s 0 code = ((rdS s).2.2 : Nat) := by simp [numE, hr]
              rw [ee]
              clear ev es ee hr
              have HT := Lib.hid (take_fault HH.out ((rdS s).2.1 : Nat) ((rdS s).2.2 : Nat) hr')
              clear hr'
              go_enter Tryz.func76, Tryz.ntmps76
              go_wp2_with (first | (go_at_call 78; ((with_reducible refine (none_any HH.out).mono ?_); rintro e w' ⟨rfl, rfl⟩)) | (go_at_call 100; ((with_reducible refine (read_raw s HH.out.sz _).mono ?_); rintro e w' ⟨rfl, rfl⟩)) | (go_at_call 79; ((with_reducible refine (HT.out).mono ?_); rintro e w' ⟨rfl, hP, hO⟩)))
              go_ret
              exact ⟨rfl, hP, hO⟩
            · have ee : numE s e0 code = e0 := by simp [numE, he]
              rw [ee]
              clear ev es ee hr
              have HT := Lib.hid (take_bad HH.out ((rdS s).2.1 : Nat) ((rdS s).2.2 : Nat) he)
              clear he hr'
              go_enter Tryz.func76, Tryz.ntmps76
              go_wp2_with (first | (go_at_call 78; ((with_reducible refine (none_any HH.out).mono ?_); rintro e w' ⟨rfl, rfl⟩)) | (go_at_call 100; ((with_reducible refine (read_raw s HH.out.sz _).mono ?_); rintro e w' ⟨rfl, rfl⟩)) | (go_at_call 79; ((with_reducible refine (HT.out).mono ?_); rintro e w' ⟨rfl, hP, hO⟩)))
              go_ret
              exact ⟨rfl, hP, hO⟩
set_option maxHeartbeats 1000000 in
                    theorem num_cnt {b : Nat} {s : ByteArray} {e0 : Int} {w : World} (h : PR w b s e0) (q r : Nat) (code : Int)
                        (hc : (rdS s).2.2 = 0 → Calls Tryz.prog 99 #[.int .u64 ((rdS s).1 : Nat), .int .i64 ((rdS s).2.1 : Nat), .pointer (some ⟨q, 0, none⟩), .pointer (some ⟨r, 0, none⟩)] w fun e w' => e = .returned (.tuple #[.int .i64 ((rdS s).2.1 : Nat), .int .i64 code]) ∧ w = w') :
                        Calls Tryz.prog 76 #[.pointer (some ⟨b, 0, none⟩), .func (.func 99) #[] #[.pointer (some ⟨q, 0, none⟩), .pointer (some ⟨r, 0, none⟩)]] w (NumPost b w (numV s e0 code) (numS s e0 code) (numE s e0 code)) := by
                      have HH := Lib.hid h
                      have HC := Lib.hid hc
                      have c0 := h.c0
                      clear h hc
                      by_cases hr : (rdS s).2.2 = 0
                      · have HK := Lib.hid (HC.out hr)
                        have hle := rd_le hr
                        have r1 : ((((rdS s).2.2 : Nat) : Int) == 0) = true := by simp [hr]
                        by_cases he : e0 = 0
                        · subst he
                          by_cases hcode : code = 0
                          · subst hcode
                            have ev : numV s 0 0 = ((rdS s).1 : Nat) := by simp [numV, hr]
                            have es : numS s 0 0 = tl s (rdS s).2.1 := by simp [numS, hr]
                            have ee : numE s 0 0 = 0 := by simp [numE, hr]
                            rw [ev, es, ee]
                            clear ev es ee hr
                            have HT := Lib.hid (take_yes HH.out (rdS s).2.1 hle)
                            go_enter Tryz.func76, Tryz.ntmps76
                            go_wp2_with (first | (go_at_call 78; ((with_reducible refine (none_any HH.out).mono ?_); rintro e w' ⟨rfl, rfl⟩)) | (go_at_call 100; ((with_reducible refine (read_raw s HH.out.sz _).mono ?_); rintro e w' ⟨rfl, rfl⟩)) | (go_at_call 99; ((with_reducible refine (HK.out).mono ?_); rintro e w' ⟨rfl, rfl⟩)) | (go_at_call 79; ((with_reducible refine (HT.out).mono ?_); rintro e w' ⟨rfl, hP, hO⟩)))
                            go_ret
                            exact ⟨rfl, hP, hO⟩
                          · have ev : numV s 0 code = 0 := by simp [numV, hcode]
                            have es : numS s 0 code = s := by simp [numS, hcode]
                            have ee : numE s 0 code = code := by simp [numE, hr]
                            rw [ev, es, ee]
                            clear ev es ee hr
                            have HT := Lib.hid (take_fault HH.out ((rdS s).2.1 : Nat) code hcode)
                            clear hcode
                            go_enter Tryz.func76, Tryz.ntmps76
                            go_wp2_with (first | (go_at_call 78; ((with_reducible refine (none_any HH.out).mono ?_); rintro e w' ⟨rfl, rfl⟩)) | (go_at_call 100; ((with_reducible refine (read_raw s HH.out.sz _).mono ?_); rintro e w' ⟨rfl, rfl⟩)) | (go_at_call 99; ((with_reducible refine (HK.out).mono ?_); rintro e w' ⟨rfl, rfl⟩)) | (go_at_call 79; ((with_reducible refine (HT.out).mono ?_); rintro e w' ⟨rfl, hP, hO⟩)))
                            go_ret
                            exact ⟨rfl, hP, hO⟩
                        · have ev : numV s e0 code = 0 := by simp [numV, he]
                          have es : numS s e0 code = s := by simp [numS, he]
                          have ee : numE s e0 code = e0 := by simp [numE, he]
                          rw [ev, es, ee]
                          clear ev es ee hr
                          have HT := Lib.hid (take_bad HH.out ((rdS s).2.1 : Nat) code he)
                          clear he
                          go_enter Tryz.func76, Tryz.ntmps76
                          go_wp2_with (first | (go_at_call 78; ((with_reducible refine (none_any HH.out).mono ?_); rintro e w' ⟨rfl, rfl⟩)) | (go_at_call 100; ((with_reducible refine (read_raw s HH.out.sz _).mono ?_); rintro e w' ⟨rfl, rfl⟩)) | (go_at_call 99; ((with_reducible refine (HK.out).mono ?_); rintro e w' ⟨rfl, rfl⟩)) | (go_at_call 79; ((with_reducible refine (HT.out).mono ?_); rintro e w' ⟨rfl, hP, hO⟩)))
                          go_ret
                          exact ⟨rfl, hP, hO⟩
                      · have r1 : ((((rdS s).2.2 : Nat) : Int) == 0) = false := by simp [hr]
                        have hr' : ¬ (((rdS s).2.2 : Nat) : Int) = 0 := by omega
                        have ev : numV s e0 code = 0 := by simp [numV, hr]
                        have es : numS s e0 code = s := by simp [numS, hr]
                        rw [ev, es]
                        by_cases he : e0 = 0
                        · subst he
                          have ee : numE s 0 code = ((rdS s).2.2 : Nat) := by simp [numE, hr]
                          rw [ee]
                          clear ev es ee hr
                          have HT := Lib.hid (take_fault HH.out ((rdS s).2.1 : Nat) ((rdS s).2.2 : Nat) hr')
                          clear hr'
                          go_enter Tryz.func76, Tryz.ntmps76
                          go_wp2_with (first | (go_at_call 78; ((with_reducible refine (none_any HH.out).mono ?_); rintro e w' ⟨rfl, rfl⟩)) | (go_at_call 100; ((with_reducible refine (read_raw s HH.out.sz _).mono ?_); rintro e w' ⟨rfl, rfl⟩)) | (go_at_call 79; ((with_reducible refine (HT.out).mono ?_); rintro e w' ⟨rfl, hP, hO⟩)))
                          go_ret
                          exact ⟨rfl, hP, hO⟩
                        · have ee : numE s e0 code = e0 := by simp [numE, he]
                          rw [ee]
                          clear ev es ee hr
                          have HT := Lib.hid (take_bad HH.out ((rdS s).2.1 : Nat) ((rdS s).2.2 : Nat) he)
                          clear he hr'
                          go_enter Tryz.func76, Tryz.ntmps76
                          go_wp2_with (first | (go_at_call 78; ((with_reducible refine (none_any HH.out).mono ?_); rintro e w' ⟨rfl, rfl⟩)) | (go_at_call 100; ((with_reducible refine (read_raw s HH.out.sz _).mono ?_); rintro e w' ⟨rfl, rfl⟩)) | (go_at_call 79; ((with_reducible refine (HT.out).mono ?_); rintro e w' ⟨rfl, hP, hO⟩)))
                          go_ret
                          exact ⟨rfl, hP, hO⟩
end Go.Proofs.YtlahficmkfgooaaGreat
