/- The walks of the program's leases, third part. No condition. -/
import Derived.Test.YtppkfpphefonoaaLeaseX
namespace Go.Proofs.Ytppkfpphefonoaa
open Go.RowKit Lea
set_option linter.unusedVariables false
def ExpPost (b : Nat) (len : Int) (l : List Seat) (w : World) (c : Int) (xs : List Nat) (l' : List Seat) (e : Ending) (w' : World) : Prop :=
  ∃ v, e = .returned (.tuple #[v, .int .i64 c]) ∧ w'.ownsRow w.heap.size 3 1 v xs.length (intsOf xs) ∧ PL w' b len l' ∧ Only (· = b) w w'
set_option maxHeartbeats 1000000 in
theorem expire_bad {b : Nat} {len : Int} {l : List Seat} {w : World} (h : PL w b len l) (now : Int) (h1 : okT now = false) :
    Calls Try.prog 17 #[.pointer (some ⟨b, 0, none⟩), .int .i64 now] w (ExpPost b len l w 2 [] l) := by
  have HH := Lib.hid h
  clear h
  go_enter Try.func17, Try.ntmps17
  go_wp2_with (first | (go_at_call 52; ((with_reducible refine (made_any HH.out).mono ?_); rintro e w' ⟨rfl, rfl⟩)) | (go_at_call 53; ((with_reducible refine (worker_any _ _).mono ?_); rintro e w' ⟨rfl, rfl⟩)) | (go_at_call 54; ((with_reducible refine (time_any _ _).mono ?_); rintro e w' ⟨rfl, rfl⟩)))
  go_ret2
  exact ⟨_, rfl, World.ownsRow_nil _ _ _ _, HH.out, Only.refl _ _⟩
theorem info_int : Info Try.prog 3 (.int .i64 0) 1 8 := by unfold Info; kernel_rfl
def ExpRel (b : Nat) (len : Int) (l : List Seat) (now : Int) (w : World) (u v : Value) (wr : World) : Prop :=
  ∃ i : Nat, i ≤ 33 ∧ u = .int .i64 i ∧ wr.ownsRow w.heap.size 3 1 v (expI l now i).length (intsOf (expI l now i)) ∧ PL wr b len (expL l now i) ∧ Only (· = b) w wr
theorem PL.only {w w' : World} {b : Nat} {len : Int} {l : List Seat} (h : PL w b len l) {S : Nat → Prop} (ho : Only S w w') (hs : ¬ S b) : PL w' b len l := ⟨h.blk.only ho hs, h.n, h.len1, h.len2⟩
theorem PL.below {w w' : World} {b : Nat} {len : Int} {l : List Seat} (h : PL w b len l) {B : Nat} (ho : Below B w w') (hs : b < B) : PL w' b len l := ⟨h.blk.belowB ho hs, h.n, h.len1, h.len2⟩
theorem exp_skip {b : Nat} {len : Int} {l : List Seat} {now : Int} {w wr : World} {v : Value} {k : Nat} {s : Seat} (hn : l.length = 33) (hk : k < 33) (hsd : sat l k = s) (hd : dueS now s = false)
    (hown : wr.ownsRow w.heap.size 3 1 v (expI l now k).length (intsOf (expI l now k))) (hP : PL wr b len (expL l now k)) (hO : Only (· = b) w wr) :
    ExpRel b len l now w (.int .i64 (k + 1 : Nat)) v wr := by
  have hd' : dueS now (l[k]'(by omega)) = false := by rw [← sat_k hn hk, hsd]; exact hd
  refine ⟨k + 1, by omega, rfl, ?_, ?_, hO⟩
  · rw [expI_succ, hsd, if_neg (by simp [hd])]; exact hown
  · rw [expL_no (by omega) hd']; exact hP
set_option maxRecDepth 100000 in
set_option maxHeartbeats 1000000 in
theorem expire_good {b : Nat} {len : Int} {l : List Seat} {w : World} (h : PL w b len l) (now : Int) (h1 : okT now = true) :
    Calls Try.prog 17 #[.pointer (some ⟨b, 0, none⟩), .int .i64 now] w (ExpPost b len l w 0 (expI l now 33) (expL l now 33)) := by
  have HH := Lib.hid h
  have hn := h.n
  have hbw := h.blk.lt
  clear h
  go_enter Try.func17, Try.ntmps17
  go_wp2_with (first | (go_at_call 52; ((with_reducible refine (made_any HH.out).mono ?_); rintro e w' ⟨rfl, rfl⟩)) | (go_at_call 53; ((with_reducible refine (worker_any _ _).mono ?_); rintro e w' ⟨rfl, rfl⟩)) | (go_at_call 54; ((with_reducible refine (time_any _ _).mono ?_); rintro e w' ⟨rfl, rfl⟩)))
  go_loopw [16, 4] (fun u v wr => ExpRel b len l now w u v wr) (fun u v _ => (33 - intOf u).toNat)
  case atStart => exact ⟨0, by omega, rfl, by simpa [expI, intsOf] using World.ownsRow_nil _ _ _ _, by rw [expL_zero]; exact HH.out, Only.refl _ _⟩
  case round =>
    obtain ⟨k, hk33, rfl, hown, hP, ho⟩ := hrel
    have HP := Lib.hid hP
    have HO := Lib.hid ho
    have hsz := ho.size
    by_cases hk : k < 33
    · have hs : (expL l now k)[k]'(by rw [expL_len]; omega) = l[k]'(by omega) := expL_at l now k (by omega)
      have hsd := sat_k hn hk
      generalize l[k]'(by omega) = s at hs hsd
      have c0 : wr.cell? ⟨b, 0, none⟩ = some (.int .i64 len) := hP.blk.cell 0
      have c10 : wr.cell? ⟨b, 1 + k * 5, none⟩ = some (.int .i64 s.w) := by have := hP.cell hk 0 (by omega); rw [hs] at this; exact this
      have c1 : wr.cell? ⟨b, 1 + k * 5 + 1, none⟩ = some (.int .u64 s.inc) := by rw [hP.cell hk 1 (by omega), hs]; rfl
      have c2 : wr.cell? ⟨b, 1 + k * 5 + 2, none⟩ = some (.int .i64 s.til) := by rw [hP.cell hk 2 (by omega), hs]; rfl
      have c3 : wr.cell? ⟨b, 1 + k * 5 + 3, none⟩ = some (.bool s.alive) := by rw [hP.cell hk 3 (by omega), hs]; rfl
      have c4 : wr.cell? ⟨b, 1 + k * 5 + 4, none⟩ = some (.int .u64 s.seen) := by rw [hP.cell hk 4 (by omega), hs]; rfl
      have hf : ∀ o, wr.frozen? ⟨b, o, none⟩ = false := hP.frozen
      have hl1 := hP.len1
      have hl2 := hP.len2
      have hown1 := ownsRow_setCell_below hown (a := ⟨b, 1 + k * 5 + 3, none⟩) hbw (.bool false)
      have HO1 := Lib.hid (off_PL hP hk _ hs)
      clear hP ho
      have hil : (expI l now k).length ≤ k := expI_len l now k
      generalize hxi : (expI l now k).length = m at *
      have hm : (m : Nat) < 2147483648 := by omega
      by_cases ha : s.alive = true
      · by_cases hle : s.til ≤ now
        · go_wp2_with (at_builtin; refine wpl_append_row rfl rfl rfl rfl Try.underlying41 info_int rfl rfl rfl (by decide) (by decide) hown1 ?c1 ?c2 ?c3 ?_)
          case c1 => exact hm
          case c2 => simpa [World.setCell] using hsz
          case c3 => simp [World.setCell]
          intro v' w1 hown2 hb1
          go_wp2
          go_roundw
          case rel =>
            have hd : dueS now s = true := by simp [dueS, ha, hle]
            have hd' : dueS now (l[k]'(by omega)) = true := by rw [← sat_k hn hk, hsd]; exact hd
            refine ⟨k + 1, by omega, rfl, ?_, ?_, ?_⟩
            · rw [expI_succ, hsd, if_pos hd, List.length_append, hxi]
              simpa [intsOf] using hown2
            · have := HO1.out
              rw [expL_yes (by omega) hd', ← sat_k hn hk, hsd]
              exact this.below hb1 hbw
            · exact (HO.out.set1).stepB hb1 (Nat.le_refl _)
          case measure => simp [intOf]; omega
        · have hd : dueS now s = false := by simp [dueS, hle]
          go_wp2
          go_roundw
          case rel => exact exp_skip hn hk hsd hd (by rw [hxi]; exact hown) HP.out HO.out
          case measure => simp [intOf]; omega
      · have ha' : s.alive = false := by simpa using ha
        have hd : dueS now s = false := by simp [dueS, ha']
        clear ha
        go_wp2
        go_roundw
        case rel => exact exp_skip hn hk hsd hd (by rw [hxi]; exact hown) HP.out HO.out
        case measure => simp [intOf]; omega
    · have : k = 33 := by omega
      subst this
      clear hP ho
      go_wp2
      go_ret2
      exact ⟨_, rfl, hown, HP.out, HO.out⟩

theorem expire_any {b : Nat} {len : Int} {l : List Seat} {w : World} (h : PL w b len l) (now : Int) :
    Calls Try.prog 17 #[.pointer (some ⟨b, 0, none⟩), .int .i64 now] w (ExpPost b len l w (if okT now = true then 0 else 2) (if okT now = true then expI l now 33 else []) (if okT now = true then expL l now 33 else l)) := by
  by_cases h1 : okT now = true
  · rw [if_pos h1, if_pos h1, if_pos h1]; exact expire_good h now h1
  · rw [if_neg h1, if_neg h1, if_neg h1]; exact expire_bad h now (by simpa using h1)

/-! ### Leave -/
namespace Lea
def leave1 (l : List Seat) (n : Int) : List Seat := if (okW n && (sat l n).alive) = true then l.set n.toNat { sat l n with alive := false } else l
def leaveN (l : List Seat) (n : Int) : Nat := if (okW n && (sat l n).alive) = true then 1 else 0
def leaveL : List Seat → List Int → List Seat
  | l, [] => l
  | l, n :: ns => leaveL (leave1 l n) ns
def leaveC : List Seat → List Int → Nat
  | _, [] => 0
  | l, n :: ns => leaveN l n + leaveC (leave1 l n) ns
theorem leaveL_snoc (ns : List Int) (n : Int) : ∀ l, leaveL l (ns ++ [n]) = leave1 (leaveL l ns) n := by
  induction ns with
  | nil => intro l; rfl
  | cons m ns ih => intro l; exact ih _
theorem leaveC_snoc (ns : List Int) (n : Int) : ∀ l, leaveC l (ns ++ [n]) = leaveC l ns + leaveN (leaveL l ns) n := by
  induction ns with
  | nil => intro l; simp [leaveC, leaveL]
  | cons m ns ih => intro l; simp only [List.cons_append, leaveC, leaveL, ih]; omega
theorem leaveC_le (ns : List Int) : ∀ l, leaveC l ns ≤ ns.length := by
  induction ns with
  | nil => intro l; simp [leaveC]
  | cons m ns ih => intro l; have := ih (leave1 l m); simp only [leaveC, List.length_cons]; unfold leaveN; split <;> omega
def ints (ns : List Int) : Array Value := (ns.map (Value.int .i64)).toArray
theorem ints_get (ns : List Int) {k : Nat} (h : k < ns.length) : (ints ns)[k]? = some (.int .i64 ns[k]) := by simp [ints, h]
end Lea
def LeaveRel (b g : Nat) (len : Int) (l : List Seat) (ns : List Int) (w : World) (u v : Value) (wr : World) : Prop :=
  ∃ i : Nat, i ≤ ns.length ∧ u = .int .i64 i ∧ v = .int .i64 (leaveC l (ns.take i)) ∧ PL wr b len (leaveL l (ns.take i)) ∧ Only (· = b) w wr
theorem take_snoc {α : Type} (l : List α) {k : Nat} (h : k < l.length) : l.take (k + 1) = l.take k ++ [l[k]] := by simp
theorem leave_no {l : List Seat} {n : Int} (h : (okW n && (sat l n).alive) = false) : leave1 l n = l ∧ leaveN l n = 0 := by simp [leave1, leaveN, h]
theorem leave_yes {l : List Seat} {n : Int} (h : (okW n && (sat l n).alive) = true) : leave1 l n = l.set n.toNat { sat l n with alive := false } ∧ leaveN l n = 1 := by simp only [leave1, leaveN, h, if_true, and_self]
theorem leave_rel {b g : Nat} {len : Int} {l : List Seat} {ns : List Int} {w wr : World} {k : Nat} (hk : k < ns.length) {l' : List Seat} {c : Nat} (hl : leave1 (leaveL l (ns.take k)) ns[k] = l') (hc : leaveC l (ns.take k) + leaveN (leaveL l (ns.take k)) ns[k] = c)
    (hP : PL wr b len l') (hO : Only (· = b) w wr) : LeaveRel b g len l ns w (.int .i64 (k + 1 : Nat)) (.int .i64 c) wr := by
  refine ⟨k + 1, hk, rfl, ?_, ?_, hO⟩
  · rw [take_snoc ns hk, leaveC_snoc, hc]
  · rw [take_snoc ns hk, leaveL_snoc, hl]; exact hP
set_option maxRecDepth 100000 in
set_option maxHeartbeats 1000000 in
theorem leave_any {b : Nat} {len : Int} {l : List Seat} {w : World} (h : PL w b len l) (g : Nat) (T : TypeId) (ns : List Int) (hg : Blk w g T (ints ns)) (hgb : g ≠ b) (hm : ns.length < 1000) :
    Calls Try.prog 20 #[.pointer (some ⟨b, 0, none⟩), .slice (some ⟨g, 0, none⟩) ns.length ns.length] w (CodePost b len w (leaveC l ns) (leaveL l ns)) := by
  have HH := Lib.hid h
  have HG := Lib.hid hg
  clear h hg
  go_enter Try.func20, Try.ntmps20
  go_wp2_with (first | (go_at_call 52; ((with_reducible refine (made_any HH.out).mono ?_); rintro e w' ⟨rfl, rfl⟩)) | (go_at_call 53; ((with_reducible refine (worker_any _ _).mono ?_); rintro e w' ⟨rfl, rfl⟩)) | (go_at_call 54; ((with_reducible refine (time_any _ _).mono ?_); rintro e w' ⟨rfl, rfl⟩)))
  go_loopw [12, 4] (fun u v wr => LeaveRel b g len l ns w u v wr) (fun u v _ => ((ns.length : Int) - intOf u).toNat)
  case atStart => exact ⟨0, by omega, rfl, rfl, HH.out, Only.refl _ _⟩
  case round =>
    obtain ⟨k, hk33, rfl, rfl, hP, ho⟩ := hrel
    have HP := Lib.hid hP
    have HO := Lib.hid ho
    by_cases hk : k < ns.length
    · have hG : wr.cell? ⟨g, k, none⟩ = some (.int .i64 ns[k]) := by rw [(HG.out.only ho hgb).cell, ints_get _ hk]
      have hcl : leaveC l (ns.take k) ≤ k := by have := leaveC_le (ns.take k) l; simpa [Nat.min_eq_left hk33] using this
      generalize hcd : leaveC l (ns.take k) = c at *
      generalize hld : leaveL l (ns.take k) = l1 at *
      generalize hnd : ns[k] = n at *
      have hn := hP.n
      cases how : okW n with
      | false =>
        have hno := leave_no (l := l1) (n := n) (by simp [how])
        clear hP ho
        go_wp2_with (first | (go_at_call 52; ((with_reducible refine (made_any HP.out).mono ?_); rintro e w' ⟨rfl, rfl⟩)) | (go_at_call 53; ((with_reducible refine (worker_any _ _).mono ?_); rintro e w' ⟨rfl, rfl⟩)) | (go_at_call 54; ((with_reducible refine (time_any _ _).mono ?_); rintro e w' ⟨rfl, rfl⟩)))
        go_roundw
        case rel => exact leave_rel hk (by rw [hld, hnd]; exact hno.1) (by rw [hld, hnd, hcd, hno.2]; rfl) HP.out HO.out
        case measure => simp [intOf]; omega
      | true =>
        obtain ⟨j, rfl, hj, _⟩ := okW_nat how
        have hs := (sat_k hn hj).symm
        cases ha : (sat l1 j).alive with
        | false =>
          have hno := leave_no (l := l1) (n := j) (by simp [ha])
          generalize sat l1 j = s at hs ha
          have c3 : wr.cell? ⟨b, 1 + j * 5 + 3, none⟩ = some (.bool false) := by rw [hP.cell hj 3 (by omega), hs, ← ha]; rfl
          clear hP ho ha
          go_wp2_with (first | (go_at_call 52; ((with_reducible refine (made_any HP.out).mono ?_); rintro e w' ⟨rfl, rfl⟩)) | (go_at_call 53; ((with_reducible refine (worker_any _ _).mono ?_); rintro e w' ⟨rfl, rfl⟩)) | (go_at_call 54; ((with_reducible refine (time_any _ _).mono ?_); rintro e w' ⟨rfl, rfl⟩)))
          go_roundw
          case rel => exact leave_rel hk (by rw [hld, hnd]; exact hno.1) (by rw [hld, hnd, hcd, hno.2]; rfl) HP.out HO.out
          case measure => simp [intOf]; omega
        | true =>
          have hno := leave_yes (l := l1) (n := j) (by simp [how, ha])
          have HO1 := Lib.hid (off_PL hP hj _ hs)
          have c3 : wr.cell? ⟨b, 1 + j * 5 + 3, none⟩ = some (.bool true) := by rw [hP.cell hj 3 (by omega), hs, ← ha]; rfl
          have hf : ∀ o, wr.frozen? ⟨b, o, none⟩ = false := hP.frozen
          clear hP ho ha
          go_wp2_with (first | (go_at_call 52; ((with_reducible refine (made_any HP.out).mono ?_); rintro e w' ⟨rfl, rfl⟩)) | (go_at_call 53; ((with_reducible refine (worker_any _ _).mono ?_); rintro e w' ⟨rfl, rfl⟩)) | (go_at_call 54; ((with_reducible refine (time_any _ _).mono ?_); rintro e w' ⟨rfl, rfl⟩)))
          go_roundw
          case rel => exact leave_rel (c := c + 1) hk (by rw [hld, hnd]; exact hno.1) (by rw [hld, hnd, hcd, hno.2]) HO1.out HO.out.set1
          case measure => simp [intOf]; omega
    · have : k = ns.length := by omega
      subst this
      clear hP ho
      rw [List.take_length] at HP
      go_wp2
      go_ret
      exact ⟨by simp, HP.out, HO.out⟩
end Go.Proofs.Ytppkfpphefonoaa
