import Derived.Test.YtgdgonmhgpflcaaRpcI

/- The walk of a caller's Stop. No condition but that the caller is one, not beyond any bound. -/
namespace Go.Proofs.Ytgdgonmhgpflcaa
open Go.RowKit Go.Maps Wire Rp
set_option linter.unusedVariables false
set_option linter.unusedSimpArgs false
namespace Rp
theorem stopS_snoc : ∀ (xs : List Int) (s : St) (x : Int), stopS s (xs ++ [x]) = ((stopS s xs).1 + (stop1 (stopS s xs).2 x).1, (stop1 (stopS s xs).2 x).2) := by
  intro xs
  induction xs with
  | nil => intro s x; simp [stopS]
  | cons a xs ih => intro s x; simp only [List.cons_append, stopS, ih]; refine Prod.ext ?_ rfl; dsimp only; omega
theorem stop1_nn (s : St) (x : Int) : 0 ≤ (stop1 s x).1 ∧ (stop1 s x).1 ≤ 1 := by
  unfold stop1
  split
  · show (0 : Int) ≤ 1 ∧ (1 : Int) ≤ 1; decide
  · show (0 : Int) ≤ 0 ∧ (0 : Int) ≤ 1; decide
theorem stopS_len : ∀ (xs : List Int) (s : St), 0 ≤ (stopS s xs).1 ∧ (stopS s xs).1 ≤ xs.length := by
  intro xs
  induction xs with
  | nil => intro s; simp [stopS]
  | cons a xs ih => intro s; have := ih (stop1 s a).2; have := stop1_nn s a; simp only [stopS, List.length_cons]; omega
end Rp
/-- A row of numbers that a call is handed. -/
def RowU (w : World) (p : Option Addr) (xs : List Int) : Prop := xs = [] ∨ ∃ g T, p = some ⟨g, 0, none⟩ ∧ Blk w g T (xs.map (Value.int .u64)).toArray
theorem hasS_t {s : St} {x : Int} (h : hasS s x = true) : ∃ c ∈ s.L, c.seq = x := by
  unfold hasS at h; obtain ⟨c, hc, e⟩ := List.any_eq_true.1 h; exact ⟨c, hc, by simpa using e⟩
theorem hasS_f {B : Int → Nat} {s : St} {x : Int} (h : hasS s x = false) : ¬ ∃ a ∈ keysC B s.L, a.1 = x := fun hh => by
  obtain ⟨c, hc, e⟩ := keys_has.1 hh
  unfold hasS at h; rw [List.any_eq_false] at h; exact h c hc (by simpa using e)
section
variable {w w' w1 : World} {B0 bd bo b h N : Nat} {B : Int → Nat} {s : St} {vd vo : Value}
set_option maxRecDepth 100000 in
theorem stop_nil (p : Option Addr) (n c : Nat) (w : World) : Calls Try.prog 39 #[.pointer none, .slice p n c] w fun e w' => e = .returned (.int .i64 0) ∧ w' = w := by
  go_enter Try.func39, Try.ntmps39
  go_wp2_with (go_at_call 64; ((with_reducible refine (made_nil _).mono ?_); rintro e w' ⟨rfl, rfl⟩))
  go_ret
  exact ⟨rfl, rfl⟩
def StopP (w : World) (B0 bd bo b h : Nat) (B : Int → Nat) (vd vo : Value) (N : Nat) (r : Int × St) (e : Ending) (w' : World) : Prop :=
  e = .returned (.int .i64 r.1) ∧ CW w' B0 bd bo b h B r.2 vd vo N ∧ Only (· = h) w w'
def StR (w : World) (B0 bd bo b h : Nat) (B : Int → Nat) (s : St) (vd vo : Value) (N : Nat) (xs : List Int) (v u : Value) (wr : World) : Prop :=
  ∃ i : Nat, i ≤ xs.length ∧ u = .int .i64 i ∧ v = .int .i64 (stopS s (xs.take i)).1 ∧ CW wr B0 bd bo b h B (stopS s (xs.take i)).2 vd vo N ∧ Only (· = h) w wr
set_option maxRecDepth 100000 in
set_option maxHeartbeats 2000000 in
theorem stop_any (c : CW w B0 bd bo b h B s vd vo N) {p : Option Addr} {n cap : Nat} {xs : List Int} (hp : RowU w p xs) (hl : xs.length = n) (hm : n ≤ 1000000) (hu : ∀ x ∈ xs, U64 x) :
    Calls Try.prog 39 #[.pointer (some ⟨b, 0, none⟩), .slice p n cap] w (StopP w B0 bd bo b h B vd vo N (stopS s xs)) := by
  subst hl
  have HC := Lib.hid c
  have HP := Lib.hid hp
  have HM := Lib.hid (And.intro hm hu)
  have HMD := Lib.hid (made_any c)
  have HPH : Hid (∀ g T A, Blk w g T A → ¬ g = h) := Lib.hid (fun g T A hA e => at_ne c.mp hA e.symm)
  clear c hp hm hu
  go_enter Try.func39, Try.ntmps39
  go_wp2_with (go_at_call 64; ((with_reducible refine HMD.out.mono ?_); rintro e w9 ⟨rfl, hw9⟩; have hw9 := hw9.symm; subst hw9))
  go_loopw [4, 12] (fun v u wr => StR w B0 bd bo b h B s vd vo N xs v u wr) (fun _ u _ => ((xs.length : Int) - intOf u).toNat)
  case atStart => exact ⟨0, Nat.zero_le _, rfl, rfl, HC.out, Only.refl _ _⟩
  case round =>
    obtain ⟨i, hi, rfl, rfl, hcw, hon⟩ := hrel
    have HCW := Lib.hid hcw
    have HON := Lib.hid hon
    by_cases hil : i < xs.length
    · have hil' : (i : Int) < (xs.length : Int) := by omega
      have hi0 : (0 : Int) ≤ (i : Int) := by omega
      obtain ⟨g, T, rfl, hg⟩ : ∃ g T, p = some ⟨g, 0, none⟩ ∧ Blk w g T (xs.map (Value.int .u64)).toArray := by
        rcases HP.out with h0 | h1
        · rw [h0] at hil; exact absurd hil (Nat.not_lt_zero _)
        · exact h1
      have x0 : wr.cell? ⟨g, i, none⟩ = some (.int .u64 xs[i]) := by
        rw [(hg.only hon (HPH.out _ _ _ hg)).cell i]; simp [hil]
      have hux : U64 xs[i] := HM.out.2 _ (List.getElem_mem _)
      have HST : Hid (stopS s (xs.take (i + 1)) = ((stopS s (xs.take i)).1 + (stop1 (stopS s (xs.take i)).2 xs[i]).1, (stop1 (stopS s (xs.take i)).2 xs[i]).2)) := Lib.hid (by rw [List.take_succ_eq_append_getElem hil, stopS_snoc])
      have HIM := Lib.hid hil
      have HUX := Lib.hid hux
      have HE : Hid (wrap64 ((i : Int) + 1) = ((i + 1 : Nat) : Int)) := Lib.hid (Sou.w64n rfl (by have := HM.out.1; omega))
      have HCN : Hid (0 ≤ (stopS s (xs.take i)).1 ∧ (stopS s (xs.take i)).1 ≤ i) := Lib.hid (by have := stopS_len (xs.take i) s; rw [List.length_take] at this; omega)
      clear hcw hon hg hi hux
      generalize xs[i] = x at *
      clear hil
      generalize stopS s (xs.take i) = S at *
      obtain ⟨cn, sc⟩ := S
      dsimp only at HST HCW HCN ⊢
      have c5 := HCW.out.c5
      cases hh : hasS sc x with
      | false =>
        have HS1 : Hid (stop1 sc x = (0, sc)) := Lib.hid (by unfold stop1; rw [hh]; rfl)
        have hlk := mp_miss HCW.out.mp (hasS_f (B := B) hh) HUX.out
        clear hh
        go_wp2_with fail
        have HZ : Hid (StR w B0 bd bo b h B s vd vo N xs (.int .i64 cn) (.int .i64 ((i + 1 : Nat) : Int)) wr) := Lib.hid ⟨i + 1, HIM.out, rfl, by rw [HST.out, HS1.out]; simp, by rw [HST.out, HS1.out]; exact HCW.out, HON.out⟩
        go_roundw
        case rel => first | exact HZ.out | (rw [HE.out]; exact HZ.out)
        case measure => have := HIM.out; first | (simp [intOf]; omega) | (rw [HE.out]; simp [intOf]; omega)
      | true =>
        have HS1 : Hid (stop1 sc x = (1, { sc with L := sc.L.filter (fun c => !(c.seq == x)) })) := Lib.hid (by unfold stop1; rw [hh]; rfl)
        obtain ⟨y, hy, hyx⟩ := hasS_t hh
        have hlk := mp_hit HCW.out.mp (keys_mem hy) (by show U64 y.seq; rw [hyx]; exact HUX.out)
        dsimp only at hlk
        rw [hyx] at hlk
        obtain ⟨D, o, hdel⟩ := HCW.out.del x
        have HO := Lib.hid o
        have HD := Lib.hid hdel
        have HKEY := Lib.hid (keyR HUX.out)
        have HE2 : Hid (wrap64 (cn + 1) = cn + 1) := Lib.hid (by have := HCN.out; have := HIM.out; have := HM.out.1; unfold wrap64; omega)
        clear hh hy hyx o hdel
        generalize B x = q at *
        go_wp2_with (at_delete; refine wpList_delete_own _ rfl _ _ 140 22 rfl 141 kdR Try.underlying140 _ h N D rfl HO.out _ (KR x) rfl HKEY.out ?_; intro w5 o5 t5; have H5 := Lib.hid (HD.out w5 o5 t5); clear o5 t5 c5 hlk x0)
        have HZ : Hid (StR w B0 bd bo b h B s vd vo N xs (.int .i64 (cn + 1)) (.int .i64 ((i + 1 : Nat) : Int)) w5) := Lib.hid ⟨i + 1, HIM.out, rfl, by rw [HST.out, HS1.out], by rw [HST.out, HS1.out]; exact H5.out.1, HON.out.trans H5.out.2.2⟩
        go_roundw
        case rel => first | exact HZ.out | (rw [HE.out]; exact HZ.out) | (rw [HE2.out]; exact HZ.out) | (rw [HE.out, HE2.out]; exact HZ.out)
        case measure => have := HIM.out; first | (simp [intOf]; omega) | (rw [HE.out]; simp [intOf]; omega)
    · obtain rfl : i = xs.length := by omega
      have hil' : ¬ ((xs.length : Nat) : Int) < (xs.length : Int) := by omega
      rw [List.take_length] at *
      clear hcw hon hi hil
      go_wp2_with fail
      go_ret
      exact ⟨rfl, HCW.out, HON.out⟩
end
end Go.Proofs.Ytgdgonmhgpflcaa
