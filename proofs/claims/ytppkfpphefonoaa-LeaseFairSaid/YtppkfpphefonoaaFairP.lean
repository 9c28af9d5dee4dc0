/- Leases, and what a law keeps of them in three maps: plain laws, with no program in sight. No condition. -/
import Derived.Test.YtppkfpphefonoaaLeaseQ
import Derived.Maps.OwnSet
import Derived.Maps.RangeWalk
namespace Go.Proofs.Ytppkfpphefonoaa
open Lea Go.Maps
set_option linter.unusedVariables false
namespace Lea
abbrev DU := DataW Unit
def KI (x : Int) : Lit := .int .i64 x
def vT (x : Int) : DU := .lit (.int .i64 x)
def vU (x : Int) : DU := .lit (.int .u64 x)
theorem ki_ne {x y : Int} (h : x ≠ y) : KI x ≠ KI y := fun e => h (by unfold KI at e; injection e)
theorem ki_key (x : Int) : WideAt.IsKeyLit (KI x) := by unfold KI; trivial
/-- Is n alive? -/
def onQ (l : List Seat) (n : Int) : Bool := okW n && (sat l n).alive
def aliveN (l : List Seat) : Nat := l.countP Seat.alive
/-- What the three maps hold of the leases l: up to when who is alive holds; who was seen; as which he is alive. -/
structure LFair (l : List Seat) (MH MS MI : DU) : Prop where
  n : l.length = 33
  own : OwnNo l
  tH : Tidy MH
  mS : IsMap MS
  mI : IsMap MI
  hHas : ∀ x, has MH (KI x) = onQ l x
  hAt : ∀ x z, onQ l x = true → MH.atKey (KI x) z = vT (sat l x).til
  hSz : size MH = aliveN l
  sAt : ∀ x, okW x = true → MS.atKey (KI x) (vU 0) = vU (sat l x).seen
  iAt : ∀ x, onQ l x = true → MI.atKey (KI x) (vU 0) = vU (sat l x).inc
theorem lfair_zero : LFair zeros (.map []) (.map []) (.map []) := by
  have hz : ∀ x, sat zeros x = zeroS := fun x => by
    unfold sat zeros
    rw [List.getD_eq_getElem?_getD, List.getElem?_replicate]
    split <;> rfl
  refine ⟨by simp [zeros], ?_, tidy_empty, isMap_empty, isMap_empty, fun x => ?_, fun x z h => ?_, ?_, fun x _ => ?_, fun x h => ?_⟩
  · intro k s hs ha
    unfold zeros at hs
    rw [List.getElem?_replicate] at hs
    split at hs
    · cases hs; cases ha
    · cases hs
  · unfold onQ; rw [hz]; simp [has, zeroS]
  · unfold onQ at h; rw [hz] at h; simp [zeroS] at h
  · rfl
  · rw [hz]; rfl
  · unfold onQ at h; rw [hz] at h; simp [zeroS] at h
theorem sat_set {l : List Seat} (hn : l.length = 33) {n x : Int} (h : okW n = true) (hx : okW x = true) (s : Seat) : sat (l.set n.toNat s) x = if x = n then s else sat l x := by
  have h1 := okW_t h
  have h2 := okW_t hx
  unfold sat
  rw [List.getD_eq_getElem?_getD, List.getElem?_set]
  by_cases e : x = n
  · subst e; rw [if_pos rfl, if_pos rfl, if_pos (by omega)]; rfl
  · rw [if_neg (by omega), if_neg e]; rw [List.getD_eq_getElem?_getD]
theorem onQ_set {l : List Seat} (hn : l.length = 33) {n : Int} (h : okW n = true) (s : Seat) (x : Int) : onQ (l.set n.toNat s) x = if x = n then s.alive else onQ l x := by
  by_cases hx : okW x = true
  · unfold onQ
    rw [hx, sat_set hn h hx]
    by_cases e : x = n <;> simp [e]
  · have hx' : okW x = false := by simpa using hx
    have hne : x ≠ n := fun e => hx (e ▸ h)
    unfold onQ
    rw [hx', if_neg hne]; rfl
theorem aliveN_set {l : List Seat} (hn : l.length = 33) {n : Int} (h : okW n = true) (s : Seat) : aliveN (l.set n.toNat s) + (if onQ l n = true then 1 else 0) = aliveN l + (if s.alive = true then 1 else 0) := by
  have h1 := okW_t h
  have hlt : n.toNat < l.length := by omega
  have e : onQ l n = (l[n.toNat]'hlt).alive := by
    unfold onQ sat
    rw [h, List.getD_eq_getElem?_getD, List.getElem?_eq_getElem hlt]; simp
  rw [e]
  unfold aliveN
  rw [List.countP_set hlt]
  have h2 : (if (l[n.toNat]'hlt).alive = true then 1 else 0) ≤ l.countP Seat.alive := by
    split
    · rename_i ha
      exact List.countP_pos_iff.2 ⟨_, List.getElem_mem hlt, ha⟩
    · omega
  omega
theorem own_at {l : List Seat} (h : OwnNo l) (hn : l.length = 33) {n : Int} (hq : onQ l n = true) : (sat l n).w = n := by
  unfold onQ at hq
  simp only [Bool.and_eq_true] at hq
  have h1 := okW_t hq.1
  have hlt : n.toNat < l.length := by omega
  have := (h n.toNat (sat l n) (by unfold sat; rw [List.getD_eq_getElem?_getD, List.getElem?_eq_getElem hlt]; rfl) hq.2).1
  omega
theorem own_set {l : List Seat} (h : OwnNo l) {n : Int} (hw : okW n = true) (s : Seat) (hs : s.alive = true → s.w = n) : OwnNo (l.set n.toNat s) := by
  have h1 := okW_t hw
  exact h.set n.toNat s fun ha => ⟨by have := hs ha; omega, by omega⟩
theorem lfair_put {l : List Seat} {MH MS MI : DU} (F : LFair l MH MS MI) {n : Int} (hw : okW n = true) (s : Seat) (ha : s.alive = true) (hsw : s.w = n) {MS' MI' : DU} (mS : IsMap MS') (mI : IsMap MI')
    (hS : ∀ x, okW x = true → MS'.atKey (KI x) (vU 0) = if x = n then vU s.seen else MS.atKey (KI x) (vU 0)) (hI : ∀ x, MI'.atKey (KI x) (vU 0) = if x = n then vU s.inc else MI.atKey (KI x) (vU 0)) :
    LFair (l.set n.toNat s) (MH.put (KI n) (vT s.til)) MS' MI' := by
  have hq := onQ_set F.n hw s
  refine ⟨by simpa using F.n, own_set F.own hw s (fun _ => hsw), F.tH.put (ki_key n) _, mS, mI, fun x => ?_, fun x z h => ?_, ?_, fun x hx => ?_, fun x h => ?_⟩
  · rw [hq]
    by_cases e : x = n
    · subst e; rw [if_pos rfl, has_put_same F.tH.isMap (ki_key x), ha]
    · rw [if_neg e, has_put_other (ki_ne e), F.hHas]
  · by_cases e : x = n
    · subst e
      rw [atKey_put_same F.tH.isMap (ki_key x), sat_set F.n hw hw, if_pos rfl]
    · rw [hq, if_neg e] at h
      have hx : okW x = true := by unfold onQ at h; simp only [Bool.and_eq_true] at h; exact h.1
      rw [atKey_put_other (ki_ne e), F.hAt x z h, sat_set F.n hw hx, if_neg e]
  · rw [size_put F.tH, F.hHas, F.hSz]
    have := aliveN_set F.n hw s
    rw [ha] at this
    split <;> simp_all <;> omega
  · rw [hS x hx, sat_set F.n hw hx]
    by_cases e : x = n
    · rw [if_pos e, if_pos e]
    · rw [if_neg e, if_neg e, F.sAt x hx]
  · rw [hI x]
    have hx : okW x = true := by unfold onQ at h; simp only [Bool.and_eq_true] at h; exact h.1
    rw [sat_set F.n hw hx]
    by_cases e : x = n
    · rw [if_pos e, if_pos e]
    · rw [hq, if_neg e] at h
      rw [if_neg e, if_neg e, F.iAt x h]
theorem lfair_join {l : List Seat} {MH MS MI : DU} (F : LFair l MH MS MI) {n : Int} (hw : okW n = true) (inc til : Int) :
    LFair (l.set n.toNat ⟨n, inc, til, true, inc⟩) (MH.put (KI n) (vT til)) (MS.put (KI n) (vU inc)) (MI.put (KI n) (vU inc)) :=
  lfair_put F hw ⟨n, inc, til, true, inc⟩ rfl rfl (F.mS.put _ _) (F.mI.put _ _)
    (fun x _ => by
      by_cases e : x = n
      · subst e; rw [if_pos rfl, atKey_put_same F.mS (ki_key x)]
      · rw [if_neg e, atKey_put_other (ki_ne e)])
    (fun x => by
      by_cases e : x = n
      · subst e; rw [if_pos rfl, atKey_put_same F.mI (ki_key x)]
      · rw [if_neg e, atKey_put_other (ki_ne e)])
theorem lfair_beat {l : List Seat} {MH MS MI : DU} (F : LFair l MH MS MI) {n : Int} (hq : onQ l n = true) (til : Int) :
    LFair (l.set n.toNat { sat l n with til := til }) (MH.put (KI n) (vT til)) MS MI := by
  have hq' := hq
  unfold onQ at hq'
  simp only [Bool.and_eq_true] at hq'
  refine lfair_put F hq'.1 { sat l n with til := til } hq'.2 (own_at F.own F.n hq) F.mS F.mI (fun x hx => ?_) (fun x => ?_)
  · by_cases e : x = n
    · subst e; rw [if_pos rfl, F.sAt x hx]
    · rw [if_neg e]
  · by_cases e : x = n
    · subst e; rw [if_pos rfl, F.iAt x hq]
    · rw [if_neg e]
theorem lfair_off {l : List Seat} {MH MS MI : DU} (F : LFair l MH MS MI) (n : Int) : LFair (leave1 l n) (MH.del (KI n)) MS MI := by
  by_cases hq : onQ l n = true
  · have hq' := hq
    unfold onQ at hq'
    have e1 := (leave_yes hq').1
    simp only [Bool.and_eq_true] at hq'
    have hw := hq'.1
    rw [e1]
    have hs := onQ_set F.n hw { sat l n with alive := false }
    refine ⟨by simpa using F.n, own_set F.own hw _ (fun h => by simp at h), F.tH.del _, F.mS, F.mI, fun x => ?_, fun x z h => ?_, ?_, fun x hx => ?_, fun x h => ?_⟩
    · rw [hs]
      by_cases e : x = n
      · subst e; rw [if_pos rfl, has_del_same]
      · rw [if_neg e, has_del_other (ki_ne e), F.hHas]
    · rw [hs] at h
      by_cases e : x = n
      · rw [if_pos e] at h; cases h
      · rw [if_neg e] at h
        have hx : okW x = true := by unfold onQ at h; simp only [Bool.and_eq_true] at h; exact h.1
        rw [atKey_del_other (ki_ne e), F.hAt x z h, sat_set F.n hw hx, if_neg e]
    · have h1 := size_del (k := KI n) F.tH
      rw [F.hHas, F.hSz, hq] at h1
      have h2 := aliveN_set F.n hw { sat l n with alive := false }
      rw [hq] at h2
      simp only [if_true, Bool.false_eq_true, if_false, Nat.add_zero] at h1 h2
      dsimp only at h2 ⊢
      omega
    · rw [sat_set F.n hw hx]
      by_cases e : x = n
      · subst e; rw [if_pos rfl, F.sAt x hx]
      · rw [if_neg e, F.sAt x hx]
    · rw [hs] at h
      by_cases e : x = n
      · rw [if_pos e] at h; cases h
      · rw [if_neg e] at h
        have hx : okW x = true := by unfold onQ at h; simp only [Bool.and_eq_true] at h; exact h.1
        rw [F.iAt x h, sat_set F.n hw hx, if_neg e]
  · have hq2 : onQ l n = false := by simpa using hq
    have e1 := (leave_no (l := l) (n := n) hq2).1
    rw [e1, del_of_not_has (by rw [F.hHas]; exact hq2)]
    exact F
/-! ### Those that a time takes, one after the other -/
def offL (l : List Seat) (xs : List Nat) : List Seat := xs.foldl (fun l (n : Nat) => leave1 l n) l
theorem offL_snoc (l : List Seat) (xs : List Nat) (n : Nat) : offL l (xs ++ [n]) = leave1 (offL l xs) n := by simp [offL, List.foldl_append]
theorem exp_off {l : List Seat} (hn : l.length = 33) (ho : OwnNo l) (now : Int) : ∀ i, i ≤ 33 → offL l (expI l now i) = expL l now i := by
  intro i
  induction i with
  | zero => intro _; rw [expL_zero]; rfl
  | succ i ih =>
    intro hi
    have h0 := ih (by omega)
    have hs := sat_k hn (k := i) (by omega)
    rw [expI_succ]
    by_cases hd : dueS now (sat l i) = true
    · rw [if_pos hd, offL_snoc, h0, expL_yes (by omega) (by rw [← hs]; exact hd)]
      have hal : (sat l i).alive = true := by unfold dueS at hd; simp only [Bool.and_eq_true] at hd; exact hd.1
      have hw := ho i (sat l i) (by rw [List.getElem?_eq_getElem (by omega), hs]) hal
      have hok : okW (i : Int) = true := by unfold okW; simp; omega
      have hsat : sat (expL l now i) i = sat l i := by
        rw [sat_k (by rw [expL_len]; exact hn) (by omega), expL_at l now i (by omega), hs]
      rw [(leave_yes (l := expL l now i) (n := i) (by rw [hsat, hok, hal]; rfl)).1, hsat, ← hs]
      simp
    · have hd' : dueS now (sat l i) = false := by simpa using hd
      rw [if_neg hd, h0, expL_no (by omega) (by rw [← hs]; exact hd')]
end Lea
end Go.Proofs.Ytppkfpphefonoaa
