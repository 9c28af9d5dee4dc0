
/- Two scans of a row of uint64, upward and downward: what they keep. No condition. -/
import Derived.Test.YtfjadphgjjlhiaaSoI
import Derived.Sort.LotC
namespace Go.Proofs.Ytfjadphgjjlhiaa
theorem Sou.w64 {x : Int} (h0 : -1000000000 ≤ x) (h1 : x ≤ 1000000000) : Go.RowKit.wrap64 x = x := by unfold Go.RowKit.wrap64; omega
theorem Sou.w64n {x : Int} {k : Nat} (h : x = k) (hk : k ≤ 1000000000) : Go.RowKit.wrap64 x = (k : Int) := by subst h; exact Sou.w64 (by omega) (by omega)
open Go.RowKit Sou
set_option linter.unusedVariables false
namespace Sou
open Go.Sort in
theorem scanUp_go' (p : Int → Bool) (d : Array Int) (j i : Nat) (h : i ≤ j) (hp : p d[i]! = true) : scanUp p d j i = scanUp p d j (i + 1) := by
  rw [scanUp, if_pos (by simp [h, hp])]
open Go.Sort in
theorem scanUp_end' (p : Int → Bool) (d : Array Int) (j i : Nat) (h : ¬ i ≤ j ∨ p d[i]! = false) : scanUp p d j i = i := by
  rw [scanUp, if_neg (by rcases h with h | h <;> simp [h])]
open Go.Sort in
theorem scanDown_go' (p : Int → Bool) (d : Array Int) (i j : Nat) (h : i ≤ j) (h0 : 1 ≤ j) (hp : p d[j]! = true) : scanDown p d i j = scanDown p d i (j - 1) := by
  obtain ⟨k, rfl⟩ : ∃ k, j = k + 1 := ⟨j - 1, by omega⟩
  rw [scanDown, if_pos (by simp [h, hp])]; rfl
open Go.Sort in
theorem scanDown_end' (p : Int → Bool) (d : Array Int) (i j : Nat) (h : ¬ i ≤ j ∨ p d[j]! = false) : scanDown p d i j = j := by
  cases j with
  | zero => rfl
  | succ k => rw [scanDown, if_neg (by rcases h with h | h <;> simp [h])]
def ScU (w : World) (g : Nat) (d : Array Int) (tl : List Value) (p : Int → Bool) (i0 j0 R : Nat) (u : Value) (wr : World) : Prop := ∃ i : Nat, u = .int .i64 i ∧ i0 ≤ i ∧ i ≤ j0 + 1 ∧ Go.Sort.scanUp p d j0 i = R ∧ UW w g d tl wr
def ScUE (w : World) (g : Nat) (d : Array Int) (tl : List Value) (p : Int → Bool) (i0 j0 R : Nat) (u : Value) (wr : World) : Prop := u = .int .i64 R ∧ i0 ≤ R ∧ R ≤ j0 + 1 ∧ (R ≤ j0 → p d[R]! = false) ∧ UW w g d tl wr
theorem ScUE.of {w : World} {g : Nat} {d : Array Int} {tl : List Value} {p : Int → Bool} {i0 j0 R i : Nat} (h1 : i0 ≤ i) (h2 : i ≤ j0 + 1) (h3 : Go.Sort.scanUp p d j0 i = R) (h : ¬ i ≤ j0 ∨ p d[i]! = false) (wz : World) (hU : UW w g d tl wz) : ScUE w g d tl p i0 j0 R (.int .i64 i) wz := by
  have e : i = R := (scanUp_end' p d j0 i h).symm.trans h3
  subst e
  exact ⟨rfl, h1, h2, fun hl => h.resolve_left (fun k => k hl), hU⟩
def ScD (w : World) (g : Nat) (d : Array Int) (tl : List Value) (q : Int → Bool) (i j0 R : Nat) (u : Value) (wr : World) : Prop := ∃ j : Nat, u = .int .i64 j ∧ j ≤ j0 ∧ i ≤ j + 1 ∧ Go.Sort.scanDown q d i j = R ∧ UW w g d tl wr
def ScDE (w : World) (g : Nat) (d : Array Int) (tl : List Value) (q : Int → Bool) (i j0 R : Nat) (u : Value) (wr : World) : Prop := u = .int .i64 R ∧ R ≤ j0 ∧ i ≤ R + 1 ∧ (i ≤ R → q d[R]! = false) ∧ UW w g d tl wr
theorem ScDE.of {w : World} {g : Nat} {d : Array Int} {tl : List Value} {q : Int → Bool} {i j0 R j : Nat} (h1 : j ≤ j0) (h2 : i ≤ j + 1) (h3 : Go.Sort.scanDown q d i j = R) (h : ¬ i ≤ j ∨ q d[j]! = false) (wz : World) (hU : UW w g d tl wz) : ScDE w g d tl q i j0 R (.int .i64 j) wz := by
  have e : j = R := (scanDown_end' q d i j h).symm.trans h3
  subst e
  exact ⟨rfl, h1, h2, fun hl => h.resolve_left (fun k => k hl), hU⟩
theorem part_split (d : Array Int) (a b pivot i j : Nat) (dk : Array Int) (hdk : dk = Go.Sort.swp d a pivot) (hi : i = Go.Sort.scanUp (fun x => Go.Sort.ltInt x dk[a]!) dk (b - 1) (a + 1)) (hj : j = Go.Sort.scanDown (fun x => !Go.Sort.ltInt x dk[a]!) dk i (b - 1)) :
    (j < i → Go.Sort.partition Go.Sort.ltInt d a b pivot = (j, true, Go.Sort.swp dk j a)) ∧
    (¬ j < i → Go.Sort.partition Go.Sort.ltInt d a b pivot = ((Go.Sort.partLoop Go.Sort.ltInt a (i + 1) (j - 1) (Go.Sort.swp dk i j)).1, false, Go.Sort.swp (Go.Sort.partLoop Go.Sort.ltInt a (i + 1) (j - 1) (Go.Sort.swp dk i j)).2 (Go.Sort.partLoop Go.Sort.ltInt a (i + 1) (j - 1) (Go.Sort.swp dk i j)).1 a)) := by
  subst hdk hi hj
  unfold Go.Sort.partition
  constructor
  · intro h; simp only [gt_iff_lt]; rw [if_pos h]
  · intro h; simp only [gt_iff_lt]; rw [if_neg h]
theorem loop_split (d : Array Int) (a i j i2 j2 : Nat) (hi : i2 = Go.Sort.scanUp (fun x => Go.Sort.ltInt x d[a]!) d j i) (hj : j2 = Go.Sort.scanDown (fun x => !Go.Sort.ltInt x d[a]!) d i2 j) :
    (j2 < i2 → Go.Sort.partLoop Go.Sort.ltInt a i j d = (j2, d)) ∧ (¬ j2 < i2 → Go.Sort.partLoop Go.Sort.ltInt a i j d = Go.Sort.partLoop Go.Sort.ltInt a (i2 + 1) (j2 - 1) (Go.Sort.swp d i2 j2)) := by
  subst hi hj
  constructor
  · intro h; rw [Go.Sort.partLoop_eq, if_pos h]
  · intro h; rw [Go.Sort.partLoop_eq, if_neg h]
theorem eq_split (d : Array Int) (a i j i2 j2 : Nat) (hi : i2 = Go.Sort.scanUp (fun x => !Go.Sort.ltInt d[a]! x) d j i) (hj : j2 = Go.Sort.scanDown (fun x => Go.Sort.ltInt d[a]! x) d i2 j) :
    (j2 < i2 → Go.Sort.partEqLoop Go.Sort.ltInt a i j d = (i2, d)) ∧ (¬ j2 < i2 → Go.Sort.partEqLoop Go.Sort.ltInt a i j d = Go.Sort.partEqLoop Go.Sort.ltInt a (i2 + 1) (j2 - 1) (Go.Sort.swp d i2 j2)) := by
  subst hi hj
  constructor
  · intro h; rw [Go.Sort.partEqLoop_eq, if_pos h]
  · intro h; rw [Go.Sort.partEqLoop_eq, if_neg h]
def PaR (w : World) (g a b n : Nat) (R : Nat × Array Int) (tl : List Value) (u v : Value) (wr : World) : Prop := ∃ (i j : Nat) (d : Array Int), u = .int .i64 i ∧ v = .int .i64 j ∧ a < i ∧ i ≤ j + 1 ∧ j < b ∧ d.size = n ∧ Go.Sort.partLoop Go.Sort.ltInt a i j d = R ∧ UW w g d tl wr
def PaE (w : World) (g a b n : Nat) (R : Nat × Array Int) (tl : List Value) (v : Value) (wr : World) : Prop := v = .int .i64 R.1 ∧ a ≤ R.1 ∧ R.1 < b ∧ R.2.size = n ∧ UW w g R.2 tl wr
def EqR (w : World) (g a b n : Nat) (R : Nat × Array Int) (tl : List Value) (u v : Value) (wr : World) : Prop := ∃ (i j : Nat) (d : Array Int), u = .int .i64 i ∧ v = .int .i64 j ∧ a < i ∧ i ≤ j + 1 ∧ j < b ∧ d.size = n ∧ Go.Sort.partEqLoop Go.Sort.ltInt a i j d = R ∧ UW w g d tl wr
end Sou
end Go.Proofs.Ytfjadphgjjlhiaa
