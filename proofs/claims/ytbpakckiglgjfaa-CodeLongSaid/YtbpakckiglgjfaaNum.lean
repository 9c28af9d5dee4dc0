
/- Numbers as bytes, in plain terms: what is written, what is read, and that each is the other's. No condition. -/
import Derived.RowKit
namespace Go.Proofs.Ytbpakckiglgjfaa
namespace Num

def lebF : Nat → Nat → List UInt8
  | 0, x => [UInt8.ofNat x]
  | n + 1, x => if x < 128 then [UInt8.ofNat x] else UInt8.ofNat (x % 128 + 128) :: lebF n (x / 128)
/-- The bytes of a number. -/
def leb (x : Nat) : List UInt8 := lebF x x
theorem lebF_fuel (n : Nat) : ∀ m x, x ≤ n → x ≤ m → lebF n x = lebF m x := by
  induction n with
  | zero => intro m x h1 h2; have : x = 0 := by omega
            subst this; cases m <;> simp [lebF]
  | succ n ih =>
    intro m x h1 h2
    cases m with
    | zero => have : x = 0 := by omega
              subst this; simp [lebF]
    | succ m =>
      simp only [lebF]
      split
      · rfl
      · rw [ih m (x / 128) (by omega) (by omega)]
theorem leb_lt (x : Nat) (h : x < 128) : leb x = [UInt8.ofNat x] := by
  unfold leb; cases x with
  | zero => rfl
  | succ n => simp only [lebF]; rw [if_pos h]
theorem leb_ge (x : Nat) (h : 128 ≤ x) : leb x = UInt8.ofNat (x % 128 + 128) :: leb (x / 128) := by
  unfold leb; cases x with
  | zero => omega
  | succ n => simp only [lebF]; rw [if_neg (by omega), lebF_fuel n ((n+1)/128) _ (by omega) (by omega)]
theorem leb_pos (x : Nat) : 1 ≤ (leb x).length := by
  by_cases h : x < 128
  · rw [leb_lt x h]; simp
  · rw [leb_ge x (by omega)]; simp
/-- As text. -/
def lebS (x : Int) : ByteArray := ⟨(leb x.toNat).toArray⟩

/-- The number that bytes stand for, the least seven bits first. -/
def val : List UInt8 → Nat
  | [] => 0
  | b :: r => b.toNat % 128 + 128 * val r
theorem ofNat_toNat (n : Nat) (h : n < 256) : (UInt8.ofNat n).toNat = n := by
  simp [UInt8.toNat_ofNat']; omega

/-- How many bytes at the front go on. -/
def ups : List UInt8 → Nat
  | [] => 0
  | b :: r => if 128 ≤ b.toNat then ups r + 1 else 0
theorem ups_le (l : List UInt8) : ups l ≤ l.length := by
  induction l with
  | nil => simp [ups]
  | cons b r ih => simp only [ups]; split <;> simp <;> omega
/-- What is read at the front: the number, how many bytes, why there is none (0, 10 short, 8 form). -/
def rd (l : List UInt8) : Nat × Nat × Nat :=
  let k := ups l
  if k < 10 ∧ k = l.length then (0, 0, 10)
  else if 10 ≤ k then (0, 0, 8)
  else
    let last := ((l[k]?).getD 0).toNat
    if last = 0 ∧ 1 ≤ k then (0, 0, 8)
    else if k = 9 ∧ 1 < last then (0, 0, 8)
    else (val (l.take (k + 1)), k + 1, 0)

def zig (x : Int) : Int := if 0 ≤ x then 2 * x else -2 * x - 1
def zag (u : Int) : Int := if u % 2 = 0 then u / 2 else - (u / 2) - 1
theorem zag_zig (x : Int) : zag (zig x) = x := by unfold zag zig; split <;> split <;> omega
theorem zig_zag (u : Int) (h : 0 ≤ u) : zig (zag u) = u := by unfold zag zig; split <;> split <;> omega
theorem zig_range (x : Int) (h1 : -9223372036854775808 ≤ x) (h2 : x ≤ 9223372036854775807) : 0 ≤ zig x ∧ zig x ≤ 18446744073709551615 := by unfold zig; split <;> omega
theorem zag_range (u : Int) (h1 : 0 ≤ u) (h2 : u ≤ 18446744073709551615) : -9223372036854775808 ≤ zag u ∧ zag u ≤ 9223372036854775807 := by unfold zag; split <;> omega

theorem val_leb (n : Nat) : ∀ x, x ≤ n → val (leb x) = x := by
  induction n with
  | zero => intro x h; have : x = 0 := by omega
            subst this; rfl
  | succ n ih =>
    intro x h
    by_cases hx : x < 128
    · rw [leb_lt x hx]; simp only [val]; rw [ofNat_toNat _ (by omega)]; omega
    · rw [leb_ge x (by omega)]; simp only [val]; rw [ofNat_toNat _ (by omega), ih (x / 128) (by omega)]; omega
theorem val_leb' (x : Nat) : val (leb x) = x := val_leb x x (Nat.le_refl _)
theorem leb_inj {x y : Nat} (h : leb x = leb y) : x = y := by rw [← val_leb' x, h, val_leb']
/-- The form of a number's bytes: all but the last go on; the last is not 0, unless it is the only one. -/
theorem leb_form (n : Nat) : ∀ x, x ≤ n → ∀ s, ups (leb x ++ s) + 1 = (leb x).length ∧ (∃ c, (leb x)[ups (leb x ++ s)]? = some c ∧ (c.toNat = 0 → x = 0) ∧ c.toNat < 128) := by
  induction n with
  | zero => intro x h s; have : x = 0 := by omega
            subst this; rw [leb_lt 0 (by omega)]; simp [ups]
  | succ n ih =>
    intro x h s
    by_cases hx : x < 128
    · rw [leb_lt x hx]
      have hu : ups ([UInt8.ofNat x] ++ s) = 0 := by
        simp only [List.cons_append, List.nil_append, ups]; rw [ofNat_toNat _ (by omega), if_neg (by omega)]
      rw [hu]
      refine ⟨rfl, _, rfl, ?_⟩
      rw [ofNat_toNat _ (by omega)]; omega
    · rw [leb_ge x (by omega)]
      obtain ⟨h1, c, h2, h3, h4⟩ := ih (x / 128) (by omega) s
      have hu : ups (UInt8.ofNat (x % 128 + 128) :: leb (x / 128) ++ s) = ups (leb (x / 128) ++ s) + 1 := by
        simp only [List.cons_append, ups]; rw [ofNat_toNat _ (by omega), if_pos (by omega)]
      rw [hu]
      refine ⟨by simp; omega, c, by simpa using h2, fun h => ?_, h4⟩
      have := h3 h; omega
/-- A number below 2^(7k) has at most k bytes, and one that is not has more. -/
theorem leb_len (k : Nat) : ∀ x, x < 128 ^ (k + 1) → (leb x).length ≤ k + 1 := by
  induction k with
  | zero => intro x h; rw [leb_lt x (by simpa using h)]; simp
  | succ k ih =>
    intro x h
    by_cases hx : x < 128
    · rw [leb_lt x hx]; simp
    · rw [leb_ge x (by omega)]
      have := ih (x / 128) (by rw [Nat.pow_succ] at h; omega)
      simp; omega
theorem leb_len10 (x : Nat) (h : x < 18446744073709551616) : (leb x).length ≤ 10 :=
  leb_len 9 x (by have : (128 : Nat) ^ (9 + 1) = 1180591620717411303424 := by decide
                  omega)
theorem leb_mono (n : Nat) : ∀ x y, y ≤ n → x ≤ y → (leb x).length ≤ (leb y).length := by
  induction n with
  | zero => intro x y h1 h2; have : x = y := by omega
            rw [this]; exact Nat.le_refl _
  | succ n ih =>
    intro x y h1 h2
    by_cases hx : x < 128
    · rw [leb_lt x hx]; exact leb_pos y
    · rw [leb_ge x (by omega), leb_ge y (by omega)]
      have := ih (x / 128) (y / 128) (by omega) (by omega)
      simp; omega
theorem take_append_self {α : Type} (l s : List α) : (l ++ s).take l.length = l := by simp
theorem last_small (k : Nat) : ∀ x, (leb x).length = k + 1 → x < 18446744073709551616 → ∀ c, (leb x)[k]? = some c → k = 9 → c.toNat ≤ 1 := by
  intro x h hx c hc hk
  subst hk
  have key : ∀ k x, (leb x).length = k + 1 → ∀ c, (leb x)[k]? = some c → c.toNat = x / 128 ^ k := by
    intro k
    induction k with
    | zero =>
      intro x h c hc
      by_cases h' : x < 128
      · rw [leb_lt x h'] at hc; simp at hc; rw [← hc, ofNat_toNat _ (by omega)]; simp
      · rw [leb_ge x (by omega)] at h; have := leb_pos (x / 128); simp only [List.length_cons] at h; omega
    | succ k ih =>
      intro x h c hc
      by_cases h' : x < 128
      · rw [leb_lt x h'] at h; simp at h
      · rw [leb_ge x (by omega)] at h hc
        rw [ih (x / 128) (by simpa using h) c (by simpa using hc), Nat.div_div_eq_div_mul, Nat.pow_succ, Nat.mul_comm]
  have := key 9 x h c hc
  have h2 : (128 : Nat) ^ 9 = 9223372036854775808 := by decide
  rw [h2] at this
  omega
/-- What was written is read as itself, whatever stands behind. -/
theorem rd_leb (x : Nat) (hx : x < 18446744073709551616) (s : List UInt8) : rd (leb x ++ s) = (x, (leb x).length, 0) := by
  obtain ⟨h1, c, h2, h3, h4⟩ := leb_form x x (Nat.le_refl _) s
  have h10 := leb_len10 x hx
  have hp := leb_pos x
  generalize hk : ups (leb x ++ s) = k at h1 h2
  have hg : ((leb x ++ s)[k]?).getD 0 = c := by rw [List.getElem?_append_left (by omega), h2]; rfl
  unfold rd
  simp only [hk, hg]
  rw [if_neg (by simp; omega), if_neg (by omega), if_neg ?_, if_neg ?_]
  · rw [h1, take_append_self, val_leb']
  · rintro ⟨h9, hc⟩
    have := last_small k x h1.symm hx c h2 h9
    omega
  · rintro ⟨h9, hc⟩
    have h0 := h3 h9
    subst h0
    rw [leb_lt 0 (by omega)] at h1
    simp at h1; omega
/-- What is cut off is short. -/
theorem ups_take (n : Nat) : ∀ x, x ≤ n → ∀ i, i < (leb x).length → ups ((leb x).take i) = i := by
  induction n with
  | zero => intro x h i hi; have : x = 0 := by omega
            subst this; rw [leb_lt 0 (by omega)] at hi ⊢; have : i = 0 := by simpa using hi
            subst this; rfl
  | succ n ih =>
    intro x h i hi
    by_cases hx : x < 128
    · rw [leb_lt x hx] at hi ⊢; have : i = 0 := by simpa using hi
      subst this; rfl
    · rw [leb_ge x (by omega)] at hi ⊢
      cases i with
      | zero => rfl
      | succ i =>
        simp only [List.take_succ_cons, ups]
        rw [ofNat_toNat _ (by omega), if_pos (by omega), ih (x / 128) (by omega) i (by simpa using hi)]
theorem rd_short (x : Nat) (hx : x < 18446744073709551616) (i : Nat) (hi : i < (leb x).length) : rd ((leb x).take i) = (0, 0, 10) := by
  have h := ups_take x x (Nat.le_refl _) i hi
  have h10 := leb_len10 x hx
  unfold rd
  simp only [h]
  rw [if_pos]
  simp; omega
/-- Bytes that go on, then one that does not and is not 0 (or stands alone) are a number's own. -/
theorem leb_val (l : List UInt8) : ∀ k, ups l = k → k < l.length → (((l[k]?).getD 0).toNat = 0 → k = 0) → leb (val (l.take (k + 1))) = l.take (k + 1) := by
  induction l with
  | nil => intro k _ h; simp at h
  | cons b r ih =>
    intro k hu hl h0
    simp only [ups] at hu
    split at hu
    · rename_i hb
      subst hu
      have hlr : ups r < r.length := by simpa using hl
      have h0' : ((r[ups r]?).getD 0).toNat = 0 → ups r = 0 := fun h => by have := h0 (by simpa using h); omega
      have hi := ih (ups r) rfl hlr h0'
      have hpos : 1 ≤ val (r.take (ups r + 1)) := by
        rcases Nat.eq_zero_or_pos (val (r.take (ups r + 1))) with hz | hz
        · exfalso
          rw [hz, leb_lt 0 (by omega)] at hi
          have hlen : (r.take (ups r + 1)).length = 1 := by rw [← hi]; rfl
          have hz2 : ups r = 0 := by simp at hlen; omega
          rw [hz2] at hi hlr
          have : (r[0]?).getD 0 = 0 := by
            cases r with
            | nil => simp at hlr
            | cons c r => simp at hi; simp [← hi]
          have := h0 (by simp [hz2, this])
          omega
        · exact hz
      rw [List.take_succ_cons]
      simp only [val]
      have hbl := b.toNat_lt
      rw [leb_ge _ (by omega)]
      have e1 : (b.toNat % 128 + 128 * val (r.take (ups r + 1))) / 128 = val (r.take (ups r + 1)) := by omega
      have e2 : (b.toNat % 128 + 128 * val (r.take (ups r + 1))) % 128 + 128 = b.toNat := by omega
      rw [e1, e2, hi]
      simp
    · subst hu
      rename_i hb
      simp only [Nat.zero_add, List.take_succ_cons, List.take_zero, val]
      rw [leb_lt _ (by omega)]
      have e : b.toNat % 128 + 128 * 0 = b.toNat := by omega
      rw [e]; simp
theorem val_lt (l : List UInt8) : val l < 128 ^ l.length := by
  induction l with
  | nil => simp [val]
  | cons b r ih => simp only [val, List.length_cons, Nat.pow_succ]; omega
theorem val_take_succ (l : List UInt8) : ∀ k, k < l.length → val (l.take (k + 1)) = val (l.take k) + 128 ^ k * (((l[k]?).getD 0).toNat % 128) := by
  induction l with
  | nil => intro k h; simp at h
  | cons b r ih =>
    intro k h
    cases k with
    | zero => simp [val]
    | succ k =>
      have := ih k (by simpa using h)
      simp only [List.take_succ_cons, val, this, List.getElem?_cons_succ, Nat.pow_succ, Nat.mul_add]
      rw [show 128 ^ k * 128 * ((r[k]?.getD 0).toNat % 128) = 128 * (128 ^ k * ((r[k]?.getD 0).toNat % 128)) from by rw [Nat.mul_comm (128 ^ k) 128, Nat.mul_assoc]]
      omega
/-- Bytes that are read are the number's own. -/
theorem rd_ok {l : List UInt8} {x n : Nat} (h : rd l = (x, n, 0)) : n ≤ l.length ∧ leb x = l.take n ∧ x < 18446744073709551616 ∧ 1 ≤ n := by
  have hu := ups_le l
  unfold rd at h
  simp only at h
  split at h
  · simp at h
  · rename_i h1
    split at h
    · simp at h
    · rename_i h2
      split at h
      · simp at h
      · rename_i h3
        split at h
        · simp at h
        · rename_i h4
          simp only [Prod.mk.injEq, and_true] at h
          obtain ⟨rfl, rfl⟩ := h
          have hlt : ups l < l.length := by omega
          refine ⟨by omega, leb_val l _ rfl hlt (fun h => by omega), ?_, by omega⟩
          rw [val_take_succ l _ hlt]
          have hv := val_lt (l.take (ups l))
          rw [List.length_take, Nat.min_eq_left (by omega)] at hv
          by_cases h9 : ups l = 9
          · rw [h9] at hv h4 ⊢
            have e : (128 : Nat) ^ 9 = 9223372036854775808 := by decide
            rw [e] at hv ⊢
            have : ((l[9]?).getD 0).toNat % 128 ≤ 1 := by omega
            omega
          · have e : (128 : Nat) ^ 9 = 9223372036854775808 := by decide
            have : 128 ^ ups l * 128 ≤ 128 ^ 9 := by rw [← Nat.pow_succ]; exact Nat.pow_le_pow_right (by omega) (by omega)
            have h5 : ((l[ups l]?).getD 0).toNat % 128 ≤ 127 := by omega
            have h6 := Nat.mul_le_mul_left (128 ^ ups l) h5
            omega
theorem rd_err {l : List UInt8} : (rd l).2.2 = 0 ∨ ((rd l).1 = 0 ∧ (rd l).2.1 = 0) := by
  unfold rd; simp only; repeat' split
  all_goals simp
/-- The number of bytes, reckoned of the bits. -/
theorem leb_bits (k : Nat) : ∀ x, 128 ^ k ≤ x → k + 1 ≤ (leb x).length := by
  induction k with
  | zero => intro x _; exact leb_pos x
  | succ k ih =>
    intro x h
    have h128 : 128 ≤ x := Nat.le_trans (by rw [Nat.pow_succ]; exact Nat.le_mul_of_pos_left _ (Nat.pow_pos (by decide))) h
    rw [leb_ge x h128]
    have := ih (x / 128) (by rw [Nat.pow_succ] at h; omega)
    simp; omega
/-! What the program's reader finds at its loop's head: 'Up l k': the first k bytes go on. -/
def Up (l : List UInt8) (k : Nat) : Prop := k ≤ ups l
theorem up_zero (l : List UInt8) : Up l 0 := Nat.zero_le _
theorem ups_of (l : List UInt8) : ∀ k, Up l k → ∀ h : k < l.length, ups l = if 128 ≤ (l[k]).toNat then ups l else k := by
  induction l with
  | nil => intro k _ h; simp at h
  | cons b r ih =>
    intro k hk h
    cases k with
    | zero => simp only [List.getElem_cons_zero, ups]; split <;> rfl
    | succ k =>
      simp only [Up, ups] at hk
      split at hk
      · rename_i hb
        simp only [ups, if_pos hb, List.getElem_cons_succ]
        have := ih k (by simp only [Up]; omega) (by simpa using h)
        split <;> rename_i h2
        · rfl
        · rw [if_neg h2] at this; omega
      · omega
theorem up_succ {l : List UInt8} {k : Nat} (hk : Up l k) (h : k < l.length) (hb : 128 ≤ (l[k]).toNat) : Up l (k + 1) := by
  induction l generalizing k with
  | nil => simp at h
  | cons b r ih =>
    cases k with
    | zero => simp only [List.getElem_cons_zero] at hb; simp only [Up, ups, if_pos hb]; omega
    | succ k =>
      simp only [Up, ups] at hk ⊢
      split at hk
      · rename_i hb2
        rw [if_pos hb2]
        have := ih (k := k) (by simp only [Up]; omega) (by simpa using h) (by simpa using hb)
        simp only [Up] at this; omega
      · omega
theorem ups_at {l : List UInt8} {k : Nat} (hk : Up l k) (h : k < l.length) (hb : (l[k]).toNat < 128) : ups l = k := by
  rw [ups_of l k hk h, if_neg (by omega)]
theorem ups_end {l : List UInt8} {k : Nat} (hk : Up l k) (h : k = l.length) : ups l = k := by
  have := ups_le l; simp only [Up] at hk; omega
theorem rd_end {l : List UInt8} {k : Nat} (hk : Up l k) (h : k = l.length) (h10 : k < 10) : rd l = (0, 0, 10) := by
  have := ups_end hk h
  simp only [rd, this]; rw [if_pos ⟨h10, h⟩]
theorem rd_far {l : List UInt8} {k : Nat} (hk : Up l k) (h10 : 10 ≤ k) : rd l = (0, 0, 8) := by
  simp only [Up] at hk
  simp only [rd]; rw [if_neg (by omega), if_pos (by omega)]
theorem rd_at {l : List UInt8} {k : Nat} (hk : Up l k) (h : k < l.length) (h10 : k < 10) (hb : (l[k]).toNat < 128) :
    rd l = if (l[k]).toNat = 0 ∧ 1 ≤ k then (0, 0, 8) else if k = 9 ∧ 1 < (l[k]).toNat then (0, 0, 8) else (val (l.take (k + 1)), k + 1, 0) := by
  have hu := ups_at hk h hb
  have hg : (l[k]?).getD 0 = l[k] := by simp [h]
  simp only [rd, hu, hg]
  rw [if_neg (by omega), if_neg (by omega)]
theorem val_step {l : List UInt8} {k : Nat} (h : k < l.length) : val (l.take (k + 1)) = val (l.take k) + 128 ^ k * ((l[k]).toNat % 128) := by
  rw [val_take_succ l k h]; simp [h]
theorem val_take_lt (l : List UInt8) (k : Nat) : val (l.take k) < 128 ^ k := by
  have h := val_lt (l.take k)
  refine Nat.lt_of_lt_of_le h (Nat.pow_le_pow_right (by omega) (by simp; omega))
/-- The document's reader: the bytes' number, going round, has these bytes just where the bytes are in form. -/
theorem rd_ref {l : List UInt8} {k : Nat} (hk : Up l k) (h : k < l.length) (h10 : k < 10) (hb : (l[k]).toNat < 128) :
    (leb (val (l.take (k + 1)) % 18446744073709551616) = l.take (k + 1) → rd l = (val (l.take (k + 1)) % 18446744073709551616, k + 1, 0)) ∧
    (leb (val (l.take (k + 1)) % 18446744073709551616) ≠ l.take (k + 1) → rd l = (0, 0, 8)) := by
  have hr := rd_at hk h h10 hb
  constructor
  · intro e
    have h2 := rd_leb (val (l.take (k + 1)) % 18446744073709551616) (by omega) (l.drop (k + 1))
    rw [e, List.take_append_drop] at h2
    rw [h2]; simp; omega
  · intro e
    rw [hr]
    split
    · rfl
    · split
      · rfl
      · rename_i h1 h2
        exfalso
        have h3 : rd l = (val (l.take (k + 1)), k + 1, 0) := by rw [hr, if_neg h1, if_neg h2]
        obtain ⟨_, h5, h6, _⟩ := rd_ok h3
        rw [Nat.mod_eq_of_lt h6] at e
        exact e h5
theorem val_drop {l : List UInt8} {i : Nat} (h : i < l.length) : val (l.drop i) = (l[i]).toNat % 128 + 128 * val (l.drop (i + 1)) := by
  rw [List.drop_eq_getElem_cons h]; rfl
end Num
end Go.Proofs.Ytbpakckiglgjfaa
