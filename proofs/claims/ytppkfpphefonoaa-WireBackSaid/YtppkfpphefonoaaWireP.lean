/- Texts' bytes tell the texts: plain laws, with no program in sight. No condition. -/
import Derived.Test.YtppkfpphefonoaaWireL
namespace Go.Proofs.Ytppkfpphefonoaa
open Wire
set_option linter.unusedVariables false
namespace Wire
/-- A text's bytes. -/
def textL (l : List UInt8) : List UInt8 := Num.leb l.length ++ l
theorem leb_head {a b : Nat} {s t : List UInt8} (ha : a < 18446744073709551616) (hb : b < 18446744073709551616) (h : Num.leb a ++ s = Num.leb b ++ t) : a = b ∧ s = t := by
  have h1 := Num.rd_leb a ha s
  have h2 := Num.rd_leb b hb t
  rw [h] at h1
  rw [h1] at h2
  have e : a = b := by simpa using congrArg Prod.fst h2
  subst e
  exact ⟨rfl, List.append_cancel_left h⟩
theorem textL_cancel {x y s t : List UInt8} (hx : x.length < 18446744073709551616) (hy : y.length < 18446744073709551616) (h : textL x ++ s = textL y ++ t) : x = y ∧ s = t := by
  unfold textL at h
  rw [List.append_assoc, List.append_assoc] at h
  obtain ⟨h1, h2⟩ := leb_head hx hy h
  exact List.append_inj h2 h1
theorem textL_ne (x : List UInt8) : textL x ≠ [] := by
  intro h
  have := Num.leb_pos x.length
  have h2 := congrArg List.length h
  unfold textL at h2
  simp at h2
  rw [h2.1] at this
  simp at this
/-- The bytes of some texts are the first ones of others' just where the texts are. -/
theorem texts_prefix : ∀ (a b : List (List UInt8)) (r : List UInt8), (∀ x ∈ a, x.length < 18446744073709551616) → (∀ x ∈ b, x.length < 18446744073709551616) → a.flatMap textL ++ r = b.flatMap textL → a <+: b
  | [], b, r, _, _, _ => List.nil_prefix
  | x :: a, [], r, _, _, h => by
    exfalso
    have := textL_ne x
    simp at h
    exact this h.1
  | x :: a, y :: b, r, ha, hb, h => by
    rw [List.flatMap_cons, List.flatMap_cons, List.append_assoc] at h
    obtain ⟨h1, h2⟩ := textL_cancel (ha x List.mem_cons_self) (hb y List.mem_cons_self) h
    subst h1
    obtain ⟨c, hc⟩ := texts_prefix a b r (fun z hz => ha z (List.mem_cons_of_mem _ hz)) (fun z hz => hb z (List.mem_cons_of_mem _ hz)) h2
    exact ⟨c, by rw [← hc]; rfl⟩
theorem texts_inj (a b : List (List UInt8)) (ha : ∀ x ∈ a, x.length < 18446744073709551616) (hb : ∀ x ∈ b, x.length < 18446744073709551616) (h : a.flatMap textL = b.flatMap textL) : a = b := by
  have h1 := texts_prefix a b [] ha hb (by simpa using h)
  have h2 := texts_prefix b a [] hb ha (by simpa using h.symm)
  exact h1.eq_of_length_le h2.length_le
/-- The first n texts. -/
def lst (x : Nat → ByteArray) (n : Nat) : List (List UInt8) := (List.range n).map fun i => (x i).data.toList
theorem cat_lst (x : Nat → ByteArray) (n : Nat) : cat (fun i => textS (x i)) n = (lst x n).flatMap textL := by
  unfold cat lst
  rw [List.flatMap_map]
  congr 1
theorem lst_len (x : Nat → ByteArray) (n : Nat) : (lst x n).length = n := by simp [lst]
theorem lst_mem {x : Nat → ByteArray} {n : Nat} (h : ∀ i, i < n → (x i).size ≤ 4096) : ∀ l ∈ lst x n, l.length < 18446744073709551616 := by
  intro l hl
  obtain ⟨i, hi, rfl⟩ := List.mem_map.1 hl
  have := h i (List.mem_range.1 hi)
  have e : (x i).data.toList.length = (x i).size := by simp
  omega
theorem ba_inj {s t : ByteArray} (h : s.data.toList = t.data.toList) : s = t := by
  cases s; cases t; congr; exact Array.toList_inj.1 h
/-- How far two rows of texts go together, told by their bytes. -/
theorem lst_prefix {x y : Nat → ByteArray} {n m k : Nat} (hk : k ≤ n) (hm : k ≤ m) (he : ∀ i, i < k → x i = y i) (hd : (k < n ∧ k < m → x k ≠ y k)) : (lst x n <+: lst y m) ↔ k = n := by
  constructor
  · intro h
    have hl := h.length_le
    rw [lst_len, lst_len] at hl
    by_cases hkn : k < n
    · exfalso
      have hd' := hd ⟨hkn, by omega⟩
      have h1 := h.getElem (i := k) (by rw [lst_len]; exact hkn)
      simp only [lst, List.getElem_map, List.getElem_range] at h1
      exact hd' (ba_inj h1)
    · omega
  · intro h
    subst h
    rw [List.prefix_iff_eq_take]
    apply List.ext_getElem
    · simp [lst]; omega
    · intro i h1 h2
      rw [lst_len] at h1
      simp only [lst, List.getElem_take, List.getElem_map, List.getElem_range]
      rw [he i h1]
theorem flat_prefix {a b : List (List UInt8)} (h : a <+: b) : a.flatMap textL <+: b.flatMap textL := by
  obtain ⟨c, rfl⟩ := h
  exact ⟨c.flatMap textL, by rw [List.flatMap_append]⟩
theorem cat_list (g : Nat → ByteArray) (n : Nat) : (catS g n).data.toList = cat g n := rfl
/-- What the law asks of the bytes. -/
theorem apart_facts {x y : Nat → ByteArray} {n m k : Nat} (hk : k ≤ n) (hm : k ≤ m) (he : ∀ i, i < k → x i = y i) (hd : k < n ∧ k < m → x k ≠ y k) (hx : ∀ i, i < n → (x i).size ≤ 4096) (hy : ∀ i, i < m → (y i).size ≤ 4096) :
    (catS (fun i => textS (x i)) n = catS (fun i => textS (y i)) m ↔ (n = m ∧ k = n)) ∧ ((catS (fun i => textS (x i)) n).data.toList <+: (catS (fun i => textS (y i)) m).data.toList ↔ k = n) := by
  have h1 := lst_prefix hk hm he hd
  have key : (catS (fun i => textS (x i)) n).data.toList <+: (catS (fun i => textS (y i)) m).data.toList ↔ k = n := by
    rw [cat_list, cat_list, cat_lst, cat_lst]
    constructor
    · rintro ⟨r, hr⟩
      exact h1.1 (texts_prefix _ _ r (lst_mem hx) (lst_mem hy) hr)
    · intro e; exact flat_prefix (h1.2 e)
  refine ⟨⟨fun h => ?_, fun h => ?_⟩, key⟩
  · have hkn := key.1 (by rw [h]; exact List.prefix_refl _)
    refine ⟨?_, hkn⟩
    have h2 := texts_inj (lst x n) (lst y m) (lst_mem hx) (lst_mem hy) (by rw [← cat_lst, ← cat_lst, ← cat_list, ← cat_list, h])
    have := congrArg List.length h2
    rw [lst_len, lst_len] at this; exact this
  · obtain ⟨h2, h3⟩ := h
    subst h2; subst h3
    apply ba_inj
    rw [cat_list, cat_list, cat_lst, cat_lst]
    congr 1
    unfold lst
    exact List.map_congr_left fun i hi => by rw [he i (List.mem_range.1 hi)]
theorem ext_prefix {s t : ByteArray} (h : s.size ≤ t.size) : (t.extract 0 s.size = s) ↔ s.data.toList <+: t.data.toList := by
  have e : (t.extract 0 s.size).data.toList = t.data.toList.take s.size := by simp
  constructor
  · intro h1
    have : (t.extract 0 s.size).data.toList = s.data.toList := by rw [h1]
    rw [e] at this
    rw [← this]
    exact List.take_prefix _ _
  · intro h1
    apply ba_inj
    rw [e]
    have h2 := List.prefix_iff_eq_take.1 h1
    have h3 : s.data.toList.length = s.size := by simp
    rw [h3] at h2
    exact h2.symm
end Wire
end Go.Proofs.Ytppkfpphefonoaa
