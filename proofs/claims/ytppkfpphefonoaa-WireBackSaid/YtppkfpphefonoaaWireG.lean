/- What was written is read as itself; what is cut off is short: plain laws, with no program in sight. No condition. -/
import Derived.Test.YtppkfpphefonoaaWireT
namespace Go.Proofs.Ytppkfpphefonoaa
open Wire
set_option linter.unusedVariables false
namespace Wire
/-- A reader of the first c bytes of L that has come to the place pos: it holds what is left, or it is short. -/
def St (L : List UInt8) (c pos : Nat) (s : ByteArray) (e : Int) : Prop := (e = 0 ∧ pos ≤ c ∧ s.data.toList = (L.take c).drop pos) ∨ (e = 10 ∧ c < pos)
theorem toL (s : ByteArray) : s.data.toList.length = s.size := by simp
theorem tl_list (s : ByteArray) (n : Nat) : (tl s n).data.toList = s.data.toList.drop n := by
  unfold tl
  have : (s.extract n s.size).data.toList = (s.data.toList.take (n + (s.size - n))).drop n := by simp [List.take_drop]
  rw [this, List.take_of_length_le (by rw [toL]; omega)]
theorem take_drop_app {L bs T : List UInt8} {c pos : Nat} (hd : L.drop pos = bs ++ T) (hp : pos ≤ c) : (L.take c).drop pos = (bs ++ T).take (c - pos) := by
  rw [← hd, List.drop_take]
theorem rdS_ok {s : ByteArray} {x : Nat} {R : List UInt8} (hx : x < 18446744073709551616) (h : s.data.toList = Num.leb x ++ R) : rdS s = (x, (Num.leb x).length, 0) := by
  unfold rdS; rw [h]; exact Num.rd_leb x hx R
theorem rdS_cut {s : ByteArray} {x i : Nat} (hx : x < 18446744073709551616) (hi : i < (Num.leb x).length) (h : s.data.toList = (Num.leb x).take i) : rdS s = (0, 0, 10) := by
  unfold rdS; rw [h]; exact Num.rd_short x hx i hi
theorem st_num {L T : List UInt8} {c pos x : Nat} {s : ByteArray} {e : Int} (h : St L c pos s e) (hx : x < 18446744073709551616) (hd : L.drop pos = Num.leb x ++ T) :
    St L c (pos + (Num.leb x).length) (numS s e 0) (numE s e 0) ∧ (L.length ≤ c → numV s e 0 = (x : Int)) := by
  have hL : pos + (Num.leb x).length ≤ L.length := by
    have h1 := congrArg List.length hd
    have h2 := Num.leb_pos x
    rw [List.length_drop, List.length_append] at h1
    omega
  rcases h with ⟨rfl, hp, hs⟩ | ⟨rfl, hp⟩
  · rw [take_drop_app hd hp] at hs
    by_cases hc : (Num.leb x).length ≤ c - pos
    · rw [List.take_append, List.take_of_length_le hc] at hs
      have hr := rdS_ok hx hs
      have h0 : (rdS s).2.2 = 0 := by rw [hr]
      have h1 : numS s 0 0 = tl s (Num.leb x).length := by unfold numS; rw [if_pos ⟨rfl, h0, rfl⟩, hr]
      have h2 : numE s 0 0 = 0 := by unfold numE; rw [if_pos rfl, if_pos h0]
      have h3 : numV s 0 0 = (x : Int) := by unfold numV; rw [if_pos ⟨rfl, h0, rfl⟩, hr]
      refine ⟨.inl ⟨h2, by omega, ?_⟩, fun _ => h3⟩
      rw [h1, tl_list, hs, List.drop_append, List.drop_eq_nil_of_le (Nat.le_refl _)]
      simp only [List.nil_append, Nat.sub_self, List.drop_zero]
      rw [take_drop_app (bs := []) (T := T) (by
        rw [← List.drop_drop, hd, List.drop_append, List.drop_eq_nil_of_le (Nat.le_refl _)]; simp) (by omega)]
      simp only [List.nil_append]
      congr 1
      omega
    · rw [List.take_append_of_le_length (by omega)] at hs
      have hr := rdS_cut hx (by omega) hs
      have h0 : ¬ (rdS s).2.2 = 0 := by rw [hr]; decide
      have h2 : numE s 0 0 = 10 := by unfold numE; rw [if_pos rfl, if_neg h0, hr]; rfl
      exact ⟨.inr ⟨h2, by omega⟩, fun hh => by omega⟩
  · have h2 : numE s 10 0 = 10 := by unfold numE; rw [if_neg (by decide)]
    exact ⟨.inr ⟨h2, by omega⟩, fun hh => by omega⟩
theorem st_text {L T : List UInt8} {c pos : Nat} {t s : ByteArray} {e : Int} (h : St L c pos s e) (ht : t.size ≤ 1024) (hd : L.drop pos = textL t.data.toList ++ T) :
    St L c (pos + (textL t.data.toList).length) (txS s e t.size) (txE s e t.size) ∧ (L.length ≤ c → txV s e t.size = t) := by
  have hlen : (textL t.data.toList).length = (Num.leb t.size).length + t.size := by unfold textL; rw [List.length_append, toL]
  have hL : pos + (textL t.data.toList).length ≤ L.length := by
    have h1 := congrArg List.length hd
    have h2 := Num.leb_pos t.size
    rw [List.length_drop, List.length_append] at h1
    omega
  have hx : t.size < 18446744073709551616 := by omega
  rcases h with ⟨rfl, hp, hs⟩ | ⟨rfl, hp⟩
  · rw [take_drop_app hd hp] at hs
    unfold textL at hs
    rw [toL, List.append_assoc] at hs
    by_cases hc : (Num.leb t.size).length ≤ c - pos
    · rw [List.take_append, List.take_of_length_le hc] at hs
      have hr := rdS_ok hx hs
      have h0 : (rdS s).2.2 = 0 := by rw [hr]
      have hsz : s.size = (Num.leb t.size).length + min (c - pos - (Num.leb t.size).length) (t.size + T.length) := by
        have := congrArg List.length hs
        rw [toL, List.length_append, List.length_take, List.length_append, toL] at this
        exact this
      have hxI : xI s = t.size := by unfold xI; rw [hr]
      have hnI : nI s = ((Num.leb t.size).length : Nat) := by unfold nI; rw [hr]
      have h1 : ∀ c', c' = 0 → numS s 0 c' = tl s (Num.leb t.size).length := fun c' e' => by subst e'; unfold numS; rw [if_pos ⟨rfl, h0, rfl⟩, hr]
      have h3 : ∀ c', c' = 0 → numV s 0 c' = (t.size : Int) := fun c' e' => by subst e'; unfold numV; rw [if_pos ⟨rfl, h0, rfl⟩, hr]
      have h2 : ∀ c', numE s 0 c' = c' := fun c' => by unfold numE; rw [if_pos rfl, if_pos h0]
      by_cases hfull : (textL t.data.toList).length ≤ c - pos
      · have hC : cC s t.size = 0 := by
          unfold cC cntC
          rw [hxI, hnI, if_neg (by omega), if_neg (by omega)]
        have e1 := h1 _ hC
        have e2 := h2 (cC s t.size)
        have e3 := h3 _ hC
        have hdr : (tl s (Num.leb t.size).length).data.toList = t.data.toList ++ T.take (c - pos - (Num.leb t.size).length - t.size) := by
          rw [tl_list, hs, List.drop_append, List.drop_eq_nil_of_le (Nat.le_refl _)]
          simp only [List.nil_append, Nat.sub_self, List.drop_zero]
          rw [List.take_append, List.take_of_length_le (by rw [toL]; omega), toL]
        refine ⟨.inl ⟨by unfold txE; rw [e2, hC], by omega, ?_⟩, fun _ => ?_⟩
        · unfold txS
          rw [if_pos (by rw [e2, hC]), e1, e3, tl_list, Int.toNat_natCast, hdr, List.drop_append, List.drop_eq_nil_of_le (by rw [toL]; exact Nat.le_refl _), toL]
          simp only [List.nil_append, Nat.sub_self, List.drop_zero]
          rw [take_drop_app (bs := []) (T := T) (by
            rw [← List.drop_drop, hd, List.drop_append, List.drop_eq_nil_of_le (Nat.le_refl _)]; simp) (by omega)]
          simp only [List.nil_append]
          congr 1
          omega
        · apply ba_inj
          unfold txV
          rw [e1, e3, Int.toNat_natCast]
          have : ((tl s (Num.leb t.size).length).extract 0 t.size).data.toList = (tl s (Num.leb t.size).length).data.toList.take t.size := by simp
          rw [this, hdr, List.take_append_of_le_length (by rw [toL]; exact Nat.le_refl _), List.take_of_length_le (by rw [toL]; exact Nat.le_refl _)]
      · have hC : cC s t.size = 10 := by
          unfold cC cntC
          rw [hxI, hnI, if_neg (by omega), if_pos (by omega)]
        exact ⟨.inr ⟨by unfold txE; rw [h2, hC], by omega⟩, fun hh => by omega⟩
    · rw [List.take_append_of_le_length (by omega)] at hs
      have hr := rdS_cut hx (by omega) hs
      have h0 : ¬ (rdS s).2.2 = 0 := by rw [hr]; decide
      have h2 : txE s 0 t.size = 10 := by unfold txE numE; rw [if_pos rfl, if_neg h0, hr]; rfl
      exact ⟨.inr ⟨h2, by omega⟩, fun hh => by omega⟩
  · have h2 : txE s 10 t.size = 10 := by unfold txE numE; rw [if_neg (by decide)]
    exact ⟨.inr ⟨h2, by omega⟩, fun hh => by omega⟩
theorem st_full {L : List UInt8} {c pos : Nat} {s : ByteArray} {e : Int} (h : St L c pos s e) (hp : pos = L.length) (hc : L.length ≤ c) : e = 0 ∧ endE s e = 0 := by
  rcases h with ⟨rfl, _, hs⟩ | ⟨rfl, h2⟩
  · refine ⟨rfl, ?_⟩
    have h3 := congrArg List.length hs
    rw [toL, List.length_drop, List.length_take] at h3
    unfold endE
    rw [if_neg]
    rintro ⟨_, h4⟩
    omega
  · omega
theorem st_cut {L : List UInt8} {c pos : Nat} {s : ByteArray} {e : Int} (h : St L c pos s e) (hp : pos = L.length) (hc : c < L.length) : e = 10 := by
  rcases h with ⟨rfl, h1, _⟩ | ⟨rfl, h2⟩
  · omega
  · rfl
theorem drop_cat {g : Nat → ByteArray} {n i : Nat} {pre R : List UInt8} (hi : i < n) : ∃ T, (pre ++ cat g n ++ R).drop (pre.length + (cat g i).length) = (g i).data.toList ++ T := by
  have h : ∀ n, i < n → ∃ T, cat g n = cat g i ++ ((g i).data.toList ++ T) := by
    intro n
    induction n with
    | zero => intro h; omega
    | succ n ih =>
      intro h
      by_cases e : i = n
      · subst e; exact ⟨[], by rw [cat_succ]; simp⟩
      · obtain ⟨T, hT⟩ := ih (by omega)
        exact ⟨T ++ (g n).data.toList, by rw [cat_succ, hT]; simp⟩
  obtain ⟨T, hT⟩ := h n hi
  refine ⟨T ++ R, ?_⟩
  rw [hT, ← List.drop_drop, List.append_assoc, List.drop_append, List.drop_eq_nil_of_le (Nat.le_refl _)]
  simp
theorem iC_max (s : ByteArray) : iC s (-9223372036854775808) 9223372036854775807 = 0 := by
  have h := xI_U64 s
  have := Num.zag_range (xI s) h.1 h.2
  unfold iC; rw [if_neg]; omega
end Wire
end Go.Proofs.Ytppkfpphefonoaa
