import Derived.Test.YtgdgonmhgpflcaaMge

/- A packet that may be is read of its bytes as itself: plain law, with no program in sight. No condition. -/
namespace Go.Proofs.Ytgdgonmhgpflcaa
open Go.RowKit Wire Rp
set_option linter.unusedVariables false
set_option linter.unusedSimpArgs false
namespace Rp
theorem toLs (s : ByteArray) : s.data.toList.length = s.size := by simp
theorem tl_lst (s : ByteArray) (n : Nat) : (tl s n).data.toList = s.data.toList.drop n := by
  unfold tl
  have : (s.extract n s.size).data.toList = (s.data.toList.take (n + (s.size - n))).drop n := by simp [List.take_drop]
  rw [this, List.take_of_length_le (by rw [toLs]; omega)]
theorem rd_ok1 {s : ByteArray} {x : Nat} {R : List UInt8} (hx : x < 18446744073709551616) (h : s.data.toList = Num.leb x ++ R) : rdS s = (x, (Num.leb x).length, 0) := by
  unfold rdS; rw [h]; exact Num.rd_leb x hx R
theorem num_step {s : ByteArray} {x : Nat} {R : List UInt8} (hx : x < 18446744073709551616) (h : s.data.toList = Num.leb x ++ R) {c : Int} (hc : c = 0) :
    numV s 0 c = (x : Int) ∧ numE s 0 c = 0 ∧ (numS s 0 c).data.toList = R := by
  subst hc
  have hr := rd_ok1 hx h
  have h0 : (rdS s).2.2 = 0 := by rw [hr]
  refine ⟨by unfold numV; rw [if_pos ⟨rfl, h0, rfl⟩, hr], by unfold numE; rw [if_pos rfl, if_pos h0], ?_⟩
  unfold numS
  rw [if_pos ⟨rfl, h0, rfl⟩, hr, tl_lst, h]
  simp
theorem ba_ext {s t : ByteArray} (h : s.data.toList = t.data.toList) : s = t := ByteArray.ext (Array.toList_inj.1 h)
theorem text_step {s t : ByteArray} {R : List UInt8} (ht : t.size ≤ 8192) (h : s.data.toList = Num.leb t.size ++ (t.data.toList ++ R)) :
    txV s 0 8192 = t ∧ txE s 0 8192 = 0 ∧ (txS s 0 8192).data.toList = R := by
  have hr := rd_ok1 (x := t.size) (by omega) h
  have hsz : s.size = (Num.leb t.size).length + (t.size + R.length) := by
    have := congrArg List.length h
    rw [toLs, List.length_append, List.length_append, toLs] at this
    exact this
  have hC : cC s 8192 = 0 := by
    have hxI : xI s = t.size := by unfold xI; rw [hr]
    have hnI : nI s = ((Num.leb t.size).length : Nat) := by unfold nI; rw [hr]
    unfold cC cntC
    rw [hxI, hnI, if_neg (by omega), if_neg (by omega)]
  obtain ⟨h1, h2, h3⟩ := num_step (x := t.size) (by omega) h hC
  have e1 : (numS s 0 (cC s 8192)).data.toList.take t.size = t.data.toList := by rw [h3, List.take_append_of_le_length (by rw [toLs]; exact Nat.le_refl _), List.take_of_length_le (by rw [toLs]; exact Nat.le_refl _)]
  refine ⟨?_, h2, ?_⟩
  · apply ba_ext
    unfold txV
    rw [h1, Int.toNat_natCast]
    have : ((numS s 0 (cC s 8192)).extract 0 t.size).data.toList = (numS s 0 (cC s 8192)).data.toList.take t.size := by simp
    rw [this, e1]
  · unfold txS
    rw [if_pos h2, h1, Int.toNat_natCast, tl_lst, h3, List.drop_append, List.drop_eq_nil_of_le (by rw [toLs]; exact Nat.le_refl _), toLs]
    simp
theorem leb_list (x : Int) : (Num.lebS x).data.toList = Num.leb x.toNat := by unfold Num.lebS; simp
theorem app_list (a b : ByteArray) : (a ++ b).data.toList = a.data.toList ++ b.data.toList := by rw [ByteArray.data_append]; simp
theorem dec_enc {p : Pk} (h : mayP p = true) : okP (pkS p) = true ∧ decP (pkS p) = p := by
  have hm := h
  unfold mayP at h
  simp only [Bool.and_eq_true, decide_eq_true_eq] at h
  obtain ⟨h1, h2, h3, h4, h5⟩ := h
  obtain ⟨an, inc, sq, body⟩ := p
  dsimp only at h1 h2 h3 h4 h5
  have hl : (pkS ⟨an, inc, sq, body⟩).data.toList = Num.leb (if an = true then 1 else 0 : Int).toNat ++ (Num.leb inc.toNat ++ (Num.leb sq.toNat ++ (Num.leb body.size ++ (body.data.toList ++ [])))) := by
    unfold pkS boolS textS
    dsimp only
    rw [app_list, app_list, app_list, app_list, leb_list, leb_list, leb_list, leb_list]
    simp
  generalize pkS ⟨an, inc, sq, body⟩ = s at *
  have hb : bC s = 0 := by
    have hr := rd_ok1 (x := (if an = true then 1 else 0 : Int).toNat) (by cases an <;> decide) hl
    unfold bC tC
    have hx : xI s = (((if an = true then 1 else 0 : Int).toNat : Nat) : Int) := by unfold xI; rw [hr]
    rw [hx]
    cases an <;> rfl
  obtain ⟨a1, a2, a3⟩ := num_step (x := (if an = true then 1 else 0 : Int).toNat) (by cases an <;> decide) hl hb
  have b1 : q1V s = an := by unfold q1V; rw [a1]; cases an <;> rfl
  have b2 : q1E s = 0 := a2
  have b3 : (q1S s).data.toList = Num.leb inc.toNat ++ (Num.leb sq.toNat ++ (Num.leb body.size ++ (body.data.toList ++ []))) := a3
  have hu : uC (q1S s) 4611686018427387904 = 0 := by
    have hr := rd_ok1 (x := inc.toNat) (by omega) b3
    unfold uC xI; rw [hr, if_neg (by dsimp only; omega)]
  obtain ⟨c1, c2, c3⟩ := num_step (x := inc.toNat) (by omega) b3 hu
  have d1 : q2V s = inc := by unfold q2V; rw [b2, c1]; omega
  have d2 : q2E s = 0 := by unfold q2E; rw [b2]; exact c2
  have d3 : (q2S s).data.toList = Num.leb sq.toNat ++ (Num.leb body.size ++ (body.data.toList ++ [])) := by unfold q2S; rw [b2]; exact c3
  have hv : uC (q2S s) 4611686018427387904 = 0 := by
    have hr := rd_ok1 (x := sq.toNat) (by omega) d3
    unfold uC xI; rw [hr, if_neg (by dsimp only; omega)]
  obtain ⟨e1, e2, e3⟩ := num_step (x := sq.toNat) (by omega) d3 hv
  have f1 : q3V s = sq := by unfold q3V; rw [d2, e1]; omega
  have f2 : q3E s = 0 := by unfold q3E; rw [d2]; exact e2
  have f3 : (q3S s).data.toList = Num.leb body.size ++ (body.data.toList ++ []) := by unfold q3S; rw [d2]; exact e3
  obtain ⟨g1, g2, g3⟩ := text_step (by omega) f3
  have i1 : q4V s = body := by unfold q4V; rw [f2]; exact g1
  have i2 : q4E s = 0 := by unfold q4E; rw [f2]; exact g2
  have i3 : (q4S s).data.toList = [] := by unfold q4S; rw [f2]; exact g3
  have hpk : pk s = ⟨an, inc, sq, body⟩ := by unfold pk; rw [b1, d1, f1, i1]
  have hok : okP s = true := by
    unfold okP
    rw [hpk, hm, i2]
    have hz : (q4S s).size = 0 := by rw [← toLs, i3]; rfl
    unfold endE
    rw [if_neg (by rw [hz]; simp)]
    rfl
  exact ⟨hok, by unfold decP; rw [if_pos hok, hpk]⟩
end Rp
end Go.Proofs.Ytgdgonmhgpflcaa
