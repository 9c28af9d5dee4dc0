import Derived.Test.YtpidhcogaoehhaaCodeZ
import Derived.Test.YtpidhcogaoehhaaCodeU

/- Plain law: what was written is read as itself. No condition. -/
namespace Go.Proofs.Ytpidhcogaoehhaa
open Go.RowKit Cd Wire
set_option linter.unusedVariables false
namespace Cd
theorem rd_app {x : Int} (hx : U64 x) (T : ByteArray) : rdS (Num.lebS x ++ T) = (x.toNat, (Num.lebS x).size, 0) := by
  have := Num.rd_leb x.toNat (by have := hx.2; omega) T.data.toList
  unfold rdS
  rw [ByteArray.data_append, Array.toList_append]
  exact this
theorem toLs (s : ByteArray) : s.data.toList.length = s.size := by simp
theorem tl_lst (s : ByteArray) (n : Nat) : (tl s n).data.toList = s.data.toList.drop n := by
  unfold tl
  have : (s.extract n s.size).data.toList = (s.data.toList.take (n + (s.size - n))).drop n := by simp [List.take_drop]
  rw [this, List.take_of_length_le (by rw [toLs]; omega)]
theorem tl_app (a b : ByteArray) : tl (a ++ b) a.size = b := by
  apply ByteArray.ext
  apply Array.toList_inj.1
  rw [tl_lst, ByteArray.data_append, Array.toList_append, ← toLs a, List.drop_left]
theorem num_app {x : Int} (hx : U64 x) (T : ByteArray) : numV (Num.lebS x ++ T) 0 0 = x ∧ numS (Num.lebS x ++ T) 0 0 = T ∧ numE (Num.lebS x ++ T) 0 0 = 0 := by
  have h := rd_app hx T
  unfold numV numS numE
  rw [h]
  simp only [and_self, if_true]
  exact ⟨by unfold U64 at hx; omega, tl_app _ _, trivial⟩
theorem u_app {x : Int} (hx : U64 x) {most : Int} (hm : x ≤ most) (T : ByteArray) : uV most ⟨Num.lebS x ++ T, 0⟩ = x ∧ uS most ⟨Num.lebS x ++ T, 0⟩ = ⟨T, 0⟩ := by
  have hc : uC (Num.lebS x ++ T) most = 0 := by
    unfold uC xI
    rw [rd_app hx T, if_neg (by unfold U64 at hx; simp only; omega)]
  obtain ⟨h1, h2, h3⟩ := num_app hx T
  unfold uV uS
  simp only [hc, h1, h2, h3, and_self]
theorem c_app {x : Int} (hx : U64 x) {most : Int} (hm : x ≤ most) (T : ByteArray) (ht : x ≤ T.size) : cV most ⟨Num.lebS x ++ T, 0⟩ = x ∧ cS most ⟨Num.lebS x ++ T, 0⟩ = ⟨T, 0⟩ := by
  have hc : cC (Num.lebS x ++ T) most = 0 := by
    unfold cC cntC xI nI
    rw [rd_app hx T]
    simp only
    rw [if_neg (by unfold U64 at hx; omega), if_neg (by rw [ByteArray.size_append]; unfold U64 at hx; omega)]
  obtain ⟨h1, h2, h3⟩ := num_app hx T
  unfold cV cS
  simp only [hc, h1, h2, h3, and_self]
theorem i_app {x : Int} (hx : I64 x) (T : ByteArray) : iV ⟨intS x ++ T, 0⟩ = x ∧ iS ⟨intS x ++ T, 0⟩ = ⟨T, 0⟩ := by
  have hz := U64_zig hx
  have hzz : Num.zag (Num.zig x) = x := Num.zag_zig x
  have hr : rdS (intS x ++ T) = ((Num.zig x).toNat, (intS x).size, 0) := rd_app hz T
  have hc : iC (intS x ++ T) (-9223372036854775808) 9223372036854775807 = 0 := by
    unfold iC xI
    rw [hr]
    simp only
    have e : (((Num.zig x).toNat : Nat) : Int) = Num.zig x := by unfold U64 at hz; omega
    rw [e, hzz, if_neg (by unfold I64 at hx; omega)]
  obtain ⟨h1, h2, h3⟩ := num_app hz T
  unfold iV iS
  have e1 : numV (intS x ++ T) 0 0 = Num.zig x := h1
  have e2 : numS (intS x ++ T) 0 0 = T := h2
  have e3 : numE (intS x ++ T) 0 0 = 0 := h3
  simp only [hc, e1, e2, e3, hzz, and_self]
/-! ### An op -/
def partS (o : OpV) (j : Nat) : ByteArray := if isE o j = true then Num.lebS (nE o j) else ⟨#[]⟩
def lastS (o : OpV) : ByteArray := if kn o.k = true then intS o.n else ⟨#[]⟩
theorem app_nil' (a : ByteArray) : a ++ (⟨#[]⟩ : ByteArray) = a := by apply ByteArray.ext; rw [ByteArray.data_append]; simp
theorem acc_part (o : OpV) (j : Nat) : acc o (j + 1) = acc o j ++ partS o j := by
  show (if isE o j = true then acc o j ++ Num.lebS (nE o j) else acc o j) = _
  unfold partS
  split
  · rfl
  · rw [app_nil']
theorem opS_parts (o : OpV) (T : ByteArray) : opS o ++ T = Num.lebS o.k ++ (partS o 0 ++ (partS o 1 ++ (partS o 2 ++ (lastS o ++ T)))) := by
  have h : opS o = acc o 3 ++ lastS o := by
    unfold opS lastS
    split
    · rfl
    · rw [app_nil']
  rw [h, acc_part, acc_part, acc_part]
  show Num.lebS o.k ++ partS o 0 ++ partS o 1 ++ partS o 2 ++ lastS o ++ T = _
  simp only [ByteArray.append_assoc]
theorem pt_step {r : RS} {o : OpV} {j : Nat} {T : ByteArray} (hk : uV 255 r = o.k) (hr : 0 ≤ nE o j ∧ nE o j ≤ 16) (h : ptS r j = ⟨partS o j ++ T, 0⟩) :
    ptS r (j + 1) = ⟨T, 0⟩ ∧ ptF r (j + 1) = if isE o j = true then setE (ptF r j) j (nE o j) else ptF r j := by
  have hh : hasE (uV 255 r) j = isE o j := by rw [hk]; rfl
  have e1 : ptS r (j + 1) = if isE o j = true then uS 16 (ptS r j) else ptS r j := by rw [← hh]; rfl
  have e2 : ptF r (j + 1) = if isE o j = true then setE (ptF r j) j (uV 16 (ptS r j)) else ptF r j := by rw [← hh]; rfl
  rw [e1, e2, h]
  unfold partS
  cases hi : isE o j with
  | true =>
    simp only [if_true]
    obtain ⟨u1, u2⟩ := u_app (x := nE o j) (by unfold U64; omega) (most := 16) hr.2 T
    rw [u1, u2]
    exact ⟨rfl, rfl⟩
  | false =>
    simp only [Bool.false_eq_true, if_false]
    rw [nil_app]
    first | exact ⟨rfl, rfl⟩ | exact ⟨rfl, trivial⟩ | exact ⟨trivial, rfl⟩
theorem read_app {o : OpV} (ho : OkO o) (hf : formB o = true) (T : ByteArray) : roV ⟨opS o ++ T, 0⟩ = o ∧ roS ⟨opS o ++ T, 0⟩ = ⟨T, 0⟩ ∧ roB ⟨opS o ++ T, 0⟩ = true := by
  have hk8 := ho.1
  rw [opS_parts]
  obtain ⟨k1, k2⟩ := u_app (x := o.k) (by unfold U8 at hk8; unfold U64; omega) (most := 255) hk8.2 (partS o 0 ++ (partS o 1 ++ (partS o 2 ++ (lastS o ++ T))))
  generalize hr : (⟨Num.lebS o.k ++ (partS o 0 ++ (partS o 1 ++ (partS o 2 ++ (lastS o ++ T)))), 0⟩ : RS) = r at *
  obtain ⟨s1, f1⟩ := pt_step (r := r) (o := o) (j := 0) k1 (form_reg hf 0) (show ptS r 0 = _ from k2)
  obtain ⟨s2, f2⟩ := pt_step (r := r) (o := o) (j := 1) k1 (form_reg hf 1) s1
  obtain ⟨s3, f3⟩ := pt_step (r := r) (o := o) (j := 2) k1 (form_reg hf 2) s2
  have f0 : ptF r 0 = ⟨o.k, 0, 0, 0, 0⟩ := by show OpV.mk (uV 255 r) 0 0 0 0 = _; rw [k1]
  have hfm := hf
  unfold formB at hfm
  simp only [Bool.and_eq_true, Bool.or_eq_true, beq_iff_eq] at hfm
  obtain ⟨⟨⟨⟨⟨hkn, _⟩, hd⟩, ha⟩, hb⟩, hn⟩ := hfm
  have i0 : isE o 0 = kd o.k := rfl
  have i1 : isE o 1 = ka o.k := rfl
  have i2 : isE o 2 = kb o.k := rfl
  have hF : ptF r 3 = ⟨o.k, o.d, o.a, o.b, 0⟩ := by
    rw [f3, f2, f1, f0, i0, i1, i2]
    cases h0 : kd o.k <;> cases h1 : ka o.k <;> cases h2 : kb o.k <;> rw [h0] at hd <;> rw [h1] at ha <;> rw [h2] at hb <;> simp at hd ha hb <;> simp [setE, nE, hd, ha, hb]
  have hV : roV r = o ∧ roS r = ⟨T, 0⟩ := by
    unfold roV roS
    rw [k1, hF, s3]
    unfold lastS
    cases h : kn o.k with
    | true =>
      simp only [if_true]
      obtain ⟨n1, n2⟩ := i_app ho.2.2.2.2 T
      rw [n1, n2]
      exact ⟨rfl, rfl⟩
    | false =>
      simp only [Bool.false_eq_true, if_false]
      rw [nil_app]
      rw [h] at hn
      simp at hn
      refine ⟨?_, rfl⟩
      cases o
      simp only at hn
      subst hn
      rfl
  refine ⟨hV.1, hV.2, ?_⟩
  unfold roB
  rw [k1, hV.2, hkn]
  rfl
end Cd
end Go.Proofs.Ytpidhcogaoehhaa
