import Derived.Test.YtlahficmkfgooaaGreatMgf
import Derived.Test.YtlahficmkfgooaaGreatCodeZ
import Derived.Test.YtlahficmkfgooaaGreatMgi
import Derived.Test.YtlahficmkfgooaaGreatMgj
import Derived.Test.YtlahficmkfgooaaGreatCodeFa

/- The walk of the program's writer of programs: 'Encode'. No condition but that numbers fit their kinds and that rows are not too long. -/
namespace Go.Proofs.YtlahficmkfgooaaGreat
open Go.RowKit Cd Wire
set_option linter.unusedVariables false
namespace Cd
def opsS (s : ByteArray) (l : List OpV) : ByteArray := l.foldl (fun s o => s ++ opS o) s
def headS (f : FunV) : ByteArray := Num.lebS f.args ++ Num.lebS f.regs ++ Num.lebS (f.ops.length : Int)
def funS (s : ByteArray) (f : FunV) : ByteArray := opsS (s ++ headS f) f.ops
def startS (fs : List FunV) : ByteArray := Num.lebS 1 ++ Num.lebS (fs.length : Int)
def progS (fs : List FunV) : ByteArray := fs.foldl funS (startS fs)
def encC (fs : List FunV) : Int := if mayB fs = true then (if 16384 < (progS fs).size then 4 else 0) else 2
def encV (fs : List FunV) : ByteArray := if mayB fs = true then (if 16384 < (progS fs).size then ⟨#[]⟩ else progS fs) else ⟨#[]⟩
theorem opsS_take {s : ByteArray} {l : List OpV} {i : Nat} (h : i < l.length) : opsS s (l.take (i + 1)) = opsS s (l.take i) ++ opS l[i] := by
  unfold opsS; rw [List.take_succ_eq_append_getElem h, List.foldl_append]; rfl
theorem funS_take {s : ByteArray} {l : List FunV} {i : Nat} (h : i < l.length) : (l.take (i + 1)).foldl funS s = funS ((l.take i).foldl funS s) l[i] := by
  rw [List.take_succ_eq_append_getElem h, List.foldl_append]; rfl
theorem opsS_size {l : List OpV} (ho : ∀ o ∈ l, OkO o) (hf : ∀ o ∈ l, formB o = true) : ∀ s : ByteArray, (opsS s l).size ≤ s.size + 50 * l.length := by
  induction l with
  | nil => intro s; simp [opsS]
  | cons x l ih =>
    intro s
    have h1 := ih (fun o h => ho o (List.mem_cons_of_mem _ h)) (fun o h => hf o (List.mem_cons_of_mem _ h)) (s ++ opS x)
    have h2 := opS_size (ho x List.mem_cons_self) (hf x List.mem_cons_self)
    rw [app_size] at h1
    show (opsS (s ++ opS x) l).size ≤ _
    rw [List.length_cons]; omega
theorem funB_of {f : FunV} (h : funB f = true) : (0 ≤ f.args ∧ f.args ≤ 16) ∧ (0 ≤ f.regs ∧ f.regs ≤ 16) ∧ f.ops.length ≤ 64 ∧ ∀ o ∈ f.ops, formB o = true := by
  unfold funB regB at h
  simp only [Bool.and_eq_true, decide_eq_true_eq, List.all_eq_true] at h
  exact ⟨h.1.1.1, h.1.1.2, h.1.2, h.2⟩
theorem mayB_of {fs : List FunV} (h : mayB fs = true) : fs.length ≤ 16 ∧ ∀ f ∈ fs, funB f = true := by
  unfold mayB at h
  simpa only [Bool.and_eq_true, decide_eq_true_eq, List.all_eq_true] using h
theorem head_size {f : FunV} (h : funB f = true) : (headS f).size ≤ 30 := by
  obtain ⟨h1, h2, h3, _⟩ := funB_of h
  have a := lebS_size (x := f.args) (by omega)
  have b := lebS_size (x := f.regs) (by omega)
  have c := lebS_size (x := (f.ops.length : Int)) (by omega)
  unfold headS; rw [app_size, app_size]; omega
theorem funS_size {f : FunV} (hf : OkF f) (h : funB f = true) (s : ByteArray) : (funS s f).size ≤ s.size + 3230 := by
  have h1 := opsS_size hf.2.2 (funB_of h).2.2.2 (s ++ headS f)
  have h2 := head_size h
  have h3 := (funB_of h).2.2.1
  unfold funS
  rw [app_size] at h1
  omega
theorem funs_size {l : List FunV} (ho : OkP l) (hf : ∀ f ∈ l, funB f = true) : ∀ s : ByteArray, (l.foldl funS s).size ≤ s.size + 3230 * l.length := by
  induction l with
  | nil => intro s; simp
  | cons x l ih =>
    intro s
    have h1 := ih (fun o h => ho o (List.mem_cons_of_mem _ h)) (fun o h => hf o (List.mem_cons_of_mem _ h)) (funS s x)
    have h2 := funS_size (ho x List.mem_cons_self) (hf x List.mem_cons_self) s
    show (l.foldl funS (funS s x)).size ≤ _
    rw [List.length_cons]; omega
end Cd
def ERel (W : World) (fs : List FunV) (s u : Value) (wr : World) : Prop := ∃ i : Nat, i ≤ fs.length ∧ u = .int .i64 i ∧ s = .string ((fs.take i).foldl funS (startS fs)) ∧ Below W.heap.size W wr
def ORel (W : World) (s0 : ByteArray) (l : List OpV) (s u : Value) (wr : World) : Prop := ∃ i : Nat, i ≤ l.length ∧ u = .int .i64 i ∧ s = .string (opsS s0 (l.take i)) ∧ Below W.heap.size W wr
theorem wrap_u {x : Int} (h : 0 ≤ x) (h2 : x ≤ 1000000) : IntKind.u64.wrap x = x := by rw [IntKind.wrap_u64]; omega
end Go.Proofs.YtlahficmkfgooaaGreat


/- Plain law: what was written is read as itself. No condition. -/
namespace Go.Proofs.YtlahficmkfgooaaGreat
open Go.RowKit Cd Wire
set_option linter.unusedVariables false
namespace Cd
theorem rd_app {x : Int} (hx : U64 x) (T : ByteArray) : rdS (Num.lebS x ++ T) = (x.toNat, (Num.lebS x).size, 0) := by
  have := Num.rd_leb x.toNat (by have := hx.2; omega) T.data.toList
  unfold rdS
  rw [ByteArray.data_append, Array.toList_append]
  exact this
theorem toLs (s : ByteArray) : s.data.toList.length = s.size := by simp
theorem tl_lst (s : ByteArray) (n : Nat) : (tl s n).data.toList = s.data.toList.drop n := by
  unfold tl
  have : (s.extract n s.size).data.toList = (s.data.toList.take (n + (s.size - n))).drop n := by simp [List.take_drop]
  rw [this, List.take_of_length_le (by rw [toLs]; omega)]
theorem tl_app (a b : ByteArray) : tl (a ++ b) a.size = b := by
  apply ByteArray.ext
  apply Array.toList_inj.1
  rw [tl_lst, ByteArray.data_append, Array.toList_append, ← toLs a, List.drop_left]
theorem num_app {x : Int} (hx : U64 x) (T : ByteArray) : numV (Num.lebS x ++ T) 0 0 = x ∧ numS (Num.lebS x ++ T) 0 0 = T ∧ numE (Num.lebS x ++ T) 0 0 = 0 := by
  have h := rd_app hx T
  unfold numV numS numE
  rw [h]
  simp only [and_self, if_true]
  exact ⟨by unfold U64 at hx; omega, tl_app _ _, trivial⟩
theorem u_app {x : Int} (hx : U64 x) {most : Int} (hm : x ≤ most) (T : ByteArray) : uV most ⟨Num.lebS x ++ T, 0⟩ = x ∧ uS most ⟨Num.lebS x ++ T, 0⟩ = ⟨T, 0⟩ := by
  have hc : uC (Num.lebS x ++ T) most = 0 := by
    unfold uC xI
    rw [rd_app hx T, if_neg (by unfold U64 at hx; simp only; omega)]
  obtain ⟨h1, h2, h3⟩ := num_app hx T
  unfold uV uS
  simp only [hc, h1, h2, h3, and_self]
theorem c_app {x : Int} (hx : U64 x) {most : Int} (hm : x ≤ most) (T : ByteArray) (ht : x ≤ T.size) : cV most ⟨Num.lebS x ++ T, 0⟩ = x ∧ cS most ⟨Num.lebS x ++ T, 0⟩ = ⟨T, 0⟩ := by
  have hc : cC (Num.lebS x ++ T) most = 0 := by
    unfold cC cntC xI nI
    rw [rd_app hx T]
    simp only
    rw [if_neg (by unfold U64 at hx; omega), if_neg (by rw [ByteArray.size_append]; unfold U64 at hx; omega)]
  obtain ⟨h1, h2, h3⟩ := num_app hx T
  unfold cV cS
  simp only [hc, h1, h2, h3, and_self]
theorem i_app {x : Int} (hx : I64 x) (T : ByteArray) : iV ⟨intS x ++ T, 0⟩ = x ∧ iS ⟨intS x ++ T, 0⟩ = ⟨T, 0⟩ := by
  have hz := U64_zig hx
  have hzz : Num.zag (Num.zig x) = x := Num.zag_zig x
  have hr : rdS (intS x ++ T) = ((Num.zig x).toNat, (intS x).size, 0) := rd_app hz T
  have hc : iC (intS x ++ T) (-9223372036854775808) 9223372036854775807 = 0 := by
    unfold iC xI
    rw [hr]
    simp only
    have e : (((Num.zig x).toNat : Nat) : Int) = Num.zig x := by unfold U64 at hz; omega
    rw [e, hzz, if_neg (by unfold I64 at hx; omega)]
  obtain ⟨h1, h2, h3⟩ := num_app hz T
  unfold iV iS
  have e1 : numV (intS x ++ T) 0 0 = Num.zig x := h1
  have e2 : numS (intS x ++ T) 0 0 = T := h2
  have e3 : numE (intS x ++ T) 0 0 = 0 := h3
  simp only [hc, e1, e2, e3, hzz, and_self]
/-! ### An op -/
def partS (o : OpV) (j : Nat) : ByteArray := if isE o j = true then Num.lebS (nE o j) else ⟨#[]⟩
def lastS (o : OpV) : ByteArray := if kn o.k = true then intS o.n else ⟨#[]⟩
theorem app_nil' (a : ByteArray) : a ++ (⟨#[]⟩ : ByteArray) = a := by apply ByteArray.ext; rw [ByteArray.data_append]; simp
theorem acc_part (o : OpV) (j : Nat) : acc o (j + 1) = acc o j ++ partS o j := by
  show (if isE o j = true then acc o j ++ Num.lebS (nE o j) else acc o j) = _
  unfold partS
  split
  · rfl
  · rw [app_nil']
theorem opS_parts (o : OpV) (T : ByteArray) : opS o ++ T = Num.lebS o.k ++ (partS o 0 ++ (partS o 1 ++ (partS o 2 ++ (lastS o ++ T)))) := by
  have h : opS o = acc o 3 ++ lastS o := by
    unfold opS lastS
    split
    · rfl
    · rw [app_nil']
  rw [h, acc_part, acc_part, acc_part]
  show Num.lebS o.k ++ partS o 0 ++ partS o 1 ++ partS o 2 ++ lastS o ++ T = _
  simp only [ByteArray.append_assoc]
theorem pt_step {r : RS} {o : OpV} {j : Nat} {T : ByteArray} (hk : uV 255 r = o.k) (hr : 0 ≤ nE o j ∧ nE o j ≤ 16) (h : ptS r j = ⟨partS o j ++ T, 0⟩) :
    ptS r (j + 1) = ⟨T, 0⟩ ∧ ptF r (j + 1) = if isE o j = true then setE (ptF r j) j (nE o j) else ptF r j := by
  have hh : hasE (uV 255 r) j = isE o j := by rw [hk]; rfl
  have e1 : ptS r (j + 1) = if isE o j = true then uS 16 (ptS r j) else ptS r j := by rw [← hh]; rfl
  have e2 : ptF r (j + 1) = if isE o j = true then setE (ptF r j) j (uV 16 (ptS r j)) else ptF r j := by rw [← hh]; rfl
  rw [e1, e2, h]
  unfold partS
  cases hi : isE o j with
  | true =>
    simp only [if_true]
    obtain ⟨u1, u2⟩ := u_app (x := nE o j) (by unfold U64; omega) (most := 16) hr.2 T
    rw [u1, u2]
    exact ⟨rfl, rfl⟩
  | false =>
    simp only [Bool.false_eq_true, if_false]
    rw [nil_app]
    first | exact ⟨rfl, rfl⟩ | exact ⟨rfl, trivial⟩ | exact ⟨trivial, rfl⟩
theorem read_app {o : OpV} (ho : OkO o) (hf : formB o = true) (T : ByteArray) : roV ⟨opS o ++ T, 0⟩ = o ∧ roS ⟨opS o ++ T, 0⟩ = ⟨T, 0⟩ ∧ roB ⟨opS o ++ T, 0⟩ = true := by
  have hk8 := ho.1
  rw [opS_parts]
  obtain ⟨k1, k2⟩ := u_app (x := o.k) (by unfold U8 at hk8; unfold U64; omega) (most := 255) hk8.2 (partS o 0 ++ (partS o 1 ++ (partS o 2 ++ (lastS o ++ T))))
  generalize hr : (⟨Num.lebS o.k ++ (partS o 0 ++ (partS o 1 ++ (partS o 2 ++ (lastS o ++ T)))), 0⟩ : RS) = r at *
  obtain ⟨s1, f1⟩ := pt_step (r := r) (o := o) (j := 0) k1 (form_reg hf 0) (show ptS r 0 = _ from k2)
  obtain ⟨s2, f2⟩ := pt_step (r := r) (o := o) (j := 1) k1 (form_reg hf 1) s1
  obtain ⟨s3, f3⟩ := pt_step (r := r) (o := o) (j := 2) k1 (form_reg hf 2) s2
  have f0 : ptF r 0 = ⟨o.k, 0, 0, 0, 0⟩ := by show OpV.mk (uV 255 r) 0 0 0 0 = _; rw [k1]
  have hfm := hf
  unfold formB at hfm
  simp only [Bool.and_eq_true, Bool.or_eq_true, beq_iff_eq] at hfm
  obtain ⟨⟨⟨⟨⟨hkn, _⟩, hd⟩, ha⟩, hb⟩, hn⟩ := hfm
  have i0 : isE o 0 = kd o.k := rfl
  have i1 : isE o 1 = ka o.k := rfl
  have i2 : isE o 2 = kb o.k := rfl
  have hF : ptF r 3 = ⟨o.k, o.d, o.a, o.b, 0⟩ := by
    rw [f3, f2, f1, f0, i0, i1, i2]
    cases h0 : kd o.k <;> cases h1 : ka o.k <;> cases h2 : kb o.k <;> rw [h0] at hd <;> rw [h1] at ha <;> rw [h2] at hb <;> simp at hd ha hb <;> simp [setE, nE, hd, ha, hb]
  have hV : roV r = o ∧ roS r = ⟨T, 0⟩ := by
    unfold roV roS
    rw [k1, hF, s3]
    unfold lastS
    cases h : kn o.k with
    | true =>
      simp only [if_true]
      obtain ⟨n1, n2⟩ := i_app ho.2.2.2.2 T
      rw [n1, n2]
      exact ⟨rfl, rfl⟩
    | false =>
      simp only [Bool.false_eq_true, if_false]
      rw [nil_app]
      rw [h] at hn
      simp at hn
      refine ⟨?_, rfl⟩
      cases o
      simp only at hn
      subst hn
      rfl
  refine ⟨hV.1, hV.2, ?_⟩
  unfold roB
  rw [k1, hV.2, hkn]
  rfl
end Cd
end Go.Proofs.YtlahficmkfgooaaGreat


/- Plain law: a program's bytes are read as the program. No condition. -/
namespace Go.Proofs.YtlahficmkfgooaaGreat
open Go.RowKit Cd Wire
set_option linter.unusedVariables false
namespace Cd
theorem opsS_app (l : List OpV) : ∀ s : ByteArray, opsS s l = s ++ opsS ⟨#[]⟩ l := by
  induction l with
  | nil => intro s; show s = s ++ ⟨#[]⟩; rw [app_nil']
  | cons o l ih =>
    intro s
    show opsS (s ++ opS o) l = s ++ opsS (⟨#[]⟩ ++ opS o) l
    rw [ih (s ++ opS o), ih (⟨#[]⟩ ++ opS o), nil_app, ByteArray.append_assoc]
theorem opsS_cons (o : OpV) (l : List OpV) : opsS ⟨#[]⟩ (o :: l) = opS o ++ opsS ⟨#[]⟩ l := by
  show opsS (⟨#[]⟩ ++ opS o) l = _
  rw [nil_app, opsS_app]
theorem opS_pos (o : OpV) : 1 ≤ (opS o).size := by
  have h := opS_parts o ⟨#[]⟩
  rw [app_nil'] at h
  rw [h, ByteArray.size_append]
  have : 1 ≤ (Num.lebS o.k).size := Num.leb_pos _
  omega
theorem opsS_len (l : List OpV) : l.length ≤ (opsS ⟨#[]⟩ l).size := by
  induction l with
  | nil => exact Nat.zero_le _
  | cons o l ih =>
    rw [opsS_cons, ByteArray.size_append, List.length_cons]
    have := opS_pos o
    omega
theorem opsL_app (T : ByteArray) : ∀ (l acc : List OpV), (∀ o ∈ l, OkO o) → (∀ o ∈ l, formB o = true) → opsL l.length acc ⟨opsS ⟨#[]⟩ l ++ T, 0⟩ = some (acc ++ l, ⟨T, 0⟩) := by
  intro l
  induction l with
  | nil =>
    intro acc _ _
    show some (acc, (⟨(⟨#[]⟩ : ByteArray) ++ T, 0⟩ : RS)) = _
    rw [nil_app, List.append_nil]
  | cons o l ih =>
    intro acc ho hf
    rw [opsS_cons, ByteArray.append_assoc]
    obtain ⟨h1, h2, h3⟩ := read_app (ho o List.mem_cons_self) (hf o List.mem_cons_self) (opsS ⟨#[]⟩ l ++ T)
    show (if roB _ = true then opsL l.length (acc ++ [roV _]) (roS _) else none) = _
    rw [h3, if_pos rfl, h1, h2, ih (acc ++ [o]) (fun x h => ho x (List.mem_cons_of_mem _ h)) (fun x h => hf x (List.mem_cons_of_mem _ h)), List.append_assoc]
    rfl
def oneS (f : FunV) : ByteArray := headS f ++ opsS ⟨#[]⟩ f.ops
theorem fun1_app {f : FunV} (hf : funB f = true) (ho : OkF f) (T : ByteArray) : fun1 ⟨oneS f ++ T, 0⟩ = some (f, ⟨T, 0⟩) := by
  obtain ⟨ha, hr, hl, hform⟩ := funB_of hf
  have e : oneS f ++ T = Num.lebS f.args ++ (Num.lebS f.regs ++ (Num.lebS (f.ops.length : Int) ++ (opsS ⟨#[]⟩ f.ops ++ T))) := by
    unfold oneS headS
    simp only [ByteArray.append_assoc]
  rw [e]
  obtain ⟨a1, a2⟩ := u_app (x := f.args) (by unfold U64; omega) (most := 16) ha.2 (Num.lebS f.regs ++ (Num.lebS (f.ops.length : Int) ++ (opsS ⟨#[]⟩ f.ops ++ T)))
  obtain ⟨b1, b2⟩ := u_app (x := f.regs) (by unfold U64; omega) (most := 16) hr.2 (Num.lebS (f.ops.length : Int) ++ (opsS ⟨#[]⟩ f.ops ++ T))
  obtain ⟨c1, c2⟩ := c_app (x := (f.ops.length : Int)) (by unfold U64; omega) (most := 64) (by omega) (opsS ⟨#[]⟩ f.ops ++ T) (by rw [ByteArray.size_append]; have := opsS_len f.ops; omega)
  unfold fun1
  rw [a1, a2, b1, b2, c1, c2, Int.toNat_natCast, opsL_app T f.ops [] ho.2.2 hform]
  rfl
theorem funS_one (s : ByteArray) (f : FunV) : funS s f = s ++ oneS f := by
  unfold funS oneS
  rw [opsS_app, ByteArray.append_assoc]
theorem funs_app (l : List FunV) : ∀ s : ByteArray, l.foldl funS s = s ++ l.foldl funS ⟨#[]⟩ := by
  induction l with
  | nil => intro s; show s = s ++ ⟨#[]⟩; rw [app_nil']
  | cons f l ih =>
    intro s
    show l.foldl funS (funS s f) = s ++ l.foldl funS (funS ⟨#[]⟩ f)
    rw [ih (funS s f), ih (funS ⟨#[]⟩ f), funS_one, funS_one, nil_app, ByteArray.append_assoc]
theorem funs_cons (f : FunV) (l : List FunV) : (f :: l).foldl funS ⟨#[]⟩ = oneS f ++ l.foldl funS ⟨#[]⟩ := by
  show l.foldl funS (funS ⟨#[]⟩ f) = _
  rw [funs_app, funS_one, nil_app]
theorem oneS_pos (f : FunV) : 1 ≤ (oneS f).size := by
  unfold oneS headS
  rw [ByteArray.size_append, ByteArray.size_append, ByteArray.size_append]
  have : 1 ≤ (Num.lebS f.args).size := Num.leb_pos _
  omega
theorem funs_len (l : List FunV) : l.length ≤ (l.foldl funS ⟨#[]⟩).size := by
  induction l with
  | nil => exact Nat.zero_le _
  | cons f l ih =>
    rw [funs_cons, ByteArray.size_append, List.length_cons]
    have := oneS_pos f
    omega
theorem funL_app (T : ByteArray) : ∀ (l acc : List FunV), OkP l → (∀ f ∈ l, funB f = true) → funL l.length acc ⟨l.foldl funS ⟨#[]⟩ ++ T, 0⟩ = some (acc ++ l, ⟨T, 0⟩) := by
  intro l
  induction l with
  | nil =>
    intro acc _ _
    show some (acc, (⟨(⟨#[]⟩ : ByteArray) ++ T, 0⟩ : RS)) = _
    rw [nil_app, List.append_nil]
  | cons f l ih =>
    intro acc ho hf
    rw [funs_cons, ByteArray.append_assoc]
    show (match fun1 _ with | none => none | some (f, r4) => funL l.length (acc ++ [f]) r4) = _
    rw [fun1_app (hf f List.mem_cons_self) (ho f List.mem_cons_self) (l.foldl funS ⟨#[]⟩ ++ T)]
    show funL l.length (acc ++ [f]) ⟨l.foldl funS ⟨#[]⟩ ++ T, 0⟩ = _
    rw [ih (acc ++ [f]) (fun x h => ho x (List.mem_cons_of_mem _ h)) (fun x h => hf x (List.mem_cons_of_mem _ h)), List.append_assoc]
    rfl
/-- A formed program's bytes, and what lies behind them. -/
theorem dec_app {l : List FunV} (hm : mayB l = true) (ho : OkP l) (T : ByteArray) (hs : (progS l ++ T).size ≤ 16384) : dec (progS l ++ T) = if T.size ≠ 0 then ([], 8) else (l, 0) := by
  obtain ⟨h16, hfun⟩ := mayB_of hm
  have e : progS l ++ T = Num.lebS 1 ++ (Num.lebS (l.length : Int) ++ (l.foldl funS ⟨#[]⟩ ++ T)) := by
    unfold progS startS
    rw [funs_app]
    simp only [ByteArray.append_assoc]
  unfold dec
  rw [if_neg (by omega), e]
  obtain ⟨a1, a2⟩ := u_app (x := 1) (by unfold U64; omega) (most := 18446744073709551615) (by omega) (Num.lebS (l.length : Int) ++ (l.foldl funS ⟨#[]⟩ ++ T))
  obtain ⟨c1, c2⟩ := c_app (x := (l.length : Int)) (by unfold U64; omega) (most := 16) (by omega) (l.foldl funS ⟨#[]⟩ ++ T) (by rw [ByteArray.size_append]; have := funs_len l; omega)
  rw [a1, a2]
  simp only [ne_eq, not_true_eq_false, if_false]
  rw [c1, c2, Int.toNat_natCast, funL_app T l [] ho hfun]
  simp only [List.nil_append]
  unfold endE
  by_cases hT : T.size = 0
  · simp [hT]
  · simp [hT]
theorem dec_prog {l : List FunV} (hm : mayB l = true) (ho : OkP l) (hs : (progS l).size ≤ 16384) : dec (progS l) = (l, 0) := by
  have := dec_app hm ho ⟨#[]⟩ (by rw [app_nil']; exact hs)
  rw [app_nil'] at this
  exact this
/-- Programs with the same bytes are the same. -/
theorem prog_inj {a b : List FunV} (ha : encC a = 0) (hb : encC b = 0) (oa : OkP a) (ob : OkP b) : (encV a = encV b) ↔ a = b := by
  have key : ∀ {l : List FunV}, encC l = 0 → mayB l = true ∧ (progS l).size ≤ 16384 ∧ encV l = progS l := by
    intro l h
    unfold encC at h
    cases hm : mayB l with
    | false => rw [hm] at h; simp at h
    | true =>
      rw [hm] at h
      simp only [if_true] at h
      by_cases hs : 16384 < (progS l).size
      · rw [if_pos hs] at h; omega
      · refine ⟨rfl, by omega, ?_⟩
        unfold encV
        rw [hm, if_pos rfl, if_neg hs]
  obtain ⟨a1, a2, a3⟩ := key ha
  obtain ⟨b1, b2, b3⟩ := key hb
  rw [a3, b3]
  refine ⟨fun h => ?_, fun h => by rw [h]⟩
  have e1 := dec_prog a1 oa a2
  rw [h, dec_prog b1 ob b2] at e1
  exact (congrArg Prod.fst e1).symm
end Cd
end Go.Proofs.YtlahficmkfgooaaGreat


/- Plain law: bytes that are read are the program's own. No condition. -/
namespace Go.Proofs.YtlahficmkfgooaaGreat
open Go.RowKit Cd Wire
set_option linter.unusedVariables false
namespace Cd
theorem num_back {s : ByteArray} {e0 c : Int} (h : numE s e0 c = 0) : e0 = 0 ∧ c = 0 ∧ s = Num.lebS (numV s e0 c) ++ numS s e0 c := by
  unfold numE at h
  by_cases h0 : e0 = 0
  · rw [if_pos h0] at h
    by_cases h1 : (rdS s).2.2 = 0
    · rw [if_pos h1] at h
      refine ⟨h0, h, ?_⟩
      unfold numV numS
      rw [if_pos ⟨h0, h1, h⟩, if_pos ⟨h0, h1, h⟩]
      have hr : Num.rd s.data.toList = ((rdS s).1, (rdS s).2.1, 0) := by rw [← h1]; rfl
      obtain ⟨hn, hl, _, _⟩ := Num.rd_ok hr
      apply ByteArray.ext
      apply Array.toList_inj.1
      rw [ByteArray.data_append, Array.toList_append, tl_lst]
      show _ = Num.leb ((((rdS s).1 : Nat) : Int).toNat) ++ _
      rw [Int.toNat_natCast, hl, List.take_append_drop]
    · rw [if_neg h1] at h
      omega
  · rw [if_neg h0] at h
    exact absurd h h0
theorem u_back {most : Int} {r : RS} (h : (uS most r).e = 0) : r.e = 0 ∧ r.s = Num.lebS (uV most r) ++ (uS most r).s := by
  obtain ⟨h1, h2, h3⟩ := num_back (s := r.s) (e0 := r.e) (c := uC r.s most) h
  exact ⟨h1, h3⟩
theorem c_back {most : Int} {r : RS} (h : (cS most r).e = 0) : r.e = 0 ∧ r.s = Num.lebS (cV most r) ++ (cS most r).s := by
  obtain ⟨h1, h2, h3⟩ := num_back (s := r.s) (e0 := r.e) (c := cC r.s most) h
  exact ⟨h1, h3⟩
theorem iV_I64 (r : RS) : I64 (iV r) := by
  have h := numV_U64 r.s r.e (iC r.s (-9223372036854775808) 9223372036854775807)
  have := Num.zag_range _ h.1 h.2
  unfold iV I64
  omega
theorem i_back {r : RS} (h : (iS r).e = 0) : r.e = 0 ∧ r.s = intS (iV r) ++ (iS r).s := by
  obtain ⟨h1, h2, h3⟩ := num_back (s := r.s) (e0 := r.e) (c := iC r.s (-9223372036854775808) 9223372036854775807) h
  refine ⟨h1, ?_⟩
  have h0 := numV_U64 r.s r.e (iC r.s (-9223372036854775808) 9223372036854775807)
  unfold intS iV
  rw [Num.zig_zag _ h0.1]
  exact h3
/-! ### An op -/
theorem ptF_has (r : RS) : ptF r 3 = ⟨uV 255 r, if kd (uV 255 r) = true then uV 16 (ptS r 0) else 0, if ka (uV 255 r) = true then uV 16 (ptS r 1) else 0, if kb (uV 255 r) = true then uV 16 (ptS r 2) else 0, 0⟩ := by
  have i0 : hasE (uV 255 r) 0 = kd (uV 255 r) := rfl
  have i1 : hasE (uV 255 r) 1 = ka (uV 255 r) := rfl
  have i2 : hasE (uV 255 r) 2 = kb (uV 255 r) := rfl
  have f0 : ptF r 0 = ⟨uV 255 r, 0, 0, 0, 0⟩ := rfl
  have f1 : ptF r 1 = if hasE (uV 255 r) 0 = true then setE (ptF r 0) 0 (uV 16 (ptS r 0)) else ptF r 0 := rfl
  have f2 : ptF r 2 = if hasE (uV 255 r) 1 = true then setE (ptF r 1) 1 (uV 16 (ptS r 1)) else ptF r 1 := rfl
  have f3 : ptF r 3 = if hasE (uV 255 r) 2 = true then setE (ptF r 2) 2 (uV 16 (ptS r 2)) else ptF r 2 := rfl
  rw [f3, f2, f1, f0, i0, i1, i2]
  cases kd (uV 255 r) <;> cases ka (uV 255 r) <;> cases kb (uV 255 r) <;> rfl
theorem roV_has (r : RS) : roV r = ⟨uV 255 r, if kd (uV 255 r) = true then uV 16 (ptS r 0) else 0, if ka (uV 255 r) = true then uV 16 (ptS r 1) else 0, if kb (uV 255 r) = true then uV 16 (ptS r 2) else 0, if kn (uV 255 r) = true then iV (ptS r 3) else 0⟩ := by
  unfold roV
  rw [ptF_has]
  cases kn (uV 255 r) <;> rfl
theorem pt_back {r : RS} {j : Nat} (h : (ptS r (j + 1)).e = 0) : (ptS r j).e = 0 ∧ (ptS r j).s = (if hasE (uV 255 r) j = true then Num.lebS (uV 16 (ptS r j)) else ⟨#[]⟩) ++ (ptS r (j + 1)).s := by
  have e1 : ptS r (j + 1) = if hasE (uV 255 r) j = true then uS 16 (ptS r j) else ptS r j := rfl
  rw [e1] at h ⊢
  cases hh : hasE (uV 255 r) j with
  | true =>
    rw [hh, if_pos rfl] at h
    simp only [if_true]
    exact u_back h
  | false =>
    rw [hh, if_neg (by decide)] at h
    simp only [Bool.false_eq_true, if_false]
    rw [nil_app]
    exact ⟨h, rfl⟩
theorem u16 (r : RS) : 0 ≤ uV 16 r ∧ uV 16 r ≤ 16 := uV_range (by omega)
theorem read_back {r : RS} (h : roB r = true) : r.e = 0 ∧ (roS r).e = 0 ∧ r.s = opS (roV r) ++ (roS r).s ∧ formB (roV r) = true ∧ OkO (roV r) := by
  unfold roB at h
  simp only [Bool.and_eq_true, beq_iff_eq] at h
  obtain ⟨hk, he⟩ := h
  have hV := roV_has r
  have h3 : (ptS r 3).e = 0 ∧ (ptS r 3).s = lastS (roV r) ++ (roS r).s := by
    have e1 : lastS (roV r) = if kn (uV 255 r) = true then intS (iV (ptS r 3)) else ⟨#[]⟩ := by
      rw [hV]
      unfold lastS
      cases kn (uV 255 r) <;> rfl
    rw [e1]
    unfold roS at he ⊢
    cases hn : kn (uV 255 r) with
    | true =>
      rw [hn, if_pos rfl] at he
      simp only [if_true]
      exact i_back he
    | false =>
      rw [hn, if_neg (by decide)] at he
      simp only [Bool.false_eq_true, if_false]
      rw [nil_app]
      exact ⟨he, rfl⟩
  obtain ⟨g3, s3⟩ := h3
  obtain ⟨g2, s2⟩ := pt_back g3
  obtain ⟨g1, s1⟩ := pt_back g2
  obtain ⟨g0, s0⟩ := pt_back g1
  obtain ⟨g, s⟩ := u_back (most := 255) (r := r) g0
  have p0 : partS (roV r) 0 = if hasE (uV 255 r) 0 = true then Num.lebS (uV 16 (ptS r 0)) else ⟨#[]⟩ := by
    rw [hV]
    show (if kd (uV 255 r) = true then Num.lebS (if kd (uV 255 r) = true then uV 16 (ptS r 0) else 0) else _) = (if kd (uV 255 r) = true then _ else _)
    cases kd (uV 255 r) <;> rfl
  have p1 : partS (roV r) 1 = if hasE (uV 255 r) 1 = true then Num.lebS (uV 16 (ptS r 1)) else ⟨#[]⟩ := by
    rw [hV]
    show (if ka (uV 255 r) = true then Num.lebS (if ka (uV 255 r) = true then uV 16 (ptS r 1) else 0) else _) = (if ka (uV 255 r) = true then _ else _)
    cases ka (uV 255 r) <;> rfl
  have p2 : partS (roV r) 2 = if hasE (uV 255 r) 2 = true then Num.lebS (uV 16 (ptS r 2)) else ⟨#[]⟩ := by
    rw [hV]
    show (if kb (uV 255 r) = true then Num.lebS (if kb (uV 255 r) = true then uV 16 (ptS r 2) else 0) else _) = (if kb (uV 255 r) = true then _ else _)
    cases kb (uV 255 r) <;> rfl
  have hkk : (roV r).k = uV 255 r := by rw [hV]
  refine ⟨g, he, ?_, ?_, ?_⟩
  · rw [opS_parts, hkk, p0, p1, p2, ← s3, ← s2, ← s1, ← s0]
    exact s
  · have a0 := u16 (ptS r 0)
    have a1 := u16 (ptS r 1)
    have a2 := u16 (ptS r 2)
    have rg : ∀ {b : Bool} {x : Int}, 0 ≤ x ∧ x ≤ 16 → regB (if b = true then x else 0) = true := by
      intro b x hx
      unfold regB
      cases b <;> simp <;> omega
    rw [hV]
    unfold formB
    simp only
    rw [hk, rg a0, rg a1, rg a2]
    cases kd (uV 255 r) <;> cases ka (uV 255 r) <;> cases kb (uV 255 r) <;> cases kn (uV 255 r) <;> rfl
  · have a := uV_range (most := 255) (r := r) (by omega)
    have a0 := u16 (ptS r 0)
    have a1 := u16 (ptS r 1)
    have a2 := u16 (ptS r 2)
    have ai := iV_I64 (ptS r 3)
    have rg : ∀ {b : Bool} {x : Int}, I64 x → I64 (if b = true then x else 0) := by
      intro b x hx
      cases b
      · exact ⟨by show -9223372036854775808 ≤ (0 : Int); decide, by show (0 : Int) ≤ 9223372036854775807; decide⟩
      · exact hx
    rw [hV]
    exact ⟨⟨a.1, a.2⟩, rg (by unfold I64; omega), rg (by unfold I64; omega), rg (by unfold I64; omega), rg ai⟩
theorem opsL_back : ∀ (n : Nat) (l l' : List OpV) (r r' : RS), opsL n l r = some (l', r') → r'.e = 0 →
    ∃ m, l' = l ++ m ∧ m.length = n ∧ r.e = 0 ∧ r.s = opsS ⟨#[]⟩ m ++ r'.s ∧ (∀ o ∈ m, formB o = true) ∧ ∀ o ∈ m, OkO o := by
  intro n
  induction n with
  | zero =>
    intro l l' r r' h he
    have h' : some (l, r) = some (l', r') := h
    injection h' with h'
    injection h' with e1 e2
    subst e1; subst e2
    exact ⟨[], by simp, rfl, he, by show _ = (⟨#[]⟩ : ByteArray) ++ _; rw [nil_app], by simp, by simp⟩
  | succ n ih =>
    intro l l' r r' h he
    have h' : (if roB r = true then opsL n (l ++ [roV r]) (roS r) else none) = some (l', r') := h
    cases hb : roB r with
    | false => rw [hb] at h'; simp at h'
    | true =>
      rw [hb, if_pos rfl] at h'
      obtain ⟨m, e1, e2, e3, e4, e5, e6⟩ := ih _ _ _ _ h' he
      obtain ⟨b1, b2, b3, b4, b5⟩ := read_back hb
      refine ⟨roV r :: m, by rw [e1]; simp, by simp [e2], b1, ?_, ?_, ?_⟩
      · rw [opsS_cons, b3, e4, ByteArray.append_assoc]
      · intro o ho
        rcases List.mem_cons.1 ho with rfl | ho
        · exact b4
        · exact e5 o ho
      · intro o ho
        rcases List.mem_cons.1 ho with rfl | ho
        · exact b5
        · exact e6 o ho
theorem fun1_back {r r4 : RS} {f : FunV} (h : fun1 r = some (f, r4)) (he : r4.e = 0) : r.e = 0 ∧ r.s = oneS f ++ r4.s ∧ funB f = true ∧ OkF f := by
  unfold fun1 at h
  cases ho : opsL (cV 64 (uS 16 (uS 16 r))).toNat [] (cS 64 (uS 16 (uS 16 r))) with
  | none => rw [ho] at h; cases h
  | some x =>
    obtain ⟨ops, q⟩ := x
    rw [ho] at h
    have h' : some ((⟨uV 16 r, uV 16 (uS 16 r), ops⟩ : FunV), q) = some (f, r4) := h
    injection h' with h'
    injection h' with e1 e2
    subst e1; subst e2
    obtain ⟨m, m1, m2, m3, m4, m5, m6⟩ := opsL_back _ _ _ _ _ ho he
    obtain ⟨c1, c2⟩ := c_back m3
    obtain ⟨b1, b2⟩ := u_back c1
    obtain ⟨a1, a2⟩ := u_back b1
    have hc := cV_range (most := 64) (r := uS 16 (uS 16 r)) (by omega)
    have ha := u16 r
    have hb := u16 (uS 16 r)
    rw [List.nil_append] at m1
    subst m1
    refine ⟨a1, ?_, ?_, ?_⟩
    · rw [a2, b2, c2, m4]
      unfold oneS headS
      simp only
      rw [show ((ops.length : Nat) : Int) = cV 64 (uS 16 (uS 16 r)) from by omega]
      simp only [ByteArray.append_assoc]
    · unfold funB regB
      simp only [Bool.and_eq_true, decide_eq_true_eq, List.all_eq_true]
      exact ⟨⟨⟨ha, hb⟩, by omega⟩, m5⟩
    · exact ⟨by unfold I64; simp only; omega, by unfold I64; simp only; omega, m6⟩
theorem funL_back : ∀ (n : Nat) (l l' : List FunV) (r r' : RS), funL n l r = some (l', r') → r'.e = 0 →
    ∃ m, l' = l ++ m ∧ m.length = n ∧ r.e = 0 ∧ r.s = m.foldl funS ⟨#[]⟩ ++ r'.s ∧ (∀ f ∈ m, funB f = true) ∧ OkP m := by
  intro n
  induction n with
  | zero =>
    intro l l' r r' h he
    have h' : some (l, r) = some (l', r') := h
    injection h' with h'
    injection h' with e1 e2
    subst e1; subst e2
    exact ⟨[], by simp, rfl, he, by show _ = (⟨#[]⟩ : ByteArray) ++ _; rw [nil_app], by simp, fun f hf => by simp at hf⟩
  | succ n ih =>
    intro l l' r r' h he
    have h' : (match fun1 r with | none => none | some (f, r4) => funL n (l ++ [f]) r4) = some (l', r') := h
    cases hb : fun1 r with
    | none => rw [hb] at h'; cases h'
    | some x =>
      obtain ⟨f, r4⟩ := x
      rw [hb] at h'
      obtain ⟨m, e1, e2, e3, e4, e5, e6⟩ := ih _ _ _ _ h' he
      obtain ⟨b1, b2, b3, b4⟩ := fun1_back hb e3
      refine ⟨f :: m, by rw [e1]; simp, by simp [e2], b1, ?_, ?_, ?_⟩
      · rw [funs_cons, b2, e4, ByteArray.append_assoc]
      · intro o ho
        rcases List.mem_cons.1 ho with rfl | ho
        · exact b3
        · exact e5 o ho
      · intro o ho
        rcases List.mem_cons.1 ho with rfl | ho
        · exact b4
        · exact e6 o ho
/-- Bytes that are read are the program's own. -/
theorem dec_back {s : ByteArray} (h : (dec s).2 = 0) : mayB (dec s).1 = true ∧ OkP (dec s).1 ∧ encC (dec s).1 = 0 ∧ encV (dec s).1 = s := by
  have key : ∃ m, dec s = (m, 0) ∧ mayB m = true ∧ OkP m ∧ progS m = s ∧ s.size ≤ 16384 := by
    generalize hd : dec s = d at h
    unfold dec at hd
    by_cases h1 : 16384 < s.size
    · rw [if_pos h1] at hd; subst hd; simp at h
    · rw [if_neg h1] at hd
      by_cases h2 : (uS 18446744073709551615 ⟨s, 0⟩).e ≠ 0
      · rw [if_pos h2] at hd; subst hd; simp at h
      · rw [if_neg h2] at hd
        by_cases h3 : uV 18446744073709551615 ⟨s, 0⟩ ≠ 1
        · rw [if_pos h3] at hd; subst hd; simp at h
        · rw [if_neg h3] at hd
          have h2' : (uS 18446744073709551615 ⟨s, 0⟩).e = 0 := Decidable.not_not.1 h2
          have h3' : uV 18446744073709551615 ⟨s, 0⟩ = 1 := Decidable.not_not.1 h3
          obtain ⟨_, a2⟩ := u_back h2'
          rw [h3'] at a2
          generalize uS 18446744073709551615 ⟨s, 0⟩ = r0 at *
          have hc := cV_range (most := 16) (r := r0) (by omega)
          cases hf : funL (cV 16 r0).toNat [] (cS 16 r0) with
          | none => rw [hf] at hd; subst hd; simp at h
          | some x =>
            obtain ⟨fs, r⟩ := x
            rw [hf] at hd
            have hd' : (if endE r.s r.e ≠ 0 then (([] : List FunV), (8 : Int)) else (fs, 0)) = d := hd
            by_cases h4 : endE r.s r.e ≠ 0
            · rw [if_pos h4] at hd'; subst hd'; simp at h
            · rw [if_neg h4] at hd'
              subst hd'
              have h4' : endE r.s r.e = 0 := Decidable.not_not.1 h4
              have h5 : r.e = 0 ∧ r.s.size = 0 := by
                unfold endE at h4'
                by_cases h6 : r.e = 0 ∧ r.s.size ≠ 0
                · rw [if_pos h6] at h4'; omega
                · rw [if_neg h6] at h4'; exact ⟨h4', by rcases Nat.eq_zero_or_pos r.s.size with h | h; exact h; exact absurd ⟨h4', by omega⟩ h6⟩
              obtain ⟨m, m1, m2, m3, m4, m5, m6⟩ := funL_back _ _ _ _ _ hf h5.1
              obtain ⟨c1, c2⟩ := c_back m3
              rw [List.nil_append] at m1
              subst m1
              have hs : r.s = ⟨#[]⟩ := by
                apply ByteArray.ext
                apply Array.eq_empty_of_size_eq_zero
                exact h5.2
              refine ⟨fs, rfl, ?_, m6, ?_, by omega⟩
              · unfold mayB
                simp only [Bool.and_eq_true, decide_eq_true_eq, List.all_eq_true]
                exact ⟨by omega, m5⟩
              · have a2' : s = Num.lebS 1 ++ r0.s := a2
                rw [a2', c2, m4, hs, app_nil']
                unfold progS startS
                rw [funs_app, show ((fs.length : Nat) : Int) = cV 16 r0 from by omega, ByteArray.append_assoc]
  obtain ⟨m, e, h1, h2, h3, h4⟩ := key
  rw [e]
  refine ⟨h1, h2, ?_, ?_⟩
  · unfold encC
    rw [h1, if_pos rfl, h3, if_neg (by omega)]
  · unfold encV
    rw [h1, if_pos rfl, h3, if_neg (by omega)]
end Cd
end Go.Proofs.YtlahficmkfgooaaGreat


/- Why a program, an input and fuel may not be: the walks of both. No condition. -/
namespace Go.Proofs.YtlahficmkfgooaaGreat
open Go.RowKit Cd Jb
set_option linter.unusedVariables false
set_option linter.unusedSimpArgs false
theorem rdecode_d (s : ByteArray) (W : World) : Calls Tryz.prog 95 #[.string s] W (DecPost W s) :=
  (rdecode_any s W).mono fun e w' ⟨v, l, c, h1, h2, h3, h4, h5⟩ => ⟨v, l, c, h1, by rw [h2, rdec_eq], by rw [h3, rdec_eq], h4, h5⟩
theorem dec_good {s : ByteArray} (h : (dec s).2 = 0) : Lim (dec s).1 ∧ OkP (dec s).1 := by
  obtain ⟨h1, h2, _⟩ := dec_back h
  obtain ⟨h3, h4⟩ := mayB_of h1
  exact ⟨⟨by omega, fun f hf => by have := (funB_of (h4 f hf)).2.2.1; omega⟩, h2⟩
set_option maxRecDepth 100000 in
  set_option maxHeartbeats 2000000 in
  theorem asked_any (p : ByteArray) (q : Option Addr) (m cq : Nat) (fuel : Int) (w : World) : Calls Tryz.prog 50 #[.string p, .slice q m cq, .int .i64 fuel] w fun e w' => e = .returned (.int .i64 (askE p m fuel)) ∧ Below w.heap.size w w' := by
    have HD := Lib.hid (decode_any p w)
    have hE : askE p m fuel = askE p m fuel := rfl
    conv at hE => rhs; unfold askE
    have HE := Lib.hid hE
    clear hE
    obtain ⟨r, hr⟩ : ∃ r, r = askE p m fuel := ⟨_, rfl⟩
    rw [← hr] at HE ⊢
    clear hr
    go_enter Tryz.func50, Tryz.ntmps50
    go_upto_region 2 with (go_at_call 86; go_loud ((with_reducible refine HD.out.mono ?_); rintro e w1 ⟨v, l, c, rfl, hl, hc, hf, hb⟩; obtain ⟨p1, c1, rfl⟩ := hf.slice; obtain ⟨ln, hln⟩ : ∃ ln, ln = l.length := ⟨_, rfl⟩; rw [← hln] at hf ⊢; have HF := Lib.hid (And.intro hl (And.intro hc hf)); have HB := Lib.hid hb; clear hl hc hf hb hln))
    by_cases h0 : c = 0
    · subst h0
      have HG := Lib.hid (dec_good HF.out.2.1.symm)
      have hfun := (HF.out.2.2).alloc (.cells #[.slice p1 ln c1] 133)
      have HI := Lib.hid (cinput_any (q := q) (m := m) (cq := cq) hfun (by have := HG.out.1; rw [HF.out.1]; exact this) (by have := HG.out.2; rw [HF.out.1]; exact this))
      have HA := Lib.hid (HB.out.alloc HB.out.size (.cells #[.slice p1 ln c1] 133))
      clear hfun
      go_upto_region 5 with (go_at_call 87; go_loud ((with_reducible refine HI.out.mono ?_); rintro e w2 ⟨k, rfl, hk, hb⟩; have HK := Lib.hid hk; have HB2 := Lib.hid (HA.out.step hb); clear hk hb))
      by_cases hk : k = 0
      · subst hk
        have HR : Hid (r = if fuel < 0 ∨ 500 < fuel then 2 else 0) := Lib.hid (by rw [HE.out, if_neg (fun e => e HF.out.2.1.symm), ← HF.out.1, ← HK.out, if_neg (fun e => e rfl)])
        by_cases h1 : fuel < 0
        · go_wp2_with fail
          go_ret
          have h9 := HR.out; rw [if_pos (.inl h1)] at h9; subst h9
          exact ⟨rfl, HB2.out⟩
        · by_cases h2 : 500 < fuel
          · go_wp2_with fail
            go_ret
            have h9 := HR.out; rw [if_pos (.inr h2)] at h9; subst h9
            exact ⟨rfl, HB2.out⟩
          · go_wp2_with fail
            go_ret
            have h9 := HR.out; rw [if_neg (by omega)] at h9; subst h9
            exact ⟨rfl, HB2.out⟩
      · have hk' : (k == 0) = false := by simpa using hk
        have hk2 : (k != 0) = true := by simpa using hk
        have HR : Hid (r = k) := Lib.hid (by rw [HE.out, if_neg (fun e => e HF.out.2.1.symm), ← HF.out.1, ← HK.out, if_pos hk])
        clear hk
        go_wp2_with fail
        go_ret
        have h9 := HR.out; subst h9
        exact ⟨rfl, HB2.out⟩
    · have hc' : (c == 0) = false := by simpa using h0
      have hc2 : (c != 0) = true := by simpa using h0
      have HR : Hid (r = c) := Lib.hid (by rw [HE.out, ← HF.out.2.1, if_pos h0])
      have HA := Lib.hid (HB.out.alloc HB.out.size (.cells #[.slice p1 ln c1] 133))
      clear h0
      go_wp2_with fail
      go_ret
      have h9 := HR.out; subst h9
      exact ⟨rfl, HA.out⟩
set_option maxRecDepth 100000 in
      set_option maxHeartbeats 2000000 in
      theorem rasked_any (p : ByteArray) (q : Option Addr) (m cq : Nat) (fuel : Int) (w : World) : Calls Tryz.prog 70 #[.string p, .slice q m cq, .int .i64 fuel] w fun e w' => e = .returned (.int .i64 (askE p m fuel)) ∧ Below w.heap.size w w' := by
        have HD := Lib.hid (rdecode_d p w)
        have hE : askE p m fuel = askE p m fuel := rfl
        conv at hE => rhs; unfold askE
        have HE := Lib.hid hE
        clear hE
        obtain ⟨r, hr⟩ : ∃ r, r = askE p m fuel := ⟨_, rfl⟩
        rw [← hr] at HE ⊢
        clear hr
        go_enter Tryz.func70, Tryz.ntmps70
        go_upto_region 2 with (go_at_call 95; go_loud ((with_reducible refine HD.out.mono ?_); rintro e w1 ⟨v, l, c, rfl, hl, hc, hf, hb⟩; obtain ⟨p1, c1, rfl⟩ := hf.slice; obtain ⟨ln, hln⟩ : ∃ ln, ln = l.length := ⟨_, rfl⟩; rw [← hln] at hf ⊢; have HF := Lib.hid (And.intro hl (And.intro hc hf)); have HB := Lib.hid hb; clear hl hc hf hb hln))
        by_cases h0 : c = 0
        · subst h0
          have HG := Lib.hid (dec_good HF.out.2.1.symm)
          have hfun := (HF.out.2.2).alloc (.cells #[.slice p1 ln c1] 133)
          have HI := Lib.hid (rinput11_any (q := q) (m := m) (cq := cq) hfun (by have := HG.out.1; rw [HF.out.1]; exact this) (by have := HG.out.2; rw [HF.out.1]; exact this))
          have HA := Lib.hid (HB.out.alloc HB.out.size (.cells #[.slice p1 ln c1] 133))
          clear hfun
          go_upto_region 5 with (go_at_call 96; go_loud ((with_reducible refine HI.out.mono ?_); rintro e w2 ⟨k, rfl, hk, hb⟩; have HK := Lib.hid hk; have HB2 := Lib.hid (HA.out.step hb); clear hk hb))
          by_cases hk : k = 0
          · subst hk
            have HR : Hid (r = if fuel < 0 ∨ 500 < fuel then 2 else 0) := Lib.hid (by rw [HE.out, if_neg (fun e => e HF.out.2.1.symm), ← HF.out.1, ← HK.out, if_neg (fun e => e rfl)])
            by_cases h1 : fuel < 0
            · go_wp2_with fail
              go_ret
              have h9 := HR.out; rw [if_pos (.inl h1)] at h9; subst h9
              exact ⟨rfl, HB2.out⟩
            · by_cases h2 : 500 < fuel
              · go_wp2_with fail
                go_ret
                have h9 := HR.out; rw [if_pos (.inr h2)] at h9; subst h9
                exact ⟨rfl, HB2.out⟩
              · go_wp2_with fail
                go_ret
                have h9 := HR.out; rw [if_neg (by omega)] at h9; subst h9
                exact ⟨rfl, HB2.out⟩
          · have hk' : (k == 0) = false := by simpa using hk
            have hk2 : (k != 0) = true := by simpa using hk
            have HR : Hid (r = k) := Lib.hid (by rw [HE.out, if_neg (fun e => e HF.out.2.1.symm), ← HF.out.1, ← HK.out, if_pos hk])
            clear hk
            go_wp2_with fail
            go_ret
            have h9 := HR.out; subst h9
            exact ⟨rfl, HB2.out⟩
        · have hc' : (c == 0) = false := by simpa using h0
          have hc2 : (c != 0) = true := by simpa using h0
          have HR : Hid (r = c) := Lib.hid (by rw [HE.out, ← HF.out.2.1, if_pos h0])
          have HA := Lib.hid (HB.out.alloc HB.out.size (.cells #[.slice p1 ln c1] 133))
          clear h0
          go_wp2_with fail
          go_ret
          have h9 := HR.out; subst h9
          exact ⟨rfl, HA.out⟩
end Go.Proofs.YtlahficmkfgooaaGreat
