import Derived.Test.YtpidhcogaoehhaaMgi

/- The walk of the program's writer of programs: 'Encode'. No condition but that numbers fit their kinds and that rows are not too long. -/
namespace Go.Proofs.Ytpidhcogaoehhaa
open Go.RowKit Cd Wire
set_option linter.unusedVariables false
namespace Cd
def opsS (s : ByteArray) (l : List OpV) : ByteArray := l.foldl (fun s o => s ++ opS o) s
def headS (f : FunV) : ByteArray := Num.lebS f.args ++ Num.lebS f.regs ++ Num.lebS (f.ops.length : Int)
def funS (s : ByteArray) (f : FunV) : ByteArray := opsS (s ++ headS f) f.ops
def startS (fs : List FunV) : ByteArray := Num.lebS 1 ++ Num.lebS (fs.length : Int)
def progS (fs : List FunV) : ByteArray := fs.foldl funS (startS fs)
def encC (fs : List FunV) : Int := if mayB fs = true then (if 16384 < (progS fs).size then 4 else 0) else 2
def encV (fs : List FunV) : ByteArray := if mayB fs = true then (if 16384 < (progS fs).size then ⟨#[]⟩ else progS fs) else ⟨#[]⟩
theorem opsS_take {s : ByteArray} {l : List OpV} {i : Nat} (h : i < l.length) : opsS s (l.take (i + 1)) = opsS s (l.take i) ++ opS l[i] := by
  unfold opsS; rw [List.take_succ_eq_append_getElem h, List.foldl_append]; rfl
theorem funS_take {s : ByteArray} {l : List FunV} {i : Nat} (h : i < l.length) : (l.take (i + 1)).foldl funS s = funS ((l.take i).foldl funS s) l[i] := by
  rw [List.take_succ_eq_append_getElem h, List.foldl_append]; rfl
theorem opsS_size {l : List OpV} (ho : ∀ o ∈ l, OkO o) (hf : ∀ o ∈ l, formB o = true) : ∀ s : ByteArray, (opsS s l).size ≤ s.size + 50 * l.length := by
  induction l with
  | nil => intro s; simp [opsS]
  | cons x l ih =>
    intro s
    have h1 := ih (fun o h => ho o (List.mem_cons_of_mem _ h)) (fun o h => hf o (List.mem_cons_of_mem _ h)) (s ++ opS x)
    have h2 := opS_size (ho x List.mem_cons_self) (hf x List.mem_cons_self)
    rw [app_size] at h1
    show (opsS (s ++ opS x) l).size ≤ _
    rw [List.length_cons]; omega
theorem funB_of {f : FunV} (h : funB f = true) : (0 ≤ f.args ∧ f.args ≤ 16) ∧ (0 ≤ f.regs ∧ f.regs ≤ 16) ∧ f.ops.length ≤ 64 ∧ ∀ o ∈ f.ops, formB o = true := by
  unfold funB regB at h
  simp only [Bool.and_eq_true, decide_eq_true_eq, List.all_eq_true] at h
  exact ⟨h.1.1.1, h.1.1.2, h.1.2, h.2⟩
theorem mayB_of {fs : List FunV} (h : mayB fs = true) : fs.length ≤ 16 ∧ ∀ f ∈ fs, funB f = true := by
  unfold mayB at h
  simpa only [Bool.and_eq_true, decide_eq_true_eq, List.all_eq_true] using h
theorem head_size {f : FunV} (h : funB f = true) : (headS f).size ≤ 30 := by
  obtain ⟨h1, h2, h3, _⟩ := funB_of h
  have a := lebS_size (x := f.args) (by omega)
  have b := lebS_size (x := f.regs) (by omega)
  have c := lebS_size (x := (f.ops.length : Int)) (by omega)
  unfold headS; rw [app_size, app_size]; omega
theorem funS_size {f : FunV} (hf : OkF f) (h : funB f = true) (s : ByteArray) : (funS s f).size ≤ s.size + 3230 := by
  have h1 := opsS_size hf.2.2 (funB_of h).2.2.2 (s ++ headS f)
  have h2 := head_size h
  have h3 := (funB_of h).2.2.1
  unfold funS
  rw [app_size] at h1
  omega
theorem funs_size {l : List FunV} (ho : OkP l) (hf : ∀ f ∈ l, funB f = true) : ∀ s : ByteArray, (l.foldl funS s).size ≤ s.size + 3230 * l.length := by
  induction l with
  | nil => intro s; simp
  | cons x l ih =>
    intro s
    have h1 := ih (fun o h => ho o (List.mem_cons_of_mem _ h)) (fun o h => hf o (List.mem_cons_of_mem _ h)) (funS s x)
    have h2 := funS_size (ho x List.mem_cons_self) (hf x List.mem_cons_self) s
    show (l.foldl funS (funS s x)).size ≤ _
    rw [List.length_cons]; omega
end Cd
def ERel (W : World) (fs : List FunV) (s u : Value) (wr : World) : Prop := ∃ i : Nat, i ≤ fs.length ∧ u = .int .i64 i ∧ s = .string ((fs.take i).foldl funS (startS fs)) ∧ Below W.heap.size W wr
def ORel (W : World) (s0 : ByteArray) (l : List OpV) (s u : Value) (wr : World) : Prop := ∃ i : Nat, i ≤ l.length ∧ u = .int .i64 i ∧ s = .string (opsS s0 (l.take i)) ∧ Below W.heap.size W wr
theorem wrap_u {x : Int} (h : 0 ≤ x) (h2 : x ≤ 1000000) : IntKind.u64.wrap x = x := by rw [IntKind.wrap_u64]; omega
set_option maxRecDepth 100000 in
set_option maxHeartbeats 4000000 in
theorem encode_go {fs : List FunV} {W : World} {v : Value} (hv : FunsAt W v fs) (hn : Lim fs) (ho : OkP fs) :
    Calls Try.prog 14 #[.agg #[v]] W fun e w' => ∃ s c, e = .returned (.tuple #[.string s, .int .i64 c]) ∧ s = encV fs ∧ c = encC fs ∧ Below W.heap.size W w' := by
  have HM := Lib.hid (may_any (hv.alloc (.cells #[v] 24)) hn ho)
  have HB := Lib.hid ((Below.refl _ W).alloc (Nat.le_refl _) (.cells #[v] 24))
  have HV := Lib.hid hv
  have HT := Lib.hid (Blk.new W 24 #[v])
  have hlen := hn.1
  have HOK := Lib.hid ho
  obtain ⟨p, cap, rfl⟩ := hv.slice
  clear ho hn hv
  cases hm : mayB fs with
  | false =>
    rw [hm] at HM
    have e1 : encV fs = ⟨#[]⟩ := by unfold encV; rw [hm]; rfl
    have e2 : encC fs = 2 := by unfold encC; rw [hm]; rfl
    rw [e1, e2]
    clear hm e1 e2
    go_enter Try.func14, Try.ntmps14
    go_wp2_with (go_at_call 23; ((with_reducible refine HM.out.mono ?_); rintro e w1 ⟨rfl, b1⟩))
    go_ret2
    exact ⟨_, _, rfl, rfl, rfl, HB.out.step b1⟩
  | true =>
    rw [hm] at HM
    obtain ⟨hl16, hfun⟩ := mayB_of hm
    have HF := Lib.hid hfun
    have HU := Lib.hid (show U64 (1 : Int) by unfold U64; omega)
    have HU2 := Lib.hid (show U64 (fs.length : Int) by unfold U64; omega)
    have ew : IntKind.u64.wrap (fs.length : Int) = fs.length := wrap_u (by omega) (by omega)
    have e1 : encV fs = if 16384 < (progS fs).size then ⟨#[]⟩ else progS fs := by unfold encV; rw [hm]; rfl
    have e2 : encC fs = if 16384 < (progS fs).size then 4 else 0 := by unfold encC; rw [hm]; rfl
    have E1 := Lib.hid e1
    have E2 := Lib.hid e2
    have hst : (startS fs).size ≤ 20 := by
      have := lebS_size (x := (1 : Int)) (by omega)
      have := lebS_size (x := (fs.length : Int)) (by omega)
      unfold startS; rw [app_size]; omega
    have HST := Lib.hid hst
    clear hfun e1 e2 hm hst
    go_enter Try.func14, Try.ntmps14
    go_wp2_with (first | (go_at_call 23; ((with_reducible refine HM.out.mono ?_); rintro e w1 ⟨rfl, b1⟩; have HB1 := Lib.hid (HB.out.step b1); have x0 : w1.cell? ⟨W.heap.size, 0, none⟩ = some (.slice p fs.length cap) := (HT.out.below b1).cell 0; have HT1 := Lib.hid (HT.out.below b1); have hlt := HT1.out.lt; clear b1)) | (go_at_call 24; ((with_reducible refine (uints2_any HU.out HU2.out (Blk.new _ _ _)).mono ?_); rintro e w2 ⟨rfl, b2⟩; have HB2 := Lib.hid ((HB1.out.alloc HB1.out.size (.cells #[.int .u64 1, .int .u64 fs.length] 60)).step b2); have y0 : w2.cell? ⟨W.heap.size, 0, none⟩ = some (.slice p fs.length cap) := ((HT1.out.alloc (.cells #[.int .u64 1, .int .u64 fs.length] 60)).below b2).cell 0; clear b2 x0 hlt)))
    have hr0 : ERel W fs (.string (Num.lebS 1 ++ Num.lebS (fs.length : Int))) (.int .i64 0) w2 := ⟨0, by omega, rfl, rfl, HB2.out⟩
    clear HM HB HT HT1 HB1 HB2 y0 HU HU2 ew
    go_loopw [4, 21] (fun s u wr => ERel W fs s u wr) (fun s u _ => ((fs.length : Int) - intOf u).toNat)
    case atStart => exact hr0
    case round =>
      obtain ⟨i, hi1, rfl, rfl, hb⟩ := hrel
      clear hr0
      by_cases hi : i < fs.length
      · obtain ⟨p', cap', e, hx⟩ := HV.out
        injection e with e3 e4 e5
        subst e3 e5
        obtain ⟨g, off, rfl, hg, hx⟩ := hx (by omega)
        obtain ⟨x0, x1, vo, x2, hvo⟩ := hx i hi
        rw [← hb.cell (p := ⟨g, _, none⟩) hg] at x0 x1 x2
        obtain ⟨p2, cap2, rfl⟩ := hvo.slice
        have hmem := List.getElem_mem hi
        have hfu := HF.out _ hmem
        have hok := HOK.out _ hmem
        obtain ⟨ha, hr, hl64, hform⟩ := funB_of hfu
        have hsz := funs_size (l := fs.take i) (fun f h => HOK.out f (List.mem_of_mem_take h)) (fun f h => HF.out f (List.mem_of_mem_take h)) (startS fs)
        rw [List.length_take] at hsz
        have hst := HST.out
        have hhd := head_size hfu
        have htk : (fs.take (i + 1)).foldl funS (startS fs) = opsS ((fs.take i).foldl funS (startS fs) ++ headS fs[i]) fs[i].ops := funS_take (s := startS fs) hi
        have HVO := Lib.hid hvo
        have HB := Lib.hid hb
        have ew1 := wrap_u ha.1 (by omega)
        have ew2 := wrap_u hr.1 (by omega)
        have ew3 := wrap_u (x := (fs[i].ops.length : Int)) (by omega) (by omega)
        have HA := Lib.hid (show U64 fs[i].args ∧ U64 fs[i].regs ∧ U64 (fs[i].ops.length : Int) by unfold U64; omega)
        have HA3 := Lib.hid (fun (w : World) (g : Nat) (T : TypeId) (hb : Blk w g T #[.int .u64 fs[i].args, .int .u64 fs[i].regs, .int .u64 fs[i].ops.length]) => uints3_any HA.out.1 HA.out.2.1 HA.out.2.2 hb)
        clear HA
        have HFO := Lib.hid hform
        have HOO := Lib.hid hok.2.2
        have htk2 := Lib.hid htk
        have hh : headS fs[i] = Num.lebS fs[i].args ++ Num.lebS fs[i].regs ++ Num.lebS (fs[i].ops.length : Int) := rfl
        clear hx hb hvo hform hok hfu hmem htk
        generalize (fs.take i).foldl funS (startS fs) = si at *
        rw [hh] at hhd
        rw [hh] at htk2
        clear hh
        generalize fs[i] = f at *
        generalize Num.lebS f.args ++ Num.lebS f.regs ++ Num.lebS (f.ops.length : Int) = hd at *
        go_wp2_with (go_at_call 24; ((with_reducible refine (HA3.out _ _ _ (Blk.new2 _ _ _ _)).mono ?_); rintro e w3 ⟨rfl, b3⟩; have HB3 := Lib.hid (((HB.out.alloc HB.out.size (.cells #[.int .i64 f.args, .int .i64 f.regs, .slice p2 f.ops.length cap2] 47)).alloc (by have := HB.out.size; simp; omega) (.cells #[.int .u64 f.args, .int .u64 f.regs, .int .u64 f.ops.length] 60)).step b3); have z2 : w3.cell? ⟨wr.heap.size, 2, none⟩ = some (.slice p2 f.ops.length cap2) := (((Blk.new wr 47 #[.int .i64 f.args, .int .i64 f.regs, .slice p2 f.ops.length cap2]).alloc (.cells #[.int .u64 f.args, .int .u64 f.regs, .int .u64 f.ops.length] 60)).below b3).cell 2; clear b3))
        have hr0 : ORel W (si ++ hd) f.ops (.string (si ++ hd)) (.int .i64 0) w3 := ⟨0, by omega, rfl, rfl, HB3.out⟩
        clear HB3 z2 x0 x1 x2 ew1 ew2 ew3 HA3
        go_loopw [4, 42] (fun s u wq => ORel W (si ++ hd) f.ops s u wq) (fun s u _ => ((f.ops.length : Int) - intOf u).toNat)
        case atStart => exact hr0
        case round =>
          obtain ⟨j, hj1, rfl, rfl, hb2⟩ := hrel
          clear hr0
          by_cases hj : j < f.ops.length
          · obtain ⟨p3, cap3, e3, hx⟩ := HVO.out
            injection e3 with e3 e4 e5
            subst e3 e5
            obtain ⟨g2, off2, rfl, hg2, hx⟩ := hx (by omega)
            have x0 := hx j hj 0 (by omega)
            have x1 := hx j hj 1 (by omega)
            have x2 := hx j hj 2 (by omega)
            have x3 := hx j hj 3 (by omega)
            have x4 := hx j hj 4 (by omega)
            rw [← hb2.cell (p := ⟨g2, _, none⟩) hg2] at x0 x1 x2 x3 x4
            have hmem := List.getElem_mem hj
            have HW := Lib.hid (fun w => written_any f.ops[j] (HOO.out _ hmem) (HFO.out _ hmem) w)
            have hzo := opS_size (HOO.out _ hmem) (HFO.out _ hmem)
            have hsz2 := opsS_size (l := f.ops.take j) (fun o h => HOO.out o (List.mem_of_mem_take h)) (fun o h => HFO.out o (List.mem_of_mem_take h)) (si ++ hd)
            rw [List.length_take, app_size] at hsz2
            have htj := Lib.hid (opsS_take (s := si ++ hd) hj)
            have HB2 := Lib.hid hb2
            clear hx hb2 hmem
            generalize opsS (si ++ hd) (f.ops.take j) = sj at *
            generalize f.ops[j] = o at *
            generalize opS o = os at *
            obtain ⟨ok, od, oa, ob, on⟩ := o
            simp only [opA] at x0 x1 x2 x3 x4 HW
            simp at x0 x1 x2 x3 x4
            go_wp2_with (go_at_call 25; ((with_reducible refine (HW.out _).mono ?_); rintro e w4 ⟨rfl, b4⟩; have HB4 := Lib.hid ((HB2.out.alloc HB2.out.size (.cells #[.int .u8 ok, .int .i64 od, .int .i64 oa, .int .i64 ob, .int .i64 on] 50)).step b4); clear b4))
            go_roundw
            case rel => exact ⟨j + 1, by omega, rfl, congrArg Value.string htj.out.symm, HB4.out⟩
            case measure => simp [intOf]; omega
          · have : j = f.ops.length := by omega
            subst this
            have HB2 := Lib.hid hb2
            clear hb2 HVO HB
            go_wp2
            go_roundw
            case rel => exact ⟨i + 1, by omega, rfl, congrArg Value.string (by rw [htk2.out, List.take_length]), HB2.out⟩
            case measure => simp [intOf]; omega
      · have : i = fs.length := by omega
        subst this
        rw [List.take_length]
        clear HV HOK HF HST
        have HB := Lib.hid hb
        clear hb
        have hps : fs.foldl funS (startS fs) = progS fs := rfl
        rw [hps]
        have E1 := E1.out
        have E2 := E2.out
        by_cases hbig : 16384 < (progS fs).size
        · rw [if_pos hbig] at E1 E2
          have EE := Lib.hid (And.intro E1 E2)
          clear E1 E2
          generalize progS fs = ps at *
          have hbig' : (16384 : Int) < (ps.size : Int) := by omega
          go_wp2
          go_ret2
          exact ⟨_, _, rfl, EE.out.1.symm, EE.out.2.symm, HB.out⟩
        · rw [if_neg hbig] at E1 E2
          have EE := Lib.hid (And.intro E1 E2)
          clear E1 E2
          generalize progS fs = ps at *
          have hbig' : (ps.size : Int) ≤ (16384 : Int) := by omega
          go_wp2
          go_ret2
          exact ⟨_, _, rfl, EE.out.1.symm, EE.out.2.symm, HB.out⟩
end Go.Proofs.Ytpidhcogaoehhaa
