
/- The walk of the document's reader of an op: 'readOp'. No condition. -/
import Derived.Test.YtbpakckiglgjfaaCodeX
import Derived.Test.YtbpakckiglgjfaaCodeO
import Derived.Test.YtbpakckiglgjfaaWireS
namespace Go.Proofs.Ytbpakckiglgjfaa
open Go.RowKit Cd Wire
set_option linter.unusedVariables false
namespace Cd
def q0 (r : RS) : RS := if uV 14 r = 0 then ⟨(uS 14 r).s, 8⟩ else uS 14 r
def qS (r : RS) : Nat → RS
  | 0 => q0 r
  | j + 1 => if hasE (uV 14 r) j = true then uS 16 (qS r j) else qS r j
def qF (r : RS) : Nat → OpV
  | 0 => ⟨uV 14 r, 0, 0, 0, 0⟩
  | j + 1 => if hasE (uV 14 r) j = true then setE (qF r j) j (uV 16 (qS r j)) else qF r j
def qoS (r : RS) : RS := if kn (uV 14 r) = true then iS (qS r 3) else qS r 3
def qoV (r : RS) : OpV := if kn (uV 14 r) = true then { qF r 3 with n := iV (qS r 3) } else qF r 3
end Cd
theorem ruint_st {b : Nat} {r : RS} {w : World} (h : RR w b r.s r.e) (most : Int) : Calls Try.prog 38 #[.pointer (some ⟨b, 0, none⟩), .int .u64 most] w (RNumPost b w (uV most r) (uS most r).s (uS most r).e) := ruintm_any h most
theorem rcount_st {b : Nat} {r : RS} {w : World} (h : RR w b r.s r.e) (most : Int) (hm : I64 most) : Calls Try.prog 39 #[.pointer (some ⟨b, 0, none⟩), .int .i64 most] w (RIntPost b w (cV most r) (cS most r).s (cS most r).e) := rcount_any h most hm
theorem rint_st {b : Nat} {r : RS} {w : World} (h : RR w b r.s r.e) : Calls Try.prog 65 #[.pointer (some ⟨b, 0, none⟩), .int .i64 (-9223372036854775808), .int .i64 9223372036854775807] w (RIntPost b w (iV r) (iS r).s (iS r).e) := rintm_any h _ _
/-- Behind j parts: the op in block f, the result's block t, the reader in block b. -/
structure RqW (w : World) (b t f : Nat) (o : OpV) (s : RS) (wr : World) : Prop where
  o : Blk wr f 43 (opA o)
  t : Blk wr t 43 #[.int .u8 0, .int .i64 0, .int .i64 0, .int .i64 0, .int .i64 0]
  p : RR wr b s.s s.e
  only : Only (· = b) w wr
theorem RqW.put {w : World} {b t f : Nat} {o : OpV} {s s' : RS} {wr w9 : World} (h : RqW w b t f o s wr) (hbt : b < w.heap.size) (ht : w.heap.size ≤ t) (hf : t < f) (hp : RR w9 b s'.s s'.e) (ho : Only (· = b) wr w9) {o' : OpV} {k : Nat} {v : Value} (he : (opA o).setIfInBounds k v = opA o') :
    RqW w b t f o' s' (w9.setCell ⟨f, k, none⟩ v) :=
  ⟨by rw [← he]; exact (h.o.only ho (by omega)).set k v, (h.t.only ho (by omega)).set_ne _ (by show t ≠ f; omega), ⟨hp.blk.set_ne _ (by show b ≠ f; omega), hp.sz⟩, (h.only.trans ho).setCell (Or.inr (by show w.heap.size ≤ f; omega)) _⟩
def RoPost (w : World) (b : Nat) (r : RS) (e : Ending) (w' : World) : Prop := ∃ ok od oa ob on, e = .returned (.agg #[.int .u8 ok, .int .i64 od, .int .i64 oa, .int .i64 ob, .int .i64 on]) ∧ OpV.mk ok od oa ob on = qoV r ∧ RR w' b (qoS r).s (qoS r).e ∧ Only (· = b) w w'
set_option maxRecDepth 100000 in
set_option maxHeartbeats 8000000 in
theorem readop_any {b : Nat} {r : RS} {w : World} (h : RR w b r.s r.e) : Calls Try.prog 40 #[.pointer (some ⟨b, 0, none⟩)] w (RoPost w b r) := by
  have hbt : b < w.heap.size := h.blk.lt
  have HU := Lib.hid (ruint_st (r := r) (h.alloc (.cells #[.int .u8 0, .int .i64 0, .int .i64 0, .int .i64 0, .int .i64 0] 43)) 14)
  have hr := uV_range (most := 14) (r := r) (by omega)
  have HT := Lib.hid (Blk.new w 43 #[.int .u8 0, .int .i64 0, .int .i64 0, .int .i64 0, .int .i64 0])
  have HO := Lib.hid ((Only.refl (· = b) w).alloc (.cells #[.int .u8 0, .int .i64 0, .int .i64 0, .int .i64 0, .int .i64 0] 43))
  have hq0 : q0 r = if uV 14 r = 0 then ⟨(uS 14 r).s, 8⟩ else uS 14 r := rfl
  have hq1 : qS r 0 = q0 r := rfl
  have hq2 : qF r 0 = ⟨uV 14 r, 0, 0, 0, 0⟩ := rfl
  clear h
  generalize hK : uV 14 r = K at HU hr hq0 hq2
  have ew : IntKind.u8.wrap K = K := by rw [IntKind.wrap_u8]; omega
  have HK8 := Lib.hid (show U8 K by unfold U8; omega)
  have HK := Lib.hid hK
  clear hr hK
  go_enter Try.func40, Try.ntmps40
  go_upto_if 14 with (go_at_call 38; ((with_reducible refine HU.out.mono ?_); rintro e w1 ⟨rfl, hP, hO⟩; have HT1 := Lib.hid (HT.out.only hO (by omega)); have HP1 := Lib.hid hP; have HO1 := Lib.hid (HO.out.trans hO); clear hP hO))
  have hwf : w.heap.size < w1.heap.size := by have := HT1.out.lt; omega
  have HF := Lib.hid (Blk.new w1 43 #[.int .u8 K, .int .i64 0, .int .i64 0, .int .i64 0, .int .i64 0])
  have HT2 := Lib.hid (HT1.out.alloc (.cells #[.int .u8 K, .int .i64 0, .int .i64 0, .int .i64 0, .int .i64 0] 43))
  have HP2 := Lib.hid (HP1.out.alloc (.cells #[.int .u8 K, .int .i64 0, .int .i64 0, .int .i64 0, .int .i64 0] 43))
  have HO2 := Lib.hid (HO1.out.alloc (.cells #[.int .u8 K, .int .i64 0, .int .i64 0, .int .i64 0, .int .i64 0] 43))
  clear HU HT HO HT1 HP1 HO1 ew
  generalize w1.alloc (.cells #[.int .u8 K, .int .i64 0, .int .i64 0, .int .i64 0, .int .i64 0] 43) = w2 at *
  generalize w1.heap.size = f at *
  obtain ⟨t, ht⟩ : ∃ t, w.heap.size = t := ⟨_, rfl⟩
  have htl : w.heap.size ≤ t := by omega
  have hft : t < f := by omega
  go_cut [] (fun wc => RqW w b t f (qF r 0) (qS r 0) wc)
  case first =>
    have e0 : w2.cell? ⟨f, 0, none⟩ = some (.int .u8 K) := HF.out.cell 0
    by_cases h0 : K = 0
    · as_aux_lemma =>
      rw [if_pos h0] at hq0
      subst h0
      have HQ := Lib.hid (And.intro hq0 (And.intro hq1 hq2))
      clear hq0 hq1 hq2
      have r1 := HP2.out.c1
      have rf := HP2.out.frozen
      go_wp2_with fail
      all_goals go_meet
      all_goals exact ⟨by rw [HQ.out.2.2]; exact HF.out.set_ne _ (by show f ≠ b; omega), by rw [← ht] at *; exact HT2.out.set_ne _ (by show w.heap.size ≠ b; omega), by rw [HQ.out.2.1, HQ.out.1]; exact HP2.out.setE 8, HO2.out.set1⟩
    · as_aux_lemma =>
      rw [if_neg h0] at hq0
      have h0' : (K == 0) = false := by simpa using h0
      have HQ := Lib.hid (And.intro hq0 (And.intro hq1 hq2))
      clear hq0 hq1 hq2 h0
      go_wp2_with fail
      all_goals go_meet
      all_goals exact ⟨by rw [HQ.out.2.2]; exact HF.out, by rw [← ht]; exact HT2.out, by rw [HQ.out.2.1, HQ.out.1]; exact HP2.out, HO2.out⟩
  case rest =>
    have HR := Lib.hid hcut
    have eq0 : (opA (qF r 0)) = #[.int .u8 K, .int .i64 0, .int .i64 0, .int .i64 0, .int .i64 0] := by rw [hq2]; rfl
    have e0 : wc.cell? ⟨f, 0, none⟩ = some (.int .u8 K) := by rw [hcut.o.cell, eq0]; rfl
    clear hcut hq0 hq1 hq2 HF HT2 HP2 HO2 eq0
    have HH := Lib.hid (fun w => rhas_any K HK8.out w)
    unfold HasT at HH
    generalize hd : kd K = fd at *
    generalize ha : ka K = fa at *
    generalize hb : kb K = fb at *
    generalize hn : kn K = fn at *
    have HD := Lib.hid hd
    have HA := Lib.hid ha
    have HBB := Lib.hid hb
    have HN := Lib.hid hn
    clear hd ha hb hn
    go_upto_if 26 with (go_at_call 57; ((with_reducible refine (HH.out _).mono ?_); rintro e w' ⟨rfl, rfl⟩))
    go_cut [] (fun wc => RqW w b t f (qF r 1) (qS r 1) wc)
    case first =>
      clear e0 HH HA HBB HN
      cases fd with
      | true => as_aux_lemma =>
        have hh : hasE (uV 14 r) 0 = true := by rw [HK.out]; exact HD.out
        have e1 : qS r (0 + 1) = uS 16 (qS r 0) := by show (if hasE (uV 14 r) 0 = true then _ else _) = _; rw [if_pos hh]
        have e2 : qF r (0 + 1) = setE (qF r 0) 0 (uV 16 (qS r 0)) := by show (if hasE (uV 14 r) 0 = true then _ else _) = _; rw [if_pos hh]
        have hset := opA_setE (qF r 0) (j := 0) (by decide) (uV 16 (qS r 0))
        rw [← e2] at hset
        have HSET := Lib.hid hset
        have hX := uV_range (most := 16) (r := qS r 0) (by omega)
        have HU := Lib.hid (ruint_st (r := qS r 0) HR.out.p 16)
        rw [← e1] at HU
        obtain ⟨z, hz⟩ : ∃ z, (opA (qF r 0))[0 + 1]? = some z := ⟨_, Array.getElem?_eq_getElem (show 0 + 1 < (opA (qF r 0)).size from by simp [opA])⟩
        have HZ := Lib.hid hz
        clear hh e1 e2 hset hz
        generalize uV 16 (qS r 0) = x at *
        have ew : IntKind.i64.wrap x = x := by rw [IntKind.wrap_i64]; omega
        go_wp2_with (go_at_call 38; ((with_reducible refine HU.out.mono ?_); rintro e w9 ⟨rfl, hP9, hO9⟩; have hT9 := HR.out.o.only hO9 (by omega); have q2 : w9.cell? ⟨f, 0 + 1, none⟩ = some z := (by rw [hT9.cell]; exact HZ.out); have qf : ∀ o, w9.frozen? ⟨f, o, none⟩ = false := hT9.frozen; have HP9 := Lib.hid hP9; have HO9 := Lib.hid hO9; clear hP9 hO9 hT9))
        all_goals go_meet
        all_goals exact HR.out.put hbt htl hft HP9.out HO9.out HSET.out
      | false => as_aux_lemma =>
        have hh : hasE (uV 14 r) 0 = false := by rw [HK.out]; exact HD.out
        have e1 : qS r (0 + 1) = qS r 0 := by show (if hasE (uV 14 r) 0 = true then _ else _) = _; rw [hh]; rfl
        have e2 : qF r (0 + 1) = qF r 0 := by show (if hasE (uV 14 r) 0 = true then _ else _) = _; rw [hh]; rfl
        have EE := Lib.hid (And.intro e1 e2)
        clear hh e1 e2
        go_wp2_with fail
        all_goals go_meet
        all_goals (rw [EE.out.1, EE.out.2]; exact HR.out)
    case rest =>
      have HR := Lib.hid hcut
      clear hcut e0 HH
      go_upto_if 31 with fail
      go_cut [] (fun wc => RqW w b t f (qF r 2) (qS r 2) wc)
      case first =>
        clear HD HBB HN
        cases fa with
        | true => as_aux_lemma =>
          have hh : hasE (uV 14 r) 1 = true := by rw [HK.out]; exact HA.out
          have e1 : qS r (1 + 1) = uS 16 (qS r 1) := by show (if hasE (uV 14 r) 1 = true then _ else _) = _; rw [if_pos hh]
          have e2 : qF r (1 + 1) = setE (qF r 1) 1 (uV 16 (qS r 1)) := by show (if hasE (uV 14 r) 1 = true then _ else _) = _; rw [if_pos hh]
          have hset := opA_setE (qF r 1) (j := 1) (by decide) (uV 16 (qS r 1))
          rw [← e2] at hset
          have HSET := Lib.hid hset
          have hX := uV_range (most := 16) (r := qS r 1) (by omega)
          have HU := Lib.hid (ruint_st (r := qS r 1) HR.out.p 16)
          rw [← e1] at HU
          obtain ⟨z, hz⟩ : ∃ z, (opA (qF r 1))[1 + 1]? = some z := ⟨_, Array.getElem?_eq_getElem (show 1 + 1 < (opA (qF r 1)).size from by simp [opA])⟩
          have HZ := Lib.hid hz
          clear hh e1 e2 hset hz
          generalize uV 16 (qS r 1) = x at *
          have ew : IntKind.i64.wrap x = x := by rw [IntKind.wrap_i64]; omega
          go_wp2_with (go_at_call 38; ((with_reducible refine HU.out.mono ?_); rintro e w9 ⟨rfl, hP9, hO9⟩; have hT9 := HR.out.o.only hO9 (by omega); have q2 : w9.cell? ⟨f, 1 + 1, none⟩ = some z := (by rw [hT9.cell]; exact HZ.out); have qf : ∀ o, w9.frozen? ⟨f, o, none⟩ = false := hT9.frozen; have HP9 := Lib.hid hP9; have HO9 := Lib.hid hO9; clear hP9 hO9 hT9))
          all_goals go_meet
          all_goals exact HR.out.put hbt htl hft HP9.out HO9.out HSET.out
        | false => as_aux_lemma =>
          have hh : hasE (uV 14 r) 1 = false := by rw [HK.out]; exact HA.out
          have e1 : qS r (1 + 1) = qS r 1 := by show (if hasE (uV 14 r) 1 = true then _ else _) = _; rw [hh]; rfl
          have e2 : qF r (1 + 1) = qF r 1 := by show (if hasE (uV 14 r) 1 = true then _ else _) = _; rw [hh]; rfl
          have EE := Lib.hid (And.intro e1 e2)
          clear hh e1 e2
          go_wp2_with fail
          all_goals go_meet
          all_goals (rw [EE.out.1, EE.out.2]; exact HR.out)
      case rest =>
        have HR := Lib.hid hcut
        clear hcut
        go_upto_if 36 with fail
        go_cut [] (fun wc => RqW w b t f (qF r 3) (qS r 3) wc)
        case first =>
          clear HD HA HN
          cases fb with
          | true => as_aux_lemma =>
            have hh : hasE (uV 14 r) 2 = true := by rw [HK.out]; exact HBB.out
            have e1 : qS r (2 + 1) = uS 16 (qS r 2) := by show (if hasE (uV 14 r) 2 = true then _ else _) = _; rw [if_pos hh]
            have e2 : qF r (2 + 1) = setE (qF r 2) 2 (uV 16 (qS r 2)) := by show (if hasE (uV 14 r) 2 = true then _ else _) = _; rw [if_pos hh]
            have hset := opA_setE (qF r 2) (j := 2) (by decide) (uV 16 (qS r 2))
            rw [← e2] at hset
            have HSET := Lib.hid hset
            have hX := uV_range (most := 16) (r := qS r 2) (by omega)
            have HU := Lib.hid (ruint_st (r := qS r 2) HR.out.p 16)
            rw [← e1] at HU
            obtain ⟨z, hz⟩ : ∃ z, (opA (qF r 2))[2 + 1]? = some z := ⟨_, Array.getElem?_eq_getElem (show 2 + 1 < (opA (qF r 2)).size from by simp [opA])⟩
            have HZ := Lib.hid hz
            clear hh e1 e2 hset hz
            generalize uV 16 (qS r 2) = x at *
            have ew : IntKind.i64.wrap x = x := by rw [IntKind.wrap_i64]; omega
            go_wp2_with (go_at_call 38; ((with_reducible refine HU.out.mono ?_); rintro e w9 ⟨rfl, hP9, hO9⟩; have hT9 := HR.out.o.only hO9 (by omega); have q2 : w9.cell? ⟨f, 2 + 1, none⟩ = some z := (by rw [hT9.cell]; exact HZ.out); have qf : ∀ o, w9.frozen? ⟨f, o, none⟩ = false := hT9.frozen; have HP9 := Lib.hid hP9; have HO9 := Lib.hid hO9; clear hP9 hO9 hT9))
            all_goals go_meet
            all_goals exact HR.out.put hbt htl hft HP9.out HO9.out HSET.out
          | false => as_aux_lemma =>
            have hh : hasE (uV 14 r) 2 = false := by rw [HK.out]; exact HBB.out
            have e1 : qS r (2 + 1) = qS r 2 := by show (if hasE (uV 14 r) 2 = true then _ else _) = _; rw [hh]; rfl
            have e2 : qF r (2 + 1) = qF r 2 := by show (if hasE (uV 14 r) 2 = true then _ else _) = _; rw [hh]; rfl
            have EE := Lib.hid (And.intro e1 e2)
            clear hh e1 e2
            go_wp2_with fail
            all_goals go_meet
            all_goals (rw [EE.out.1, EE.out.2]; exact HR.out)
        case rest =>
          have HR := Lib.hid hcut
          clear hcut
          go_upto_if 41 with fail
          go_cut [] (fun wc => RqW w b t f (qoV r) (qoS r) wc)
          case first =>
            cases fn with
            | true => as_aux_lemma =>
              have hq : kn (uV 14 r) = true := by rw [HK.out]; exact HN.out
              have e1 : qoS r = iS (qS r 3) := by unfold qoS; rw [if_pos hq]
              have e2 : qoV r = { qF r 3 with n := iV (qS r 3) } := by unfold qoV; rw [if_pos hq]
              have hset : (opA (qF r 3)).setIfInBounds 4 (.int .i64 (iV (qS r 3))) = opA (qoV r) := by rw [e2]; rfl
              have HSET := Lib.hid hset
              have HU := Lib.hid (rint_st (r := qS r 3) HR.out.p)
              rw [← e1] at HU
              clear hq e1 e2 hset
              generalize iV (qS r 3) = x at *
              go_wp2_with (go_at_call 65; ((with_reducible refine HU.out.mono ?_); rintro e w9 ⟨rfl, hP9, hO9⟩; have hT9 := HR.out.o.only hO9 (by omega); have q2 : w9.cell? ⟨f, 4, none⟩ = some (.int .i64 (qF r 3).n) := hT9.cell 4; have qf : ∀ o, w9.frozen? ⟨f, o, none⟩ = false := hT9.frozen; have HP9 := Lib.hid hP9; have HO9 := Lib.hid hO9; clear hP9 hO9 hT9))
              all_goals go_meet
              all_goals exact HR.out.put hbt htl hft HP9.out HO9.out HSET.out
            | false => as_aux_lemma =>
              have hq : kn (uV 14 r) = false := by rw [HK.out]; exact HN.out
              have e1 : qoS r = qS r 3 := by unfold qoS; rw [hq]; rfl
              have e2 : qoV r = qF r 3 := by unfold qoV; rw [hq]; rfl
              have EE := Lib.hid (And.intro e1 e2)
              clear hq e1 e2
              go_wp2_with fail
              all_goals go_meet
              all_goals (rw [EE.out.1, EE.out.2]; exact HR.out)
          case rest => as_aux_lemma =>
            have HR := Lib.hid hcut
            clear hcut HD HA HBB HN HK8
            have hRo := HR.out.o
            generalize hv : qoV r = v at *
            have HV := Lib.hid hv
            clear hv
            obtain ⟨ok, od, oa, ob, on⟩ := v
            simp only [opA] at hRo
            have q0 := hRo.cell 0
            have q1 := hRo.cell 1
            have q2 := hRo.cell 2
            have q3 := hRo.cell 3
            have q4 := hRo.cell 4
            simp at q0 q1 q2 q3 q4
            have t0 := HR.out.t.cell 0
            have t1 := HR.out.t.cell 1
            have t2 := HR.out.t.cell 2
            have t3 := HR.out.t.cell 3
            have t4 := HR.out.t.cell 4
            simp at t0 t1 t2 t3 t4
            have tf := HR.out.t.frozen
            clear hRo
            subst ht
            go_wp2_with fail
            try simp only [Exit.inBlock, Exit.then]
            exact ret_cell (cs := #[.int .u8 ok, .int .i64 od, .int .i64 oa, .int .i64 ob, .int .i64 on]) (T := 43) rfl rfl (((((HR.out.t.set 0 _).set 1 _).set 2 _).set 3 _).set 4 _) Try.underlying43 rfl (by kernel_rfl) rfl
              ⟨ok, od, oa, ob, on, rfl, HV.out.symm, ⟨((((HR.out.p.blk.set_ne _ (by show b ≠ w.heap.size; omega)).set_ne _ (by show b ≠ w.heap.size; omega)).set_ne _ (by show b ≠ w.heap.size; omega)).set_ne _ (by show b ≠ w.heap.size; omega)).set_ne _ (by show b ≠ w.heap.size; omega), HR.out.p.sz⟩,
                ((((HR.out.only.setCell (Or.inr htl) _).setCell (Or.inr htl) _).setCell (Or.inr htl) _).setCell (Or.inr htl) _).setCell (Or.inr htl) _⟩
end Go.Proofs.Ytbpakckiglgjfaa
