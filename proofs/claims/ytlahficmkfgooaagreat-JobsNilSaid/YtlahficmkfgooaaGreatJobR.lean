import Derived.Test.YtlahficmkfgooaaGreatJobL
import Derived.Test.YtlahficmkfgooaaGreatMge
import Derived.Great.BuildSlice

/- The bytes of rows; the walk of Encode. No condition but that rows are not too many and their texts not beyond any bound. -/
namespace Go.Proofs.YtlahficmkfgooaaGreat
open Go.RowKit Go.Maps Jb Wire
set_option linter.unusedVariables false
set_option linter.unusedSimpArgs false
namespace Jb
/-- The bytes of numbers, one behind the other. -/
def intsS (l : List Int) : ByteArray := catS (fun i => intS (l.getD i 0)) l.length
def rowS (r : JR) : ByteArray := Num.lebS r.job ++ (textS r.tok ++ textS r.prog) ++ Num.lebS r.inp.length ++ intsS r.inp ++ (Num.lebS r.fuel ++ Num.lebS r.st) ++ intS r.val ++ Num.lebS r.err
def rawI (l : List JR) (i : Nat) : ByteArray := (l.take i).foldl (fun s r => s ++ rowS r) (Num.lebS l.length)
def rawS (l : List JR) : ByteArray := rawI l l.length
theorem rawI_zero (l : List JR) : rawI l 0 = Num.lebS l.length := rfl
theorem rawI_succ (l : List JR) (i : Nat) (h : i < l.length) : rawI l (i + 1) = rawI l i ++ rowS l[i] := by unfold rawI; rw [List.take_succ_eq_append_getElem h, List.foldl_append]; rfl
/-- Numbers that fit their kinds. -/
def KOk (r : JR) : Prop := I64 r.val ∧ ∀ x ∈ r.inp, I64 x
theorem dec_size {p : ByteArray} {n : Nat} {f : Int} (h : askE p n f = 0) : p.size ≤ 16384 ∧ 0 ≤ f ∧ f ≤ 500 := by
  unfold askE at h
  have h1 : (Cd.dec p).2 = 0 := by
    by_cases e : (Cd.dec p).2 = 0
    · exact e
    · rw [if_pos e] at h; exact absurd h e
  rw [if_neg (fun e => e h1)] at h
  constructor
  · unfold Cd.dec at h1
    split at h1
    · cases h1
    · omega
  · split at h
    · rename_i e; exact absurd h e
    · split at h
      · cases h
      · omega
theorem stB_range {r : JR} (h : stB r = true) : 1 ≤ r.st ∧ r.st ≤ 3 := by
  unfold stB at h
  simp only [Bool.or_eq_true, Bool.and_eq_true, decide_eq_true_eq] at h
  omega
theorem resB_range {v e : Int} (h : resB v e = true) : 0 ≤ e ∧ e ≤ 9999 := by
  unfold resB at h
  simp only [Bool.and_eq_true, decide_eq_true_eq] at h
  omega
theorem tokB_size {t : ByteArray} (h : tokB t = true) : 1 ≤ t.size ∧ t.size ≤ 32 := by
  unfold tokB at h
  simp only [Bool.and_eq_true, decide_eq_true_eq] at h
  omega
end Jb
theorem jtext_size {s : ByteArray} (h : s.size ≤ 1048576) : (textS s).size ≤ s.size + 10 := by
  unfold textS
  rw [ByteArray.size_append]
  have := lebS_size (x := (s.size : Int)) (by omega)
  omega
theorem lit1S (w : World) (T : TypeId) (v : Value) (f : Nat → Value) (h : f 0 = v) : Slic (w.alloc (.cells #[v] T)) (.slice (some ⟨w.heap.size, 0, none⟩) 1 1) 1 f :=
  ⟨_, _, rfl, fun _ => ⟨_, 0, rfl, by simp, fun i hi => by
    have : i = 0 := by omega
    subst this
    rw [(Blk.new w _ _).cell, h]; rfl⟩⟩
theorem cat1 (g : Nat → ByteArray) : (⟨(cat g 1).toArray⟩ : ByteArray) = g 0 := by show catS g 1 = g 0; rw [← catS_succ, catS_zero]; apply ByteArray.ext; rw [ByteArray.data_append]; simp
theorem cat2 (g : Nat → ByteArray) : (⟨(cat g 2).toArray⟩ : ByteArray) = g 0 ++ g 1 := by show catS g 2 = _; rw [← catS_succ]; congr 1; exact cat1 g
theorem ju1 {W : World} {v : Value} {x : Int} (h : U64 x) (hS : Slic W v 1 (fun _ => .int .u64 x)) : Calls Tryz.prog 32 #[v] W fun e w' => e = .returned (.string (Num.lebS x)) ∧ Below W.heap.size W w' :=
  (uints_any (x := fun _ => x) hS (by decide) (fun _ _ => h)).mono fun e w' h => ⟨by rw [h.1, cat1], h.2⟩
theorem ju2 {W : World} {v : Value} {x y : Int} (h1 : U64 x) (h2 : U64 y) (hS : Slic W v 2 (fun i => .int .u64 (if i = 0 then x else y))) : Calls Tryz.prog 32 #[v] W fun e w' => e = .returned (.string (Num.lebS x ++ Num.lebS y)) ∧ Below W.heap.size W w' :=
  (uints_any (x := fun i => if i = 0 then x else y) hS (by decide) (fun i _ => by split <;> assumption)).mono fun e w' h => ⟨by rw [h.1, cat2]; rfl, h.2⟩
theorem ji1 {W : World} {v : Value} {x : Int} (h : I64 x) (hS : Slic W v 1 (fun _ => .int .i64 x)) : Calls Tryz.prog 34 #[v] W fun e w' => e = .returned (.string (intS x)) ∧ Below W.heap.size W w' :=
  (ints_any (x := fun _ => x) hS (by decide) (fun _ _ => h)).mono fun e w' h => ⟨by rw [h.1, cat1], h.2⟩
theorem jt2 {W : World} {v : Value} {x y : ByteArray} (h1 : x.size ≤ 1048576) (h2 : y.size ≤ 1048576) (hS : Slic W v 2 (fun i => .string (if i = 0 then x else y))) : Calls Tryz.prog 33 #[v] W fun e w' => e = .returned (.string (textS x ++ textS y)) ∧ Below W.heap.size W w' :=
  (texts_any (x := fun i => if i = 0 then x else y) hS (by decide) (fun i _ => by split <;> omega) (by
    rw [← catS_size, show catS (fun i => textS (if i = 0 then x else y)) 2 = textS x ++ textS y from cat2 _, ByteArray.size_append]
    have := jtext_size h1
    have := jtext_size h2
    omega)).mono fun e w' h => ⟨by rw [h.1, cat2]; rfl, h.2⟩
theorem jiN {W : World} {p : Option Addr} {n cap : Nat} {l : List Int} (hI : IntsAt W (.slice p n cap) l) (hl : l.length ≤ 1000) (h : ∀ x ∈ l, I64 x) : Calls Tryz.prog 34 #[.slice p n cap] W fun e w' => e = .returned (.string (intsS l)) ∧ Below W.heap.size W w' := by
  have hS : Slic W (.slice p n cap) l.length (fun i => .int .i64 (l.getD i 0)) := by
    obtain ⟨p', c', e, hx⟩ := hI
    injection e with e1 e2 e3
    subst e1 e2 e3
    refine ⟨_, _, rfl, fun h0 => ?_⟩
    obtain ⟨g, off, e, hg, hc⟩ := hx h0
    exact ⟨g, off, e, hg, fun i hi => by rw [hc i hi]; show _ = some (Value.int .i64 (l.getD i 0)); rw [List.getD_eq_getElem?_getD, List.getElem?_eq_getElem hi]; rfl⟩
  exact (ints_any (x := fun i => l.getD i 0) hS (by omega) (fun i hi => by rw [List.getD_eq_getElem?_getD, List.getElem?_eq_getElem hi]; exact h _ (List.getElem_mem hi))).mono fun e w' h => h
theorem intsS_size {l : List Int} (h : ∀ x ∈ l, I64 x) : (intsS l).size ≤ 10 * l.length := by
  unfold intsS
  rw [catS_size]
  exact small_cat fun i hi => by
    rw [List.getD_eq_getElem?_getD, List.getElem?_eq_getElem hi]
    exact lebS_size (U64_zig (h _ (List.getElem_mem hi))).2
structure EnI (w0 : World) (P : Nat) (A : Array Value) (vi : Value) (xi : List Int) (w : World) : Prop where
  blk : Blk w P 48 A
  ints : IntsAt w vi xi
  bel : Below w0.heap.size w0 w
theorem EnI.step {w0 w w' : World} {P : Nat} {A : Array Value} {vi : Value} {xi : List Int} (h : EnI w0 P A vi xi w) (hb : Below w.heap.size w w') : EnI w0 P A vi xi w' := ⟨h.blk.below hb, h.ints.below hb, h.bel.trans (hb.mono h.bel.size)⟩
/-- The parts of a row's bytes are small. -/
structure RowSz (r : JR) : Prop where
  job : U64 r.job
  tok : r.tok.size ≤ 32
  prog : r.prog.size ≤ 16384
  inp : r.inp.length ≤ 100
  fuel : 0 ≤ r.fuel ∧ r.fuel ≤ 500
  st : 1 ≤ r.st ∧ r.st ≤ 3
  err : 0 ≤ r.err ∧ r.err ≤ 9999
  val : I64 r.val
  ints : ∀ x ∈ r.inp, I64 x
theorem rowSz {last : Int} {l : List JR} (h : Jb.Good last l) (ho : JOk l) (hk : ∀ r ∈ l, KOk r) {r : JR} (hr : r ∈ l) : RowSz r := by
  obtain ⟨h1, h2, h3, h4, h5, h6⟩ := h.one r hr
  have ha := dec_size h4
  have ho' := ho r hr
  exact ⟨ho'.1, (tokB_size h3).2, ha.1, ho'.2.2, ha.2, stB_range h5, resB_range h6, (hk r hr).1, (hk r hr).2⟩
def EncP (w : World) (l : List JR) (e : Ending) (w' : World) : Prop := e = .returned (.tuple #[.string (if mayB l 281474976710656 = true then rawS l else ⟨#[]⟩), .int .i64 (if mayB l 281474976710656 = true then 0 else 2)]) ∧ Below w.heap.size w w'
set_option maxRecDepth 100000 in
set_option maxHeartbeats 8000000 in
theorem jenc_any {W : World} {v : Value} {l : List JR} (hv : RowsAt W v l) (hl : l.length ≤ 1000000) (ho : JOk l) (hk : ∀ r ∈ l, KOk r) : Calls Tryz.prog 9 #[v] W (EncP W l) := by
  obtain ⟨p, cap, rfl⟩ := hv.slice
  obtain ⟨n, hn⟩ : ∃ n, n = l.length := ⟨_, rfl⟩
  have HMY := Lib.hid (may_w (last := 281474976710656) hv hl ho)
  rw [← hn] at hv HMY ⊢
  have HV := Lib.hid hv
  have HL := Lib.hid (And.intro hl (And.intro ho hk))
  have HN := Lib.hid hn
  clear hv hl ho hk hn
  unfold EncP
  unfold MyP at HMY
  obtain ⟨mb, hmb⟩ : ∃ mb, mb = mayB l 281474976710656 := ⟨_, rfl⟩
  rw [← hmb] at HMY ⊢
  have HMB := Lib.hid hmb
  clear hmb
  cases mb with
  | false =>
    rw [if_neg (by decide), if_neg (by decide)]
    go_enter Tryz.func9, Tryz.ntmps9
    go_wp2_with (go_at_call 31; go_loud ((with_reducible refine HMY.out.mono ?_); rintro e w1 ⟨rfl, hb⟩; have HB1 := Lib.hid hb; clear hb))
    go_ret2
    exact ⟨rfl, HB1.out⟩
  | true =>
    rw [if_pos rfl, if_pos rfl]
    have HGO := Lib.hid (mayB_iff.1 HMB.out.symm)
    have hn0 : (0 : Int) ≤ (n : Int) := by omega
    have hn1 : (n : Int) ≤ 256 := by have := HGO.out.2.1; have := HN.out; omega
    have HNU : Hid (U64 (n : Int)) := Lib.hid (by unfold U64; omega)
    obtain ⟨R, hR⟩ : ∃ R, R = rawS l := ⟨_, rfl⟩
    have HR := Lib.hid hR
    rw [← hR]
    clear hR
    go_enter Tryz.func9, Tryz.ntmps9
    go_upto_region 4 with (first
      | (go_at_call 31; go_loud ((with_reducible refine HMY.out.mono ?_); rintro e w1 ⟨rfl, hb⟩; have HB1 := Lib.hid hb; clear hb))
      | (go_at_call 32; go_loud (refine (ju1 HNU.out (lit1S w1 37 (.int .u64 n) (fun _ => .int .u64 n) rfl)).mono ?_; rintro e w2 ⟨rfl, hb⟩; have HB2 := Lib.hid (((HB1.out.alloc HB1.out.size (.cells #[.int .u64 n] 37))).step hb); clear hb)))
    obtain ⟨S0, hS0⟩ : ∃ S0, S0 = Num.lebS n := ⟨_, rfl⟩
    rw [← hS0]
    have HS0 : Hid (S0 = rawI l 0 ∧ S0.size ≤ 10) := Lib.hid ⟨by rw [hS0, rawI_zero, HN.out], by rw [hS0]; exact lebS_size HNU.out.2⟩
    clear hS0 hn0 hn1
    go_wp2_with fail
    go_loopw [4, 17] (fun u4 u17 wr => ∃ (i : Nat) (S : ByteArray), i ≤ n ∧ u17 = .int .i64 (i : Nat) ∧ u4 = .string S ∧ S = rawI l i ∧ S.size ≤ 10 + 20000 * i ∧ Below W.heap.size W wr) (fun _ u17 _ => ((n : Int) - intOf u17).toNat)
    case atStart => exact ⟨0, S0, Nat.zero_le _, rfl, rfl, HS0.out.1, by have := HS0.out.2; omega, HB2.out⟩
    case round =>
      obtain ⟨i, S, hi0, rfl, rfl, hS, hSz, hbel⟩ := hrel
      have HS := Lib.hid (And.intro hS hSz)
      have HBL := Lib.hid hbel
      clear hS hSz
      by_cases hi : i < n
      · have hil : i < l.length := by have := HN.out; omega
        have hrw := HV.out.below hbel
        obtain ⟨p', cap', e1, hx⟩ := hrw
        injection e1 with e1 e2 e3
        subst e1 e3
        clear e2
        obtain ⟨g, off, hpe, hgl, hx2⟩ := hx (by omega)
        clear hx
        subst hpe
        obtain ⟨vi, hvi, hcl⟩ := hx2 i hil
        have hsz := rowSz HGO.out.1 HL.out.2.1 HL.out.2.2 (List.getElem_mem hil)
        have HSP : Hid (rawI l (i + 1) = rawI l i ++ rowS l[i]) := Lib.hid (rawI_succ l i hil)
        clear hx2
        generalize l[i] = x at *
        clear hil
        obtain ⟨xj, xt, xp, xi, xf, xs, xv, xe⟩ := x
        obtain ⟨pi, ci, rfl⟩ := hvi.slice
        obtain ⟨k, hk⟩ : ∃ k, k = xi.length := ⟨_, rfl⟩
        dsimp only at hvi hcl hk
        rw [← hk] at hvi hcl
        have HVI := Lib.hid hvi
        have HK := Lib.hid hk
        have HRS := Lib.hid hsz
        have HIN := Lib.hid hi
        have hi' : (i : Int) < (n : Int) := by omega
        have HE : Hid (wrap64 ((i : Int) + 1) = ((i + 1 : Nat) : Int)) := Lib.hid (by have := HL.out.1; have := HN.out; unfold wrap64; omega)
        have HCE := Lib.hid hcl
        clear hvi hcl hk hi0 hi hbel hsz
        go_upto_region 7 with (first
          | (refine wpl_load_part rfl _ _ rfl g (off + i * 8) rfl (jcells ⟨xj, xt, xp, xi, xf, xs, xv, xe⟩ (.slice pi k ci)) _ HCE.out Tryz.underlying48 rfl (by kernel_rfl) ?_)
          | (refine wpl_store_blk (c' := (jcells ⟨xj, xt, xp, xi, xf, xs, xv, xe⟩ (.slice pi k ci)).toArray) (Blk.new _ _ _) rfl _ _ _ rfl rfl rfl (by kernel_rfl) rfl (by simp [jcells, Value.oneCell']) ?_; go_loud (intro w4 hb1 ho1; have HP := Lib.hid hb1; have HW4 := Lib.hid (al_step ho1); clear hb1 ho1)))
        go_frame
        obtain ⟨P, hP⟩ : ∃ P, P = wr.heap.size := ⟨_, rfl⟩
        rw [← hP] at HP ⊢
        clear hP
        have HEI : Hid (EnI w4 P #[.int .u64 xj, .string xt, .string xp, .slice pi k ci, .int .i64 xf, .int .u8 xs, .int .i64 xv, .int .i64 xe] (.slice pi k ci) xi w4.drew) := Lib.hid ⟨HP.out.drew, (HVI.out.below HW4.out).below (Below.refl _ w4).drew, (Below.refl _ w4).drew⟩
        have HB4 := Lib.hid (HBL.out.trans (HW4.out.mono HBL.out.size))
        have HC1 := Lib.hid (fun (W : World) (v : Value) (h : Slic W v 1 (fun _ => .int .u64 xj)) => ju1 HRS.out.job h)
        have HC2 := Lib.hid (fun (W : World) (v : Value) (h : Slic W v 2 (fun i => .string (if i = 0 then xt else xp))) => jt2 (by have := HRS.out.tok; dsimp only at this; omega) (by have := HRS.out.prog; dsimp only at this; omega) h)
        have HC3 := Lib.hid (fun (W : World) (v : Value) (h : Slic W v 1 (fun _ => .int .u64 (k : Nat))) => ju1 (x := (k : Int)) (by have := HRS.out.inp; have := HK.out; dsimp only at *; unfold U64; omega) h)
        have HC4 := Lib.hid (fun (W : World) (h : IntsAt W (.slice pi k ci) xi) => jiN h (by have := HRS.out.inp; dsimp only at this; omega) HRS.out.ints)
        have HC5 := Lib.hid (fun (W : World) (v : Value) (h : Slic W v 2 (fun i => .int .u64 (if i = 0 then xf else xs))) => ju2 (by have := HRS.out.fuel; dsimp only at this; unfold U64; omega) (by have := HRS.out.st; dsimp only at this; unfold U64; omega) h)
        have HC6 := Lib.hid (fun (W : World) (v : Value) (h : Slic W v 1 (fun _ => .int .i64 xv)) => ji1 HRS.out.val h)
        have HC7 := Lib.hid (fun (W : World) (v : Value) (h : Slic W v 1 (fun _ => .int .u64 xe)) => ju1 (x := xe) (by have := HRS.out.err; dsimp only at this; unfold U64; omega) h)
        have hrs : rowS ⟨xj, xt, xp, xi, xf, xs, xv, xe⟩ = Num.lebS xj ++ (textS xt ++ textS xp) ++ Num.lebS (k : Nat) ++ intsS xi ++ (Num.lebS xf ++ Num.lebS xs) ++ intS xv ++ Num.lebS xe := by rw [HK.out]; rfl
        have s1 : (Num.lebS xj).size ≤ 10 := lebS_size HRS.out.job.2
        have s2 : (textS xt ++ textS xp).size ≤ 17000 := by
          rw [ByteArray.size_append]
          have h1 := HRS.out.tok
          have h2 := HRS.out.prog
          dsimp only at h1 h2
          have h3 := jtext_size (s := xt) (by omega)
          have h4 := jtext_size (s := xp) (by omega)
          omega
        have s3 : (Num.lebS (k : Nat)).size ≤ 10 := lebS_size (by have h1 := HRS.out.inp; have h2 := HK.out; dsimp only at h1; omega)
        have s4 : (intsS xi).size ≤ 1000 := by have h1 := intsS_size HRS.out.ints; have h2 := HRS.out.inp; dsimp only at h1 h2; omega
        have s5 : (Num.lebS xf ++ Num.lebS xs).size ≤ 20 := by
          rw [ByteArray.size_append]
          have h1 := HRS.out.fuel
          have h2 := HRS.out.st
          dsimp only at h1 h2
          have h3 := lebS_size (x := xf) (by omega)
          have h4 := lebS_size (x := xs) (by omega)
          omega
        have s6 : (intS xv).size ≤ 10 := lebS_size (U64_zig HRS.out.val).2
        have s7 : (Num.lebS xe).size ≤ 10 := lebS_size (by have h1 := HRS.out.err; dsimp only at h1; omega)
        have gk : IntKind.u64.wrap (k : Int) = (k : Int) := by have h1 := HRS.out.inp; have h2 := HK.out; dsimp only at h1; rw [IntKind.wrap_u64]; omega
        have gf : IntKind.u64.wrap xf = xf := by have h1 := HRS.out.fuel; dsimp only at h1; rw [IntKind.wrap_u64]; omega
        have gs : IntKind.u64.wrap xs = xs := by have h1 := HRS.out.st; dsimp only at h1; rw [IntKind.wrap_u64]; omega
        have ge : IntKind.u64.wrap xe = xe := by have h1 := HRS.out.err; dsimp only at h1; rw [IntKind.wrap_u64]; omega
        have hSs := HS.out.2
        have hib : i < 256 := by have h1 := HIN.out; have h2 := HGO.out.2.1; have h3 := HN.out; omega
        rw [hrs] at HSP
        clear hrs
        generalize Num.lebS xj = B1 at *
        generalize textS xt ++ textS xp = B2 at *
        generalize Num.lebS (k : Nat) = B3 at *
        generalize intsS xi = B4 at *
        generalize Num.lebS xf ++ Num.lebS xs = B5 at *
        generalize intS xv = B6 at *
        generalize Num.lebS xe = B7 at *
        have HSZ : Hid ((S ++ (B1 ++ B2 ++ B3 ++ B4 ++ B5 ++ B6 ++ B7)).size ≤ 10 + 20000 * (i + 1)) := Lib.hid (by simp only [ByteArray.size_append]; omega)
        have g1 : ¬ 9223372036854775807 < B1.size + B2.size := by omega
        have g2 : ¬ 9223372036854775807 < B1.size + B2.size + B3.size := by omega
        have g3 : ¬ 9223372036854775807 < B1.size + B2.size + B3.size + B4.size := by omega
        have g4 : ¬ 9223372036854775807 < B1.size + B2.size + B3.size + B4.size + B5.size := by omega
        have g5 : ¬ 9223372036854775807 < B1.size + B2.size + B3.size + B4.size + B5.size + B6.size := by omega
        have g6 : ¬ 9223372036854775807 < B1.size + B2.size + B3.size + B4.size + B5.size + B6.size + B7.size := by omega
        have g7 : ¬ 9223372036854775807 < S.size + (B1.size + B2.size + B3.size + B4.size + B5.size + B6.size + B7.size) := by omega
        clear s1 s2 s3 s4 s5 s6 s7 hSs hib
        -- region 7
        refine Reg.wp_rely 47 (EnI w4 P #[.int .u64 xj, .string xt, .string xp, .slice pi k ci, .int .i64 xf, .int .u8 xs, .int .i64 xv, .int .i64 xe] (.slice pi k ci) xi) (by kernel_rfl) (Reg.relyOk_of (by kernel_rfl)) HEI.out (fun w w' h hI => hI.step h) ?_
        refine Reg.rely_plain (.string S) rfl (fun a w hI hF => by
            have f1 : a.tmps.getD 4 undef = .string S := hF 4 (Reg.looksB (by kernel_rfl))
            clear hF hI
            simp only [Array.getD_eq_getD_getElem?] at f1
            simp only [execOp]; go_simp) ?_
        refine Reg.rely_plain (.pointer (some ⟨P, 0, none⟩)) rfl (fun a w hI hF => by
            have f1 : a.tmps.getD 6 undef = .pointer (some ⟨P, 0, none⟩) := hF 6 (Reg.looksB (by kernel_rfl))
            clear hF hI
            simp only [Array.getD_eq_getD_getElem?] at f1
            simp only [execOp]; go_simp) ?_
        refine Reg.rely_plain (.int .u64 xj) rfl (fun a w hI hF => by
            have f1 : a.tmps.getD 22 undef = .pointer (some ⟨P, 0, none⟩) := hF 22 (Reg.looksB (by kernel_rfl))
            have hc : w.cell? ⟨P, 0, none⟩ = some (.int .u64 xj) := hI.blk.cell 0
            clear hF hI
            simp only [Array.getD_eq_getD_getElem?] at f1
            simp only [execOp]; go_simp) ?_
        refine Reg.rely_rel (fun v w => Slic w v 1 (fun _ => .int .u64 xj)) (fun v w w' h hS => hS.grow h) (fun G hG => by cases hG) rfl (fun a w hI hF => by
      have f1 : a.tmps.getD 23 undef = .int .u64 xj := hF 23 (Reg.looksB (by kernel_rfl))
      have hK := Lib.hid (lit1S w 37 (.int .u64 xj) (fun _ => .int .u64 xj) rfl)
      have hW := Lib.hid (show Reg.Grow w (w.alloc (.cells #[.int .u64 xj] 37)) from (Below.refl _ w).alloc (Nat.le_refl _) _)
      clear hF hI
      simp only [Array.getD_eq_getD_getElem?] at f1
      unfold Oper.wp
      simp only [execOp]
      go_simp
      exact ⟨_, rfl, hK.out, hW.out⟩) ?_
        refine Reg.rely_call0 (Reg.Is (.string B1)) (Reg.stab_is _ _) (fun G hG => by cases hG) rfl (fun a w hI hF => by
      have hS : Slic w (a.tmps.getD 24 undef) 1 (fun _ => .int .u64 xj) := hF 24 (Reg.looksB (by kernel_rfl))
      generalize hv : a.tmps.getD 24 undef = v at hS
      refine ⟨32, #[v], ?_, (HC1.out w v hS).mono fun e w' h => ⟨_, h.1, rfl, h.2⟩⟩
      clear hF hI hS
      simp only [Array.getD_eq_getD_getElem?] at hv
      simp only [execOp]; go_simp) ?_
        refine Reg.rely_plain (.pointer (some ⟨P, 1, none⟩)) rfl (fun a w hI hF => by
            have f1 : a.tmps.getD 6 undef = .pointer (some ⟨P, 0, none⟩) := hF 6 (Reg.looksB (by kernel_rfl))
            clear hF hI
            simp only [Array.getD_eq_getD_getElem?] at f1
            simp only [execOp]; go_simp) ?_
        refine Reg.rely_plain (.string xt) rfl (fun a w hI hF => by
            have f1 : a.tmps.getD 26 undef = .pointer (some ⟨P, 1, none⟩) := hF 26 (Reg.looksB (by kernel_rfl))
            have hc : w.cell? ⟨P, 1, none⟩ = some (.string xt) := hI.blk.cell 1
            clear hF hI
            simp only [Array.getD_eq_getD_getElem?] at f1
            simp only [execOp]; go_simp) ?_
        refine Reg.rely_plain (.pointer (some ⟨P, 2, none⟩)) rfl (fun a w hI hF => by
            have f1 : a.tmps.getD 6 undef = .pointer (some ⟨P, 0, none⟩) := hF 6 (Reg.looksB (by kernel_rfl))
            clear hF hI
            simp only [Array.getD_eq_getD_getElem?] at f1
            simp only [execOp]; go_simp) ?_
        refine Reg.rely_plain (.string xp) rfl (fun a w hI hF => by
            have f1 : a.tmps.getD 28 undef = .pointer (some ⟨P, 2, none⟩) := hF 28 (Reg.looksB (by kernel_rfl))
            have hc : w.cell? ⟨P, 2, none⟩ = some (.string xp) := hI.blk.cell 2
            clear hF hI
            simp only [Array.getD_eq_getD_getElem?] at f1
            simp only [execOp]; go_simp) ?_
        refine Reg.rely_rel (fun v w => Slic w v 2 (fun i => .string (if i = 0 then xt else xp))) (fun v w w' h hS => hS.grow h) (fun G hG => by cases hG) rfl (fun a w hI hF => by
      have f1 : a.tmps.getD 27 undef = .string xt := hF 27 (Reg.looksB (by kernel_rfl))
      have f2 : a.tmps.getD 29 undef = .string xp := hF 29 (Reg.looksB (by kernel_rfl))
      have hK := Lib.hid (slic2 w 9 (.string xt) (.string xp) (fun i => .string (if i = 0 then xt else xp)) rfl rfl)
      have hW := Lib.hid (show Reg.Grow w (w.alloc (.cells #[.string xt, .string xp] 9)) from (Below.refl _ w).alloc (Nat.le_refl _) _)
      clear hF hI
      simp only [Array.getD_eq_getD_getElem?] at f1 f2
      unfold Oper.wp
      simp only [execOp]
      go_simp
      exact ⟨_, rfl, hK.out, hW.out⟩) ?_
        refine Reg.rely_call0 (Reg.Is (.string B2)) (Reg.stab_is _ _) (fun G hG => by cases hG) rfl (fun a w hI hF => by
      have hS : Slic w (a.tmps.getD 30 undef) 2 (fun i => .string (if i = 0 then xt else xp)) := hF 30 (Reg.looksB (by kernel_rfl))
      generalize hv : a.tmps.getD 30 undef = v at hS
      refine ⟨33, #[v], ?_, (HC2.out w v hS).mono fun e w' h => ⟨_, h.1, rfl, h.2⟩⟩
      clear hF hI hS
      simp only [Array.getD_eq_getD_getElem?] at hv
      simp only [execOp]; go_simp) ?_
        refine Reg.rely_plain (.string (B1 ++ B2)) rfl (fun a w hI hF => by
            have f1 : a.tmps.getD 25 undef = .string B1 := hF 25 (Reg.looksB (by kernel_rfl))
            have f2 : a.tmps.getD 31 undef = .string B2 := hF 31 (Reg.looksB (by kernel_rfl))
            have hg := g1
            clear hF hI
            simp only [Array.getD_eq_getD_getElem?] at f1 f2
            simp only [execOp]; go_simp) ?_
        refine Reg.rely_plain (.pointer (some ⟨P, 3, none⟩)) rfl (fun a w hI hF => by
            have f1 : a.tmps.getD 6 undef = .pointer (some ⟨P, 0, none⟩) := hF 6 (Reg.looksB (by kernel_rfl))
            clear hF hI
            simp only [Array.getD_eq_getD_getElem?] at f1
            simp only [execOp]; go_simp) ?_
        refine Reg.rely_plain (.slice pi k ci) rfl (fun a w hI hF => by
            have f1 : a.tmps.getD 33 undef = .pointer (some ⟨P, 3, none⟩) := hF 33 (Reg.looksB (by kernel_rfl))
            have hc : w.cell? ⟨P, 3, none⟩ = some (.slice pi k ci) := hI.blk.cell 3
            clear hF hI
            simp only [Array.getD_eq_getD_getElem?] at f1
            simp only [execOp]; go_simp) ?_
        refine Reg.rely_plain (.int .i64 k) rfl (fun a w hI hF => by
            have f1 : a.tmps.getD 34 undef = .slice pi k ci := hF 34 (Reg.looksB (by kernel_rfl))
            clear hF hI
            simp only [Array.getD_eq_getD_getElem?] at f1
            simp only [execOp]; go_simp) ?_
        refine Reg.rely_plain (.int .u64 k) rfl (fun a w hI hF => by
            have f1 : a.tmps.getD 35 undef = .int .i64 k := hF 35 (Reg.looksB (by kernel_rfl))
            have hz := gk
            clear hF hI
            simp only [Array.getD_eq_getD_getElem?] at f1
            simp only [execOp]; go_simp) ?_
        refine Reg.rely_rel (fun v w => Slic w v 1 (fun _ => .int .u64 k)) (fun v w w' h hS => hS.grow h) (fun G hG => by cases hG) rfl (fun a w hI hF => by
      have f1 : a.tmps.getD 36 undef = .int .u64 k := hF 36 (Reg.looksB (by kernel_rfl))
      have hK := Lib.hid (lit1S w 37 (.int .u64 k) (fun _ => .int .u64 k) rfl)
      have hW := Lib.hid (show Reg.Grow w (w.alloc (.cells #[.int .u64 k] 37)) from (Below.refl _ w).alloc (Nat.le_refl _) _)
      clear hF hI
      simp only [Array.getD_eq_getD_getElem?] at f1
      unfold Oper.wp
      simp only [execOp]
      go_simp
      exact ⟨_, rfl, hK.out, hW.out⟩) ?_
        refine Reg.rely_call0 (Reg.Is (.string B3)) (Reg.stab_is _ _) (fun G hG => by cases hG) rfl (fun a w hI hF => by
      have hS : Slic w (a.tmps.getD 37 undef) 1 (fun _ => .int .u64 k) := hF 37 (Reg.looksB (by kernel_rfl))
      generalize hv : a.tmps.getD 37 undef = v at hS
      refine ⟨32, #[v], ?_, (HC3.out w v hS).mono fun e w' h => ⟨_, h.1, rfl, h.2⟩⟩
      clear hF hI hS
      simp only [Array.getD_eq_getD_getElem?] at hv
      simp only [execOp]; go_simp) ?_
        refine Reg.rely_plain (.string (B1 ++ B2 ++ B3)) rfl (fun a w hI hF => by
            have f1 : a.tmps.getD 32 undef = .string (B1 ++ B2) := hF 32 (Reg.looksB (by kernel_rfl))
            have f2 : a.tmps.getD 38 undef = .string B3 := hF 38 (Reg.looksB (by kernel_rfl))
            have hg := g2
            clear hF hI
            simp only [Array.getD_eq_getD_getElem?] at f1 f2
            simp only [execOp]; go_simp) ?_
        refine Reg.rely_plain (.pointer (some ⟨P, 3, none⟩)) rfl (fun a w hI hF => by
            have f1 : a.tmps.getD 6 undef = .pointer (some ⟨P, 0, none⟩) := hF 6 (Reg.looksB (by kernel_rfl))
            clear hF hI
            simp only [Array.getD_eq_getD_getElem?] at f1
            simp only [execOp]; go_simp) ?_
        refine Reg.rely_plain (.slice pi k ci) rfl (fun a w hI hF => by
            have f1 : a.tmps.getD 40 undef = .pointer (some ⟨P, 3, none⟩) := hF 40 (Reg.looksB (by kernel_rfl))
            have hc : w.cell? ⟨P, 3, none⟩ = some (.slice pi k ci) := hI.blk.cell 3
            clear hF hI
            simp only [Array.getD_eq_getD_getElem?] at f1
            simp only [execOp]; go_simp) ?_
        refine Reg.rely_call0 (Reg.Is (.string B4)) (Reg.stab_is _ _) (fun G hG => by cases hG) rfl (fun a w hI hF => by
            have f1 : a.tmps.getD 41 undef = .slice pi k ci := hF 41 (Reg.looksB (by kernel_rfl))
            refine ⟨34, #[.slice pi k ci], ?_, (HC4.out w hI.ints).mono fun e w' h => ⟨_, h.1, rfl, h.2⟩⟩
            clear hF hI
            simp only [Array.getD_eq_getD_getElem?] at f1
            simp only [execOp]; go_simp) ?_
        refine Reg.rely_plain (.string (B1 ++ B2 ++ B3 ++ B4)) rfl (fun a w hI hF => by
            have f1 : a.tmps.getD 39 undef = .string (B1 ++ B2 ++ B3) := hF 39 (Reg.looksB (by kernel_rfl))
            have f2 : a.tmps.getD 42 undef = .string B4 := hF 42 (Reg.looksB (by kernel_rfl))
            have hg := g3
            clear hF hI
            simp only [Array.getD_eq_getD_getElem?] at f1 f2
            simp only [execOp]; go_simp) ?_
        refine Reg.rely_plain (.pointer (some ⟨P, 4, none⟩)) rfl (fun a w hI hF => by
            have f1 : a.tmps.getD 6 undef = .pointer (some ⟨P, 0, none⟩) := hF 6 (Reg.looksB (by kernel_rfl))
            clear hF hI
            simp only [Array.getD_eq_getD_getElem?] at f1
            simp only [execOp]; go_simp) ?_
        refine Reg.rely_plain (.int .i64 xf) rfl (fun a w hI hF => by
            have f1 : a.tmps.getD 44 undef = .pointer (some ⟨P, 4, none⟩) := hF 44 (Reg.looksB (by kernel_rfl))
            have hc : w.cell? ⟨P, 4, none⟩ = some (.int .i64 xf) := hI.blk.cell 4
            clear hF hI
            simp only [Array.getD_eq_getD_getElem?] at f1
            simp only [execOp]; go_simp) ?_
        refine Reg.rely_plain (.int .u64 xf) rfl (fun a w hI hF => by
            have f1 : a.tmps.getD 45 undef = .int .i64 xf := hF 45 (Reg.looksB (by kernel_rfl))
            have hz := gf
            clear hF hI
            simp only [Array.getD_eq_getD_getElem?] at f1
            simp only [execOp]; go_simp) ?_
        refine Reg.rely_plain (.pointer (some ⟨P, 5, none⟩)) rfl (fun a w hI hF => by
            have f1 : a.tmps.getD 6 undef = .pointer (some ⟨P, 0, none⟩) := hF 6 (Reg.looksB (by kernel_rfl))
            clear hF hI
            simp only [Array.getD_eq_getD_getElem?] at f1
            simp only [execOp]; go_simp) ?_
        refine Reg.rely_plain (.int .u8 xs) rfl (fun a w hI hF => by
            have f1 : a.tmps.getD 47 undef = .pointer (some ⟨P, 5, none⟩) := hF 47 (Reg.looksB (by kernel_rfl))
            have hc : w.cell? ⟨P, 5, none⟩ = some (.int .u8 xs) := hI.blk.cell 5
            clear hF hI
            simp only [Array.getD_eq_getD_getElem?] at f1
            simp only [execOp]; go_simp) ?_
        refine Reg.rely_plain (.int .u64 xs) rfl (fun a w hI hF => by
            have f1 : a.tmps.getD 48 undef = .int .u8 xs := hF 48 (Reg.looksB (by kernel_rfl))
            have hz := gs
            clear hF hI
            simp only [Array.getD_eq_getD_getElem?] at f1
            simp only [execOp]; go_simp) ?_
        refine Reg.rely_rel (fun v w => Slic w v 2 (fun i => .int .u64 (if i = 0 then xf else xs))) (fun v w w' h hS => hS.grow h) (fun G hG => by cases hG) rfl (fun a w hI hF => by
      have f1 : a.tmps.getD 46 undef = .int .u64 xf := hF 46 (Reg.looksB (by kernel_rfl))
      have f2 : a.tmps.getD 49 undef = .int .u64 xs := hF 49 (Reg.looksB (by kernel_rfl))
      have hK := Lib.hid (slic2 w 37 (.int .u64 xf) (.int .u64 xs) (fun i => .int .u64 (if i = 0 then xf else xs)) rfl rfl)
      have hW := Lib.hid (show Reg.Grow w (w.alloc (.cells #[.int .u64 xf, .int .u64 xs] 37)) from (Below.refl _ w).alloc (Nat.le_refl _) _)
      clear hF hI
      simp only [Array.getD_eq_getD_getElem?] at f1 f2
      unfold Oper.wp
      simp only [execOp]
      go_simp
      exact ⟨_, rfl, hK.out, hW.out⟩) ?_
        refine Reg.rely_call0 (Reg.Is (.string B5)) (Reg.stab_is _ _) (fun G hG => by cases hG) rfl (fun a w hI hF => by
      have hS : Slic w (a.tmps.getD 50 undef) 2 (fun i => .int .u64 (if i = 0 then xf else xs)) := hF 50 (Reg.looksB (by kernel_rfl))
      generalize hv : a.tmps.getD 50 undef = v at hS
      refine ⟨32, #[v], ?_, (HC5.out w v hS).mono fun e w' h => ⟨_, h.1, rfl, h.2⟩⟩
      clear hF hI hS
      simp only [Array.getD_eq_getD_getElem?] at hv
      simp only [execOp]; go_simp) ?_
        refine Reg.rely_plain (.string (B1 ++ B2 ++ B3 ++ B4 ++ B5)) rfl (fun a w hI hF => by
            have f1 : a.tmps.getD 43 undef = .string (B1 ++ B2 ++ B3 ++ B4) := hF 43 (Reg.looksB (by kernel_rfl))
            have f2 : a.tmps.getD 51 undef = .string B5 := hF 51 (Reg.looksB (by kernel_rfl))
            have hg := g4
            clear hF hI
            simp only [Array.getD_eq_getD_getElem?] at f1 f2
            simp only [execOp]; go_simp) ?_
        refine Reg.rely_plain (.pointer (some ⟨P, 6, none⟩)) rfl (fun a w hI hF => by
            have f1 : a.tmps.getD 6 undef = .pointer (some ⟨P, 0, none⟩) := hF 6 (Reg.looksB (by kernel_rfl))
            clear hF hI
            simp only [Array.getD_eq_getD_getElem?] at f1
            simp only [execOp]; go_simp) ?_
        refine Reg.rely_plain (.pointer (some ⟨P, 6, none⟩)) rfl (fun a w hI hF => by
            have f1 : a.tmps.getD 53 undef = .pointer (some ⟨P, 6, none⟩) := hF 53 (Reg.looksB (by kernel_rfl))
            clear hF hI
            simp only [Array.getD_eq_getD_getElem?] at f1
            simp only [execOp]; go_simp) ?_
        refine Reg.rely_plain (.int .i64 xv) rfl (fun a w hI hF => by
            have f1 : a.tmps.getD 54 undef = .pointer (some ⟨P, 6, none⟩) := hF 54 (Reg.looksB (by kernel_rfl))
            have hc : w.cell? ⟨P, 6, none⟩ = some (.int .i64 xv) := hI.blk.cell 6
            clear hF hI
            simp only [Array.getD_eq_getD_getElem?] at f1
            simp only [execOp]; go_simp) ?_
        refine Reg.rely_rel (fun v w => Slic w v 1 (fun _ => .int .i64 xv)) (fun v w w' h hS => hS.grow h) (fun G hG => by cases hG) rfl (fun a w hI hF => by
      have f1 : a.tmps.getD 55 undef = .int .i64 xv := hF 55 (Reg.looksB (by kernel_rfl))
      have hK := Lib.hid (lit1S w 2 (.int .i64 xv) (fun _ => .int .i64 xv) rfl)
      have hW := Lib.hid (show Reg.Grow w (w.alloc (.cells #[.int .i64 xv] 2)) from (Below.refl _ w).alloc (Nat.le_refl _) _)
      clear hF hI
      simp only [Array.getD_eq_getD_getElem?] at f1
      unfold Oper.wp
      simp only [execOp]
      go_simp
      exact ⟨_, rfl, hK.out, hW.out⟩) ?_
        refine Reg.rely_call0 (Reg.Is (.string B6)) (Reg.stab_is _ _) (fun G hG => by cases hG) rfl (fun a w hI hF => by
      have hS : Slic w (a.tmps.getD 56 undef) 1 (fun _ => .int .i64 xv) := hF 56 (Reg.looksB (by kernel_rfl))
      generalize hv : a.tmps.getD 56 undef = v at hS
      refine ⟨34, #[v], ?_, (HC6.out w v hS).mono fun e w' h => ⟨_, h.1, rfl, h.2⟩⟩
      clear hF hI hS
      simp only [Array.getD_eq_getD_getElem?] at hv
      simp only [execOp]; go_simp) ?_
        refine Reg.rely_plain (.string (B1 ++ B2 ++ B3 ++ B4 ++ B5 ++ B6)) rfl (fun a w hI hF => by
            have f1 : a.tmps.getD 52 undef = .string (B1 ++ B2 ++ B3 ++ B4 ++ B5) := hF 52 (Reg.looksB (by kernel_rfl))
            have f2 : a.tmps.getD 57 undef = .string B6 := hF 57 (Reg.looksB (by kernel_rfl))
            have hg := g5
            clear hF hI
            simp only [Array.getD_eq_getD_getElem?] at f1 f2
            simp only [execOp]; go_simp) ?_
        refine Reg.rely_plain (.pointer (some ⟨P, 6, none⟩)) rfl (fun a w hI hF => by
            have f1 : a.tmps.getD 6 undef = .pointer (some ⟨P, 0, none⟩) := hF 6 (Reg.looksB (by kernel_rfl))
            clear hF hI
            simp only [Array.getD_eq_getD_getElem?] at f1
            simp only [execOp]; go_simp) ?_
        refine Reg.rely_plain (.pointer (some ⟨P, 7, none⟩)) rfl (fun a w hI hF => by
            have f1 : a.tmps.getD 59 undef = .pointer (some ⟨P, 6, none⟩) := hF 59 (Reg.looksB (by kernel_rfl))
            clear hF hI
            simp only [Array.getD_eq_getD_getElem?] at f1
            simp only [execOp]; go_simp) ?_
        refine Reg.rely_plain (.int .i64 xe) rfl (fun a w hI hF => by
            have f1 : a.tmps.getD 60 undef = .pointer (some ⟨P, 7, none⟩) := hF 60 (Reg.looksB (by kernel_rfl))
            have hc : w.cell? ⟨P, 7, none⟩ = some (.int .i64 xe) := hI.blk.cell 7
            clear hF hI
            simp only [Array.getD_eq_getD_getElem?] at f1
            simp only [execOp]; go_simp) ?_
        refine Reg.rely_plain (.int .u64 xe) rfl (fun a w hI hF => by
            have f1 : a.tmps.getD 61 undef = .int .i64 xe := hF 61 (Reg.looksB (by kernel_rfl))
            have hz := ge
            clear hF hI
            simp only [Array.getD_eq_getD_getElem?] at f1
            simp only [execOp]; go_simp) ?_
        refine Reg.rely_rel (fun v w => Slic w v 1 (fun _ => .int .u64 xe)) (fun v w w' h hS => hS.grow h) (fun G hG => by cases hG) rfl (fun a w hI hF => by
      have f1 : a.tmps.getD 62 undef = .int .u64 xe := hF 62 (Reg.looksB (by kernel_rfl))
      have hK := Lib.hid (lit1S w 37 (.int .u64 xe) (fun _ => .int .u64 xe) rfl)
      have hW := Lib.hid (show Reg.Grow w (w.alloc (.cells #[.int .u64 xe] 37)) from (Below.refl _ w).alloc (Nat.le_refl _) _)
      clear hF hI
      simp only [Array.getD_eq_getD_getElem?] at f1
      unfold Oper.wp
      simp only [execOp]
      go_simp
      exact ⟨_, rfl, hK.out, hW.out⟩) ?_
        refine Reg.rely_call0 (Reg.Is (.string B7)) (Reg.stab_is _ _) (fun G hG => by cases hG) rfl (fun a w hI hF => by
      have hS : Slic w (a.tmps.getD 63 undef) 1 (fun _ => .int .u64 xe) := hF 63 (Reg.looksB (by kernel_rfl))
      generalize hv : a.tmps.getD 63 undef = v at hS
      refine ⟨32, #[v], ?_, (HC7.out w v hS).mono fun e w' h => ⟨_, h.1, rfl, h.2⟩⟩
      clear hF hI hS
      simp only [Array.getD_eq_getD_getElem?] at hv
      simp only [execOp]; go_simp) ?_
        refine Reg.rely_plain (.string (B1 ++ B2 ++ B3 ++ B4 ++ B5 ++ B6 ++ B7)) rfl (fun a w hI hF => by
            have f1 : a.tmps.getD 58 undef = .string (B1 ++ B2 ++ B3 ++ B4 ++ B5 ++ B6) := hF 58 (Reg.looksB (by kernel_rfl))
            have f2 : a.tmps.getD 64 undef = .string B7 := hF 64 (Reg.looksB (by kernel_rfl))
            have hg := g6
            clear hF hI
            simp only [Array.getD_eq_getD_getElem?] at f1 f2
            simp only [execOp]; go_simp) ?_
        refine Reg.rely_plain (.string (S ++ (B1 ++ B2 ++ B3 ++ B4 ++ B5 ++ B6 ++ B7))) rfl (fun a w hI hF => by
            have f1 : a.tmps.getD 21 undef = .string S := hF 21 (Reg.looksB (by kernel_rfl))
            have f2 : a.tmps.getD 65 undef = .string (B1 ++ B2 ++ B3 ++ B4 ++ B5 ++ B6 ++ B7) := hF 65 (Reg.looksB (by kernel_rfl))
            have hg := g7
            clear hF hI
            simp only [Array.getD_eq_getD_getElem?] at f1 f2
            simp only [execOp]; go_simp) ?_
        refine Reg.rely_plain (.string (S ++ (B1 ++ B2 ++ B3 ++ B4 ++ B5 ++ B6 ++ B7))) rfl (fun a w hI hF => by
            have f1 : a.tmps.getD 66 undef = .string (S ++ (B1 ++ B2 ++ B3 ++ B4 ++ B5 ++ B6 ++ B7)) := hF 66 (Reg.looksB (by kernel_rfl))
            clear hF hI
            simp only [Array.getD_eq_getD_getElem?] at f1
            simp only [execOp]; go_simp) ?_
        refine Reg.rely_nil ?_
        refine Reg.final_is ?_
        refine Reg.final_is ?_
        refine Reg.final_is ?_
        refine Reg.final_is ?_
        refine Reg.final_rel (fun v42 => ?_)
        refine Reg.final_is ?_
        refine Reg.final_is ?_
        refine Reg.final_is ?_
        refine Reg.final_is ?_
        refine Reg.final_is ?_
        refine Reg.final_is ?_
        refine Reg.final_rel (fun v35 => ?_)
        refine Reg.final_is ?_
        refine Reg.final_is ?_
        refine Reg.final_is ?_
        refine Reg.final_is ?_
        refine Reg.final_is ?_
        refine Reg.final_rel (fun v29 => ?_)
        refine Reg.final_is ?_
        refine Reg.final_is ?_
        refine Reg.final_is ?_
        refine Reg.final_is ?_
        refine Reg.final_is ?_
        refine Reg.final_is ?_
        refine Reg.final_is ?_
        refine Reg.final_is ?_
        refine Reg.final_is ?_
        refine Reg.final_is ?_
        refine Reg.final_is ?_
        refine Reg.final_is ?_
        refine Reg.final_rel (fun v16 => ?_)
        refine Reg.final_is ?_
        refine Reg.final_is ?_
        refine Reg.final_is ?_
        refine Reg.final_is ?_
        refine Reg.final_is ?_
        refine Reg.final_is ?_
        refine Reg.final_rel (fun v9 => ?_)
        refine Reg.final_is ?_
        refine Reg.final_is ?_
        refine Reg.final_is ?_
        refine Reg.final_is ?_
        refine Reg.final_is ?_
        refine Reg.final_rel (fun v3 => ?_)
        refine Reg.final_is ?_
        refine Reg.final_is ?_
        refine Reg.final_is ?_
        refine Reg.final_nil (fun w9 hF => ?_)
        -- region 7 ends
        have HJ : Hid (EnI w4 P #[.int .u64 xj, .string xt, .string xp, .slice pi k ci, .int .i64 xf, .int .u8 xs, .int .i64 xv, .int .i64 xe] (.slice pi k ci) xi w9) := Lib.hid (by repeat (first | exact hF | have hF := hF.1))
        clear hF gk gf gs ge g1 g2 g3 g4 g5 g6 g7 HEI HC1 HC2 HC3 HC4 HC5 HC6 HC7
        simp only [List.drop_succ_cons, List.drop_zero]
        go_simp
        (try go_wp2_with fail)
        refine Reg.fin (by kernel_rfl) ?_
        go_wp2_with fail
        go_roundw
        case rel => exact ⟨i + 1, _, by have := HIN.out; omega, by first | rw [HE.out] | simp, rfl, by rw [HSP.out, ← HS.out.1], HSZ.out, HB4.out.trans (HJ.out.bel.mono HB4.out.size)⟩
        case measure => (try rw [HE.out]); simp [intOf]; have := HIN.out; omega
      · have hi' : ¬ (i : Int) < (n : Int) := by omega
        have HSE : Hid (S = R) := Lib.hid (by rw [HR.out, HS.out.1]; unfold rawS; congr 1; have := HN.out; omega)
        clear hi hi0 hbel
        go_wp2_with fail
        go_ret2
        exact ⟨by rw [HSE.out]; rfl, HBL.out⟩
end Go.Proofs.YtlahficmkfgooaaGreat
