import Derived.Test.YtlahficmkfgooaaGreatMge
import Derived.Test.YtlahficmkfgooaaGreatMgd
import Derived.Test.YtlahficmkfgooaaGreatMga
import Derived.Laws.ResultCell
import Derived.Laws.Rows

/- The walks of the document's reader of bricks, second part. No condition but that numbers fit their kinds. -/
namespace Go.Proofs.YtlahficmkfgooaaGreat
open Go.RowKit Wire
set_option linter.unusedVariables false
theorem uC_max (s : ByteArray) : uC s 18446744073709551615 = 0 := by
  unfold uC; rw [if_neg]; have := (xI_U64 s).2; omega
theorem num0_bad {s : ByteArray} {e : Int} (h : ¬ (e = 0 ∧ (rdS s).2.2 = 0)) (c : Int) : numV s e c = 0 ∧ numS s e c = s ∧ numE s e c = numE s e 0 ∧ numE s e 0 ≠ 0 := by
  refine ⟨?_, ?_, ?_, ?_⟩
  · unfold numV; rw [if_neg]; exact fun hh => h ⟨hh.1, hh.2.1⟩
  · unfold numS; rw [if_neg]; exact fun hh => h ⟨hh.1, hh.2.1⟩
  · unfold numE
    by_cases he : e = 0
    · rw [if_pos he, if_pos he, if_neg (fun hr => h ⟨he, hr⟩), if_neg (fun hr => h ⟨he, hr⟩)]
    · rw [if_neg he, if_neg he]
  · unfold numE
    by_cases he : e = 0
    · rw [if_pos he, if_neg (fun hr => h ⟨he, hr⟩)]
      intro hh; exact h ⟨he, by omega⟩
    · rw [if_neg he]; exact he
theorem num0_ok {s : ByteArray} (h : (rdS s).2.2 = 0) : numV s 0 0 = xI s ∧ numS s 0 0 = tl s (rdS s).2.1 ∧ numE s 0 0 = 0 := by
  refine ⟨by unfold numV; rw [if_pos ⟨rfl, h, rfl⟩]; rfl, by unfold numS; rw [if_pos ⟨rfl, h, rfl⟩], by unfold numE; rw [if_pos rfl, if_pos h]⟩
theorem numc {s : ByteArray} (h : (rdS s).2.2 = 0) {c : Int} (hc : c ≠ 0) : numV s 0 c = 0 ∧ numS s 0 c = s ∧ numE s 0 c = c := by
  refine ⟨by unfold numV; rw [if_neg (fun hh => hc hh.2.2)], by unfold numS; rw [if_neg (fun hh => hc hh.2.2)], by unfold numE; rw [if_pos rfl, if_pos h]⟩
theorem rmax {b : Nat} {s : ByteArray} {e0 : Int} {w : World} (h : RR w b s e0) :
    Calls Tryz.prog 82 #[.pointer (some ⟨b, 0, none⟩), .int .u64 18446744073709551615] w (RNumPost b w (numV s e0 0) (numS s e0 0) (numE s e0 0)) := by
  have := ruintm_any h 18446744073709551615; rw [uC_max] at this; exact this
theorem cC_cases (s : ByteArray) (most : Int) : ((most < 0 ∨ most < xI s) ∧ cC s most = 4) ∨ (0 ≤ most ∧ xI s ≤ most ∧ s.size - nI s < xI s ∧ cC s most = 10) ∨ (0 ≤ most ∧ xI s ≤ most ∧ xI s ≤ s.size - nI s ∧ cC s most = 0) := by
  unfold cC cntC
  by_cases h1 : most < 0 ∨ most < xI s
  · exact .inl ⟨h1, by rw [if_pos h1]⟩
  · by_cases h2 : (s.size : Int) - nI s < xI s
    · exact .inr (.inl ⟨by omega, by omega, h2, by rw [if_neg h1, if_pos h2]⟩)
    · exact .inr (.inr ⟨by omega, by omega, by omega, by rw [if_neg h1, if_neg h2]⟩)
set_option maxHeartbeats 1000000 in
theorem rcount_any {b : Nat} {s : ByteArray} {e0 : Int} {w : World} (h : RR w b s e0) (most : Int) (hm : I64 most) :
    Calls Tryz.prog 43 #[.pointer (some ⟨b, 0, none⟩), .int .i64 most] w (RIntPost b w (numV s e0 (cC s most)) (numS s e0 (cC s most)) (numE s e0 (cC s most))) := by
  have HH := Lib.hid h
  have c0 := h.c0
  have c1 := h.c1
  have HM := Lib.hid (rmax h)
  have hm0 := hm.1
  have hm1 := hm.2
  have hsz := h.sz
  unfold maxLen at hsz
  clear h hm
  by_cases hk : e0 = 0 ∧ (rdS s).2.2 = 0
  · obtain ⟨rfl, hr⟩ := hk
    have h0 := num0_ok hr
    have hle := rd_le hr
    have htl := tl_len s (rdS s).2.1 hle
    have hx := xI_U64 s
    have hx0 := hx.1
    have hx1 := hx.2
    have hc := cC_cases s most
    have hni : nI s = ((rdS s).2.1 : Nat) := rfl
    rw [hni] at hc
    generalize cC s most = c at *
    rcases hc with ⟨hc, rfl⟩ | ⟨q1, q2, q3, rfl⟩ | ⟨q1, q2, q3, rfl⟩
    · have hr0 := numc hr (c := 4) (by decide)
      rw [h0.1, h0.2.1, h0.2.2] at HM
      rw [hr0.1, hr0.2.1, hr0.2.2]
      have hc' : most < 0 ∨ (0 ≤ most ∧ most < xI s) := by omega
      generalize xI s = x at *
      generalize tl s (rdS s).2.1 = s1 at *
      clear hr0 h0 hc hr hx hni
      rcases hc' with hc | ⟨hc, hc2⟩
      · go_enter Tryz.func43, Tryz.ntmps43
        go_wp2_with (go_at_call 82; ((with_reducible refine HM.out.mono ?_); rintro e w1 ⟨rfl, h1, o1⟩; have H1 := Lib.hid h1; have d0 := h1.c0; have d1 := h1.c1; have hf1 : ∀ o, w1.frozen? ⟨b, o, none⟩ = false := h1.frozen; clear h1))
        go_ret
        exact ⟨rfl, (H1.out.setS s HH.out.sz).setE 4, o1.set1.set1⟩
      · go_enter Tryz.func43, Tryz.ntmps43
        go_wp2_with (go_at_call 82; ((with_reducible refine HM.out.mono ?_); rintro e w1 ⟨rfl, h1, o1⟩; have H1 := Lib.hid h1; have d0 := h1.c0; have d1 := h1.c1; have hf1 : ∀ o, w1.frozen? ⟨b, o, none⟩ = false := h1.frozen; clear h1))
        go_ret
        exact ⟨rfl, (H1.out.setS s HH.out.sz).setE 4, o1.set1.set1⟩
    · have hr0 := numc hr (c := 10) (by decide)
      rw [h0.1, h0.2.1, h0.2.2] at HM
      rw [hr0.1, hr0.2.1, hr0.2.2]
      generalize xI s = x at *
      generalize tl s (rdS s).2.1 = s1 at *
      have q3' : (s1.size : Int) < x := by omega
      clear hr0 h0 hr hx hni
      go_enter Tryz.func43, Tryz.ntmps43
      go_wp2_with (go_at_call 82; ((with_reducible refine HM.out.mono ?_); rintro e w1 ⟨rfl, h1, o1⟩; have H1 := Lib.hid h1; have d0 := h1.c0; have d1 := h1.c1; have hf1 : ∀ o, w1.frozen? ⟨b, o, none⟩ = false := h1.frozen; clear h1))
      go_ret
      exact ⟨rfl, (H1.out.setS s HH.out.sz).setE 10, o1.set1.set1⟩
    · rw [h0.1, h0.2.1, h0.2.2] at HM ⊢
      generalize xI s = x at *
      generalize tl s (rdS s).2.1 = s1 at *
      have q3' : x ≤ (s1.size : Int) := by omega
      clear h0 hr hx hni
      go_enter Tryz.func43, Tryz.ntmps43
      go_wp2_with (go_at_call 82; ((with_reducible refine HM.out.mono ?_); rintro e w1 ⟨rfl, h1, o1⟩; have H1 := Lib.hid h1; have d0 := h1.c0; have d1 := h1.c1; have hf1 : ∀ o, w1.frozen? ⟨b, o, none⟩ = false := h1.frozen; clear h1))
      go_ret
      exact ⟨rfl, H1.out, o1⟩
  · have h0 := num0_bad hk 0
    have ht := num0_bad hk (cC s most)
    rw [ht.1, ht.2.1, ht.2.2.1]
    rw [h0.1, h0.2.1] at HM
    have hne : (numE s e0 0 != 0) = true := by simpa using h0.2.2.2
    clear h0 ht hk
    generalize numE s e0 0 = e1 at *
    go_enter Tryz.func43, Tryz.ntmps43
    go_wp2_with (go_at_call 82; ((with_reducible refine HM.out.mono ?_); rintro e w1 ⟨rfl, h1, o1⟩; have H1 := Lib.hid h1; have d0 := h1.c0; have d1 := h1.c1; have hf1 : ∀ o, w1.frozen? ⟨b, o, none⟩ = false := h1.frozen; clear h1))
    go_ret
    exact ⟨rfl, H1.out, o1⟩
theorem tl_zero (s : ByteArray) : tl s 0 = s := by
  apply ba_eq; unfold tl; simp
set_option maxHeartbeats 1000000 in
theorem rtext_any {b : Nat} {s : ByteArray} {e0 : Int} {w : World} (h : RR w b s e0) (most : Int) (hm : I64 most) :
    Calls Tryz.prog 83 #[.pointer (some ⟨b, 0, none⟩), .int .i64 most] w (RTextPost b w (txV s e0 most) (txS s e0 most) (txE s e0 most)) := by
  have HN := Lib.hid (rcount_any h most hm)
  have hr := cnt_range (s := s) (e := e0) hm
  have hr1 := hr.1
  have hfit := cnt_fit (s := s) (e := e0) (most := most)
  have hS : txS s e0 most = tl (numS s e0 (cC s most)) (numV s e0 (cC s most)).toNat := by
    unfold txS
    split
    · rfl
    · rename_i he
      rw [numV_zero he]
      exact (tl_zero _).symm
  rw [hS]
  unfold txV txE
  clear h hm hr hS
  generalize numV s e0 (cC s most) = x at *
  generalize numS s e0 (cC s most) = s1 at *
  generalize numE s e0 (cC s most) = e1 at *
  obtain ⟨n, rfl⟩ := Int.eq_ofNat_of_zero_le hr1
  simp only [Int.toNat_natCast] at *
  go_enter Tryz.func83, Tryz.ntmps83
  go_wp2_with (go_at_call 43; ((with_reducible refine HN.out.mono ?_); rintro e w1 ⟨rfl, h1, o1⟩; have H1 := Lib.hid h1; have d0 := h1.c0; have d1 := h1.c1; have hsz := h1.sz; unfold maxLen at hsz; have hf1 : ∀ o, w1.frozen? ⟨b, o, none⟩ = false := h1.frozen; clear h1))
  go_ret
  exact ⟨rfl, H1.out.setS _ (Nat.le_trans (tl_size s1 _) H1.out.sz), o1.set1⟩
set_option maxHeartbeats 1000000 in
theorem rend_any {b : Nat} {s : ByteArray} {e0 : Int} {w : World} (h : RR w b s e0) : Calls Tryz.prog 45 #[.pointer (some ⟨b, 0, none⟩)] w (RIntPost b w (endE s e0) s (endE s e0)) := by
  have HH := Lib.hid h
  have c0 := h.c0
  have c1 := h.c1
  have hf : ∀ o, w.frozen? ⟨b, o, none⟩ = false := h.frozen
  clear h
  by_cases he : e0 = 0
  · subst he
    by_cases hs : s.size = 0
    · have := empty_of hs
      subst this
      have e1 : endE ⟨#[]⟩ 0 = 0 := by unfold endE; rw [if_neg (by simp [ByteArray.size])]
      rw [e1]
      clear hs e1
      go_enter Tryz.func45, Tryz.ntmps45
      go_wp2
      go_ret
      exact ⟨rfl, HH.out, Only.refl _ _⟩
    · have e1 : endE s 0 = 8 := by unfold endE; rw [if_pos ⟨rfl, hs⟩]
      rw [e1]
      have hne := ne_empty hs
      clear hs e1
      go_enter Tryz.func45, Tryz.ntmps45
      go_wp2
      go_ret
      exact ⟨rfl, HH.out.setE 8, (Only.refl _ _).set1⟩
  · have e1 : endE s e0 = e0 := by unfold endE; rw [if_neg (fun h => he h.1)]
    rw [e1]
    have he1 : (e0 == 0) = false := by simpa using he
    clear he e1
    go_enter Tryz.func45, Tryz.ntmps45
    go_wp2
    go_ret
    exact ⟨rfl, HH.out, Only.refl _ _⟩
end Go.Proofs.YtlahficmkfgooaaGreat


/- The walks of the program's writers of programs: an op's bytes. No condition but that the op has its form. -/
namespace Go.Proofs.YtlahficmkfgooaaGreat
open Go.RowKit Cd Wire
set_option linter.unusedVariables false
theorem nil_app (b : ByteArray) : (⟨#[]⟩ : ByteArray) ++ b = b := by apply ByteArray.ext; rw [ByteArray.data_append]; simp
theorem catS1 (g : Nat → ByteArray) : catS g 1 = g 0 := by rw [← catS_succ, catS_zero, nil_app]
theorem catS2 (g : Nat → ByteArray) : catS g 2 = g 0 ++ g 1 := by rw [← catS_succ, catS1]
theorem catS3 (g : Nat → ByteArray) : catS g 3 = g 0 ++ g 1 ++ g 2 := by rw [← catS_succ, catS2]
theorem uints1_any {x : Int} (hx : U64 x) {w : World} {g : Nat} {T : TypeId} (hb : Blk w g T #[.int .u64 x]) :
    Calls Tryz.prog 32 #[.slice (some ⟨g, 0, none⟩) 1 1] w fun e w' => e = .returned (.string (Num.lebS x)) ∧ Below w.heap.size w w' := by
  have := alls (uints_any (w := w) (v := .slice (some ⟨g, 0, none⟩) 1 1) (n := 1) (x := fun i => x) ⟨_, _, rfl, fun _ => ⟨g, 0, rfl, hb.lt, fun i hi => by
    have := hb.cell i
    rw [Nat.zero_add, this]
    have : i = 0 := by omega
    subst this; rfl⟩⟩ (by decide) (fun i hi => hx))
  exact this.mono fun e w' ⟨h1, h2⟩ => ⟨by rw [h1, catS1], h2⟩
theorem uints2_any {x y : Int} (hx : U64 x) (hy : U64 y) {w : World} {g : Nat} {T : TypeId} (hb : Blk w g T #[.int .u64 x, .int .u64 y]) :
    Calls Tryz.prog 32 #[.slice (some ⟨g, 0, none⟩) 2 2] w fun e w' => e = .returned (.string (Num.lebS x ++ Num.lebS y)) ∧ Below w.heap.size w w' := by
  have := alls (uints_any (w := w) (v := .slice (some ⟨g, 0, none⟩) 2 2) (n := 2) (x := fun i => if i = 0 then x else y) ⟨_, _, rfl, fun _ => ⟨g, 0, rfl, hb.lt, fun i hi => by
    have := hb.cell i
    rw [Nat.zero_add, this]
    have : i = 0 ∨ i = 1 := by omega
    rcases this with rfl | rfl <;> rfl⟩⟩ (by decide) (fun i hi => by
    have : i = 0 ∨ i = 1 := by omega
    rcases this with rfl | rfl
    · exact hx
    · exact hy))
  exact this.mono fun e w' ⟨h1, h2⟩ => ⟨by rw [h1, catS2]; rfl, h2⟩
theorem uints3_any {x y z : Int} (hx : U64 x) (hy : U64 y) (hz : U64 z) {w : World} {g : Nat} {T : TypeId} (hb : Blk w g T #[.int .u64 x, .int .u64 y, .int .u64 z]) :
    Calls Tryz.prog 32 #[.slice (some ⟨g, 0, none⟩) 3 3] w fun e w' => e = .returned (.string (Num.lebS x ++ Num.lebS y ++ Num.lebS z)) ∧ Below w.heap.size w w' := by
  have := alls (uints_any (w := w) (v := .slice (some ⟨g, 0, none⟩) 3 3) (n := 3) (x := fun i => if i = 0 then x else if i = 1 then y else z) ⟨_, _, rfl, fun _ => ⟨g, 0, rfl, hb.lt, fun i hi => by
    have := hb.cell i
    rw [Nat.zero_add, this]
    have : i = 0 ∨ i = 1 ∨ i = 2 := by omega
    rcases this with rfl | rfl | rfl <;> rfl⟩⟩ (by decide) (fun i hi => by
    have : i = 0 ∨ i = 1 ∨ i = 2 := by omega
    rcases this with rfl | rfl | rfl
    · exact hx
    · exact hy
    · exact hz))
  exact this.mono fun e w' ⟨h1, h2⟩ => ⟨by rw [h1, catS3]; rfl, h2⟩
theorem ints1_any {x : Int} (hx : I64 x) {w : World} {g : Nat} {T : TypeId} (hb : Blk w g T #[.int .i64 x]) :
    Calls Tryz.prog 34 #[.slice (some ⟨g, 0, none⟩) 1 1] w fun e w' => e = .returned (.string (intS x)) ∧ Below w.heap.size w w' := by
  have := alls (ints_any (w := w) (v := .slice (some ⟨g, 0, none⟩) 1 1) (n := 1) (x := fun i => x) ⟨_, _, rfl, fun _ => ⟨g, 0, rfl, hb.lt, fun i hi => by
    have := hb.cell i
    rw [Nat.zero_add, this]
    have : i = 0 := by omega
    subst this; rfl⟩⟩ (by decide) (fun i hi => hx))
  exact this.mono fun e w' ⟨h1, h2⟩ => ⟨by rw [h1, catS1], h2⟩
namespace Cd
def isE (o : OpV) (j : Nat) : Bool := if j = 0 then kd o.k else if j = 1 then ka o.k else kb o.k
def nE (o : OpV) (j : Nat) : Int := if j = 0 then o.d else if j = 1 then o.a else o.b
def acc (o : OpV) : Nat → ByteArray
  | 0 => Num.lebS o.k
  | j + 1 => if isE o j = true then acc o j ++ Num.lebS (nE o j) else acc o j
/-- An op's bytes. -/
def opS (o : OpV) : ByteArray := if kn o.k = true then acc o 3 ++ intS o.n else acc o 3
theorem form_reg {o : OpV} (h : formB o = true) (j : Nat) : 0 ≤ nE o j ∧ nE o j ≤ 16 := by
  unfold formB regB at h
  simp only [Bool.and_eq_true, decide_eq_true_eq] at h
  unfold nE
  split
  · omega
  · split <;> omega
theorem app_size (a b : ByteArray) : (a ++ b).size = a.size + b.size := ByteArray.size_append
theorem acc_size {o : OpV} (hk : U8 o.k) (h : formB o = true) (j : Nat) : (acc o j).size ≤ 10 * (j + 1) := by
  induction j with
  | zero => have := lebS_size (x := o.k) (by unfold U8 at hk; omega); simpa [acc] using this
  | succ j ih =>
    have h2 := form_reg h j
    have := lebS_size (x := nE o j) (by omega)
    unfold acc
    split
    · rw [app_size]; omega
    · omega
theorem opS_size {o : OpV} (ho : OkO o) (h : formB o = true) : (opS o).size ≤ 50 := by
  have h1 := acc_size ho.1 h 3
  have h2 := lebS_size (U64_zig ho.2.2.2.2).2
  unfold opS
  split
  · rw [app_size]; unfold intS; omega
  · omega
end Cd
end Go.Proofs.YtlahficmkfgooaaGreat


/- The walks of the program's writers of programs: 'written'. No condition but that the op has its form. -/
namespace Go.Proofs.YtlahficmkfgooaaGreat
open Go.RowKit Cd Wire
set_option linter.unusedVariables false
theorem Blk.new2 (w : World) (o : Obj) (T : TypeId) (A : Array Value) : Blk ((w.alloc o).alloc (.cells A T)) (w.heap.size + 1) T A := by
  have := Blk.new (w.alloc o) T A
  simpa using this
def PCut (w : World) (o : OpV) (p : Value) (wc : World) : Prop := ∃ b, p = .pointer (some ⟨b, 0, none⟩) ∧ Blk wc b 183 #[.bool (kd o.k), .bool (ka o.k), .bool (kb o.k), .bool (kn o.k)] ∧ Below (w.alloc (.cells (opA o) 170)).heap.size (w.alloc (.cells (opA o) 170)) wc
def WRel (w2 : World) (o : OpV) (s u : Value) (wr : World) : Prop := ∃ j : Nat, j ≤ 3 ∧ u = .int .i64 j ∧ s = .string (acc o j) ∧ Below w2.heap.size w2 wr
end Go.Proofs.YtlahficmkfgooaaGreat


/- The walk of the program's reader of an op: 'read'. No condition. -/
namespace Go.Proofs.YtlahficmkfgooaaGreat
open Go.RowKit Cd Wire
set_option linter.unusedVariables false
namespace Cd
/-- A reader's state. -/
structure RS where
  s : ByteArray
  e : Int
def uV (most : Int) (r : RS) : Int := numV r.s r.e (uC r.s most)
def uS (most : Int) (r : RS) : RS := ⟨numS r.s r.e (uC r.s most), numE r.s r.e (uC r.s most)⟩
def cV (most : Int) (r : RS) : Int := numV r.s r.e (cC r.s most)
def cS (most : Int) (r : RS) : RS := ⟨numS r.s r.e (cC r.s most), numE r.s r.e (cC r.s most)⟩
def iV (r : RS) : Int := Num.zag (numV r.s r.e (iC r.s (-9223372036854775808) 9223372036854775807))
def iS (r : RS) : RS := ⟨numS r.s r.e (iC r.s (-9223372036854775808) 9223372036854775807), numE r.s r.e (iC r.s (-9223372036854775808) 9223372036854775807)⟩
theorem uV_range {most : Int} {r : RS} (h : 0 ≤ most) : 0 ≤ uV most r ∧ uV most r ≤ most := by
  have h0 := (numV_U64 r.s r.e (uC r.s most)).1
  refine ⟨h0, ?_⟩
  unfold uV numV
  split
  · rename_i hc
    have := hc.2.2
    unfold uC xI at this
    split at this
    · omega
    · omega
  · exact h
theorem cV_range {most : Int} {r : RS} (h : 0 ≤ most) : 0 ≤ cV most r ∧ cV most r ≤ most := by
  have h0 := (numV_U64 r.s r.e (cC r.s most)).1
  refine ⟨h0, ?_⟩
  unfold cV numV
  split
  · rename_i hc
    have := hc.2.2
    unfold cC cntC xI at this
    split at this
    · omega
    · rename_i h2; omega
  · exact h
def setE (o : OpV) (j : Nat) (x : Int) : OpV := if j = 0 then { o with d := x } else if j = 1 then { o with a := x } else { o with b := x }
def hasE (k : Int) (j : Nat) : Bool := if j = 0 then kd k else if j = 1 then ka k else kb k
/-- What has been read of an op when its kind and j of its parts are. -/
def ptS (r : RS) : Nat → RS
  | 0 => uS 255 r
  | j + 1 => if hasE (uV 255 r) j = true then uS 16 (ptS r j) else ptS r j
def ptF (r : RS) : Nat → OpV
  | 0 => ⟨uV 255 r, 0, 0, 0, 0⟩
  | j + 1 => if hasE (uV 255 r) j = true then setE (ptF r j) j (uV 16 (ptS r j)) else ptF r j
def roS (r : RS) : RS := if kn (uV 255 r) = true then iS (ptS r 3) else ptS r 3
def roV (r : RS) : OpV := if kn (uV 255 r) = true then { ptF r 3 with n := iV (ptS r 3) } else ptF r 3
def roB (r : RS) : Bool := known (uV 255 r) && ((roS r).e == 0)
theorem setE_k (o : OpV) (j : Nat) (x : Int) : (setE o j x).k = o.k := by unfold setE; split; rfl; split <;> rfl
theorem ptF_k (r : RS) (j : Nat) : (ptF r j).k = uV 255 r := by
  induction j with
  | zero => rfl
  | succ j ih => unfold ptF; split; rw [setE_k]; exact ih; exact ih
theorem ptF_n (r : RS) (j : Nat) : (ptF r j).n = 0 := by
  induction j with
  | zero => rfl
  | succ j ih => unfold ptF; split; unfold setE; split; exact ih; split <;> exact ih; exact ih
theorem opA_setE (o : OpV) {j : Nat} (h : j < 3) (x : Int) : (opA o).setIfInBounds (j + 1) (.int .i64 x) = opA (setE o j x) := by
  have : j = 0 ∨ j = 1 ∨ j = 2 := by omega
  rcases this with rfl | rfl | rfl <;> rfl
end Cd
end Go.Proofs.YtlahficmkfgooaaGreat


/- Results of which the first is a struct in a block of the call's own. No condition. -/
namespace Go.Proofs.YtlahficmkfgooaaGreat
open Go.RowKit
theorem results_pair {P : Program} {fn : Func} {p u : Tmp} {ty T : TypeId} (h : fn.results = #[.cell p ty, .tmp u]) (tmps : Array Value) (w : World) {g : Nat} {cs : Array Value} {d : TypeDesc}
    (hp : tmps.getD p undef = .pointer (some ⟨g, 0, none⟩)) (hg : Blk w g T cs)
    (hu : P.underlying ty = some d) (hd : (match d with | .struct _ | .array _ _ => true | _ => false) = true) (hi : (P.info? ty).map (·.size) = some cs.size) :
    (results fn tmps).run P w = .ok (.tuple #[.agg cs, tmps.getD u undef]) w := by
  rw [results_cell_tmp h, hp]
  simp [asAddr, run_loadVar_row w g T ty cs (0, 0) d hg hu hd hi]
theorem ret_pair {P : Program} {fn : Func} {R : Ending → World → Prop} {a : Act} {p u : Tmp} {ty T : TypeId} {w : World} {g : Nat} {cs : Array Value} {d : TypeDesc} {v : Value} (h : fn.results = #[.cell p ty, .tmp u])
    (hp : a.tmps.getD p undef = .pointer (some ⟨g, 0, none⟩)) (hv : a.tmps.getD u undef = v) (hg : Blk w g T cs)
    (hu : P.underlying ty = some d) (hd : (match d with | .struct _ | .array _ _ => true | _ => false) = true) (hi : (P.info? ty).map (·.size) = some cs.size) (hdf : a.defers = [])
    (hR : R (.returned (.tuple #[.agg cs, v])) w) : bodyPost P fn R .ret a w := by
  subst hv
  exact bodyPost_ret (results_pair h _ w hp hg hu hd hi) hdf hR
theorem ret_cell {P : Program} {fn : Func} {R : Ending → World → Prop} {a : Act} {p : Tmp} {ty T : TypeId} {w : World} {g : Nat} {cs : Array Value} {d : TypeDesc} (h : fn.results = #[.cell p ty])
    (hp : a.tmps.getD p undef = .pointer (some ⟨g, 0, none⟩)) (hg : Blk w g T cs)
    (hu : P.underlying ty = some d) (hd : (match d with | .struct _ | .array _ _ => true | _ => false) = true) (hi : (P.info? ty).map (·.size) = some cs.size) (hdf : a.defers = [])
    (hR : R (.returned (.agg cs)) w) : bodyPost P fn R .ret a w :=
  bodyPost_ret (results_cell_row h _ w g T cs (0, 0) d hp hg hu hd hi) hdf hR
end Go.Proofs.YtlahficmkfgooaaGreat
