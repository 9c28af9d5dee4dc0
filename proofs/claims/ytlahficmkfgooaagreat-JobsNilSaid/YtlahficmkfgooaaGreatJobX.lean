import Derived.Test.YtlahficmkfgooaaGreatJobW
import Derived.Test.YtlahficmkfgooaaGreatMge

/- The walk of JobsNil; a script and rows that came in, opened out of their readings. No condition. -/
namespace Go.Proofs.YtlahficmkfgooaaGreat
open Go.RowKit Go.Maps Jb
set_option linter.unusedVariables false
set_option linter.unusedSimpArgs false
/-- A step handed over, that reads as s. -/
def StV (W : World) (v : Value) (s : StJ) : Prop := ∃ vi, IntsAt W vi s.inp ∧ v = .agg (scells s vi).toArray
set_option maxRecDepth 100000 in
set_option maxHeartbeats 4000000 in
theorem jnil_t {W : World} {v : Value} {s : StJ} (hv : StV W v s) : Calls Tryz.prog 4 #[v] W fun e w' => e = .returned (.bool true) ∧ Below W.heap.size W w' := by
  obtain ⟨vi, hi, rfl⟩ := hv
  obtain ⟨xk, xt, xp, xi, xf, xj, xv, xe⟩ := s
  dsimp only at hi
  obtain ⟨pi, ci, rfl⟩ := hi.slice
  have HG0 := Lib.hid (Blk.new W 41 #[.int .u8 xk, .string xt, .string xp, .slice pi xi.length ci, .int .i64 xf, .int .u64 xj, .int .i64 xv, .int .i64 xe])
  have HB0 := Lib.hid ((Below.refl _ W).alloc (Nat.le_refl _) (.cells #[.int .u8 xk, .string xt, .string xp, .slice pi xi.length ci, .int .i64 xf, .int .u64 xj, .int .i64 xv, .int .i64 xe] 41))
  have HI0 := Lib.hid (hi.below HB0.out)
  have hh := heavy_j (scr1 (s := ⟨xk, xt, xp, xi, xf, xj, xv, xe⟩) (v := .slice pi xi.length ci) HI0.out)
  rw [show (W.alloc (.cells #[.int .u8 xk, .string xt, .string xp, .slice pi xi.length ci, .int .i64 xf, .int .u64 xj, .int .i64 xv, .int .i64 xe] 41)).heap.size = W.heap.size + 1 by simp] at hh
  have HH := Lib.hid hh
  have HB1 := Lib.hid (HB0.out.alloc HB0.out.size (.cells #[.int .u8 xk, .string xt, .string xp, .slice pi xi.length ci, .int .i64 xf, .int .u64 xj, .int .i64 xv, .int .i64 xe] 41))
  have HG1 := Lib.hid (HG0.out.alloc (.cells #[.int .u8 xk, .string xt, .string xp, .slice pi xi.length ci, .int .i64 xf, .int .u64 xj, .int .i64 xv, .int .i64 xe] 41))
  clear hi hh
  unfold scells at HH ⊢
  dsimp only at HH ⊢
  go_enter Tryz.func4, Tryz.ntmps4
  go_wp2_with fail
  (with_reducible refine HH.out.mono ?_)
  rintro e w1 ⟨⟨r, rfl, _⟩, hb⟩
  have HB2 := Lib.hid (HB1.out.trans (hb.mono HB1.out.size))
  have HG2 := Lib.hid (HG1.out.below hb)
  clear HH hb HB1 HG1 HB0 HG0 HI0
  have k1 : w1.cell? ⟨W.heap.size, 1, none⟩ = some (.string xt) := HG2.out.cell 1
  have k2 : w1.cell? ⟨W.heap.size, 2, none⟩ = some (.string xp) := HG2.out.cell 2
  have k3 : w1.cell? ⟨W.heap.size, 3, none⟩ = some (.slice pi xi.length ci) := HG2.out.cell 3
  have k4 : w1.cell? ⟨W.heap.size, 4, none⟩ = some (.int .i64 xf) := HG2.out.cell 4
  have k5 : w1.cell? ⟨W.heap.size, 5, none⟩ = some (.int .u64 xj) := HG2.out.cell 5
  cases r with
  | true =>
    go_wp2_with (go_at_call 8; go_loud ((with_reducible refine Calls.mono (alive_t _) ?_); rintro e w9 ⟨rfl, hbw⟩; have HBW := Lib.hid (HB2.out.trans (hbw.mono HB2.out.size)); clear hbw))
    go_ret
    exact ⟨rfl, HBW.out⟩
  | false =>
    go_upto_region 5 with (go_at_call 15; go_loud ((with_reducible refine Calls.mono (submit_nil _ _ _ _ _) ?_); rintro e w9 ⟨rfl, hw9⟩; have hw9 := hw9.symm; subst hw9))
    go_upto_region 6 with (go_at_call 16; go_loud ((with_reducible refine Calls.mono (find_nil _ _) ?_); rintro e w2 ⟨rfl, hb⟩; have HB3 := Lib.hid (HB2.out.step hb); have HG3 := Lib.hid (HG2.out.below hb); clear hb))
    have HB4 := Lib.hid (HB3.out.alloc HB3.out.size (.cells #[.int .u64 0, .string ⟨#[]⟩, .string ⟨#[]⟩, .slice none 0 0, .int .i64 0, .int .u8 0, .int .i64 0, .int .i64 0] 48))
    have HG4 := Lib.hid (HG3.out.alloc (.cells #[.int .u64 0, .string ⟨#[]⟩, .string ⟨#[]⟩, .slice none 0 0, .int .i64 0, .int .u8 0, .int .i64 0, .int .i64 0] 48))
    clear HB3 HG3 HB2 HG2 k1 k2 k3 k4 k5
    generalize w2.alloc (.cells #[.int .u64 0, .string ⟨#[]⟩, .string ⟨#[]⟩, .slice none 0 0, .int .i64 0, .int .u8 0, .int .i64 0, .int .i64 0] 48) = w3 at *
    have k5 : w3.cell? ⟨W.heap.size, 5, none⟩ = some (.int .u64 xj) := HG4.out.cell 5
    go_upto_region 7 with (go_at_call 17; go_loud ((with_reducible refine Calls.mono (cancel_nil _ _) ?_); rintro e w4 ⟨rfl, hb⟩; have HB5 := Lib.hid (HB4.out.step hb); have HG5 := Lib.hid (HG4.out.below hb); clear hb))
    clear k5 HB4 HG4
    have k5 : w4.cell? ⟨W.heap.size, 5, none⟩ = some (.int .u64 xj) := HG5.out.cell 5
    have k6 : w4.cell? ⟨W.heap.size, 6, none⟩ = some (.int .i64 xv) := HG5.out.cell 6
    have k7 : w4.cell? ⟨W.heap.size, 7, none⟩ = some (.int .i64 xe) := HG5.out.cell 7
    go_wp2_with (first
      | (go_at_call 18; go_loud ((with_reducible refine Calls.mono (done_nil _ _ _ _) ?_); rintro e w5 ⟨rfl, hb⟩; have HB6 := Lib.hid (HB5.out.step hb); clear hb))
      | (go_at_call 19; go_loud ((with_reducible refine Calls.mono (pending_nil _) ?_); rintro e w9 ⟨rfl, hw9⟩; have hw9 := hw9.symm; subst hw9))
      | (go_at_call 20; go_loud ((with_reducible refine Calls.mono (rows_nil _) ?_); rintro e w9 ⟨rfl, hw9⟩; have hw9 := hw9.symm; try subst hw9))
      | (go_at_call 21; go_loud ((with_reducible refine Calls.mono (last_nil _) ?_); rintro e w9 ⟨rfl, hw9⟩; have hw9 := hw9.symm; try subst hw9))
      | (go_at_call 8; go_loud ((with_reducible refine Calls.mono (alive_t _) ?_); rintro e w8 ⟨rfl, hbw⟩; have HBW := Lib.hid (HB6.out.trans (hbw.mono HB6.out.size)); clear hbw)))
    go_ret
    exact ⟨rfl, HBW.out⟩
def StOk (s : StJ) : Prop := (0 ≤ s.k ∧ s.k ≤ 255) ∧ U64 s.job ∧ I64 s.val ∧ I64 s.err ∧ I64 s.fuel ∧ (∀ x ∈ s.inp, I64 x)
def RwOk (s : JR) : Prop := U64 s.job ∧ I64 s.val ∧ I64 s.err ∧ I64 s.fuel ∧ (0 ≤ s.st ∧ s.st ≤ 255) ∧ (∀ x ∈ s.inp, I64 x)
section
open Go.ChangeShapes Go.WideShapes Go.Deep
variable {H : Type} {enc : TypeId × Value → H} {W : World} {base : Nat} {held : Bool}
/-- A field of a struct's cells that is a struct itself. -/
theorem open_part {P : Program} {w : World} {t : TypeId} {fs : Array Field} {fuel : Nat} {cs : List Value} {x : DataW H × List MemPlace} (hs : P.underlying t = some (.struct fs)) (h : DataW.trod enc P w base (fun _ => true) held fuel t cs = some x)
    (i : Nat) (f : Field) (hf : fs[i]? = some f) (o : Nat) (ho : f.offset = o) {k : Nat} (hc : P.cellsOf f.type = k) :
    ∃ m y, DataW.trod enc P w base (fun _ => true) held m f.type ((cs.drop o).take k) = some y := by
  obtain ⟨xs, m, _, _, _, hl, hx⟩ := DataW.trod_struct hs h
  have := hx i f hf
  have hi : i < fs.size := (Array.getElem?_eq_some_iff.1 hf).1
  rw [ho, hc, List.getElem?_eq_getElem (by omega)] at this
  exact ⟨m, xs[i]'(by omega), this⟩
theorem ju64_of {n : Int} (h : (Lit.int .u64 n).wf = true) : U64 n := by have := bounds_u64 h; unfold U64; omega
theorem ji64_of {n : Int} (h : (Lit.int .i64 n).wf = true) : I64 n := by have := bounds_i64 h; unfold I64; omega
theorem open_jints {v : Value} {fuel : Nat} {x : DataW H × List MemPlace} (hf : DataW.trod enc Tryz.prog W base (fun _ => true) held fuel 36 [v] = some x) : ∃ l, IntsAt W v l ∧ ∀ i ∈ l, I64 i := by
  obtain ⟨p, n, cap, rfl, h⟩ := open_cell_rows (e := 2) (m := 1) Tryz.underlying36 (by kernel_rfl) (by decide) hf
  by_cases hn : 0 < n
  · obtain ⟨g, off, rfl, hg, hx⟩ := h hn
    have key : ∀ i, i < n → ∃ a : Int, W.cell? ⟨g, off + i, none⟩ = some (.int .i64 a) ∧ I64 a := fun i hi => by
      obtain ⟨cs, fu, y, hlen, hcell, hy⟩ := hx i hi
      match cs, hlen with
      | [c0], _ =>
        obtain ⟨n0, z0, _, w0⟩ := DataW.trod_int (k := .i64) (by kernel_rfl) hy
        injection z0 with z0
        refine ⟨n0, ?_, ji64_of w0⟩
        have := hcell 0 (by decide)
        rw [Nat.mul_one, Nat.add_zero] at this
        rw [this, z0]; rfl
    obtain ⟨ax, hax⟩ := choose_fn key
    refine ⟨(List.range n).map ax, ⟨_, cap, by simp, fun _ => ⟨g, off, rfl, hg, fun i hi => ?_⟩⟩, fun a ha => ?_⟩
    · have hi' : i < n := by simpa using hi
      rw [(hax i hi').1]; simp
    · obtain ⟨i, hi, rfl⟩ := List.mem_map.1 ha
      exact (hax i (List.mem_range.1 hi)).2
  · have : n = 0 := by omega
    subst this
    exact ⟨[], ⟨p, cap, rfl, fun h => by simp at h⟩, fun o h => by simp at h⟩
theorem jinj1 {a b : Value} (h : [a] = [b]) : a = b := by injection h
theorem two_eq {a b c d : Value} (h1 : [a] = [c]) (h2 : [b] = [d]) : [a, b] = [c, d] := by rw [jinj1 h1, jinj1 h2]
theorem el_jres {cs : List Value} {fuel : Nat} {x : DataW H × List MemPlace} (hl : cs.length = 2) (h : DataW.trod enc Tryz.prog W base (fun _ => true) held fuel 39 cs = some x) : ∃ a b, cs = [.int .i64 a, .int .i64 b] ∧ I64 a ∧ I64 b := by
  match cs, hl with
  | [c0, c1], _ =>
    obtain ⟨m0, y0, e0⟩ := open_field (P := Tryz.prog) (t := 39) Tryz.underlying39 h 0 _ rfl 0 rfl (by kernel_rfl) (by simp)
    obtain ⟨m1, y1, e1⟩ := open_field (P := Tryz.prog) (t := 39) Tryz.underlying39 h 1 _ rfl 1 rfl (by kernel_rfl) (by simp)
    obtain ⟨n0, z0, _, w0⟩ := DataW.trod_int (k := .i64) (by kernel_rfl) e0
    obtain ⟨n1, z1, _, w1⟩ := DataW.trod_int (k := .i64) (by kernel_rfl) e1
    exact ⟨n0, n1, two_eq z0 z1, ji64_of w0, ji64_of w1⟩
set_option maxRecDepth 100000 in
theorem el_step {cs : List Value} {fuel : Nat} {x : DataW H × List MemPlace} (hl : cs.length = 8) (h : DataW.trod enc Tryz.prog W base (fun _ => true) held fuel 41 cs = some x) : ∃ s v, cs = scells s v ∧ IntsAt W v s.inp ∧ StOk s := by
  match cs, hl with
  | [c0, c1, c2, c3, c4, c5, c6, c7], _ =>
    have f := fun (k : Nat) (fd : Field) (hf : _) (ho : fd.offset = k) (hc : Tryz.prog.cellsOf fd.type = 1) (hlt : k < [c0, c1, c2, c3, c4, c5, c6, c7].length) => open_field (P := Tryz.prog) (t := 41) Tryz.underlying41 h k fd hf k ho hc hlt
    obtain ⟨m0, y0, e0⟩ := f 0 _ rfl rfl (by kernel_rfl) (by simp)
    obtain ⟨m1, y1, e1⟩ := f 1 _ rfl rfl (by kernel_rfl) (by simp)
    obtain ⟨m2, y2, e2⟩ := f 2 _ rfl rfl (by kernel_rfl) (by simp)
    obtain ⟨m3, y3, e3⟩ := f 3 _ rfl rfl (by kernel_rfl) (by simp)
    obtain ⟨m4, y4, e4⟩ := f 4 _ rfl rfl (by kernel_rfl) (by simp)
    obtain ⟨m5, y5, e5⟩ := f 5 _ rfl rfl (by kernel_rfl) (by simp)
    obtain ⟨m6, y6, e6⟩ := open_part (P := Tryz.prog) (t := 41) Tryz.underlying41 h 6 _ rfl 6 rfl (k := 2) (by kernel_rfl)
    obtain ⟨n0, z0, _, w0⟩ := DataW.trod_int (k := .u8) (by kernel_rfl) e0
    obtain ⟨n1, z1, _⟩ := DataW.trod_string (by kernel_rfl) e1
    obtain ⟨n2, z2, _⟩ := DataW.trod_string (by kernel_rfl) e2
    obtain ⟨l, hla, hlb⟩ := open_jints e3
    obtain ⟨n4, z4, _, w4⟩ := DataW.trod_int (k := .i64) (by kernel_rfl) e4
    obtain ⟨n5, z5, _, w5⟩ := DataW.trod_int (k := .u64) (by kernel_rfl) e5
    obtain ⟨n6, n7, z6, w6, w7⟩ := el_jres rfl e6
    have h0 : c0 = .int .u8 n0 := jinj1 z0
    have h1 : c1 = .string n1 := jinj1 z1
    have h2 : c2 = .string n2 := jinj1 z2
    have h4 : c4 = .int .i64 n4 := jinj1 z4
    have h5 : c5 = .int .u64 n5 := jinj1 z5
    have h67 : [c6, c7] = [.int .i64 n6, .int .i64 n7] := z6
    injection h67 with h6 h7
    have h7 := jinj1 h7
    exact ⟨⟨n0, n1, n2, l, n4, n5, n6, n7⟩, c3, by rw [h0, h1, h2, h4, h5, h6, h7]; rfl, hla, ⟨by have := bounds_u8 w0; dsimp only; omega, ju64_of w5, w6, w7, ji64_of w4, hlb⟩⟩
set_option maxRecDepth 100000 in
theorem el_jrow {cs : List Value} {fuel : Nat} {x : DataW H × List MemPlace} (hl : cs.length = 8) (h : DataW.trod enc Tryz.prog W base (fun _ => true) held fuel 48 cs = some x) : ∃ s v, cs = jcells s v ∧ IntsAt W v s.inp ∧ RwOk s := by
  match cs, hl with
  | [c0, c1, c2, c3, c4, c5, c6, c7], _ =>
    have f := fun (k : Nat) (fd : Field) (hf : _) (ho : fd.offset = k) (hc : Tryz.prog.cellsOf fd.type = 1) (hlt : k < [c0, c1, c2, c3, c4, c5, c6, c7].length) => open_field (P := Tryz.prog) (t := 48) Tryz.underlying48 h k fd hf k ho hc hlt
    obtain ⟨m0, y0, e0⟩ := f 0 _ rfl rfl (by kernel_rfl) (by simp)
    obtain ⟨m1, y1, e1⟩ := f 1 _ rfl rfl (by kernel_rfl) (by simp)
    obtain ⟨m2, y2, e2⟩ := f 2 _ rfl rfl (by kernel_rfl) (by simp)
    obtain ⟨m3, y3, e3⟩ := f 3 _ rfl rfl (by kernel_rfl) (by simp)
    obtain ⟨m4, y4, e4⟩ := f 4 _ rfl rfl (by kernel_rfl) (by simp)
    obtain ⟨m5, y5, e5⟩ := f 5 _ rfl rfl (by kernel_rfl) (by simp)
    obtain ⟨m6, y6, e6⟩ := open_part (P := Tryz.prog) (t := 48) Tryz.underlying48 h 6 _ rfl 6 rfl (k := 2) (by kernel_rfl)
    obtain ⟨n0, z0, _, w0⟩ := DataW.trod_int (k := .u64) (by kernel_rfl) e0
    obtain ⟨n1, z1, _⟩ := DataW.trod_string (by kernel_rfl) e1
    obtain ⟨n2, z2, _⟩ := DataW.trod_string (by kernel_rfl) e2
    obtain ⟨l, hla, hlb⟩ := open_jints e3
    obtain ⟨n4, z4, _, w4⟩ := DataW.trod_int (k := .i64) (by kernel_rfl) e4
    obtain ⟨n5, z5, _, w5⟩ := DataW.trod_int (k := .u8) (by kernel_rfl) e5
    obtain ⟨n6, n7, z6, w6, w7⟩ := el_jres rfl e6
    have h0 : c0 = .int .u64 n0 := jinj1 z0
    have h1 : c1 = .string n1 := jinj1 z1
    have h2 : c2 = .string n2 := jinj1 z2
    have h4 : c4 = .int .i64 n4 := jinj1 z4
    have h5 : c5 = .int .u8 n5 := jinj1 z5
    have h67 : [c6, c7] = [.int .i64 n6, .int .i64 n7] := z6
    injection h67 with h6 h7
    have h7 := jinj1 h7
    exact ⟨⟨n0, n1, n2, l, n4, n5, n6, n7⟩, c3, by rw [h0, h1, h2, h4, h5, h6, h7]; rfl, hla, ⟨ju64_of w0, w6, w7, ji64_of w4, by have := bounds_u8 w5; dsimp only; omega, hlb⟩⟩
set_option maxRecDepth 100000 in
theorem open_step {r : Reach} {b0 : Nat} {v : Value} {d : DataW H} {ps : List MemPlace} (hval : Value.okWide Tryz.prog W r b0 41 v) (hd : DataW.Trod enc Tryz.prog W base (fun _ => true) held 41 v d ps) : ∃ s, StV W v s ∧ StOk s := by
  obtain ⟨cs, rfl, hsz⟩ := okWide_struct Tryz.underlying41 hval
  obtain ⟨fuel, hf⟩ := hd
  have hs : cs.size = 8 := by rw [hsz]; kernel_rfl
  have hl : cs.toList.length = 8 := by simpa using hs
  obtain ⟨s, v, h1, h2, h3⟩ := el_step hl hf
  refine ⟨s, ⟨v, h2, ?_⟩, h3⟩
  congr 1
  rw [← h1]
set_option maxRecDepth 100000 in
theorem open_script {r : Reach} {b0 : Nat} {v : Value} {d : DataW H} {ps : List MemPlace} (hval : Value.okWide Tryz.prog W r b0 43 v) (hd : DataW.Trod enc Tryz.prog W base (fun _ => true) held 43 v d ps) : ∃ l, ScrAt W v l ∧ ∀ s ∈ l, StOk s := by
  obtain ⟨p, n, cap, rfl, h⟩ := open_rows (e := 41) (m := 8) Tryz.underlying43 (by kernel_rfl) (by decide) hval hd
  by_cases hn : 0 < n
  · obtain ⟨g, off, rfl, hg, hx⟩ := h hn
    have key : ∀ i, i < n → ∃ s : StJ, StAt W g (off + i * 8) s ∧ StOk s := by
      intro i hi
      obtain ⟨cs, fu, x, hlen, hcell, hy⟩ := hx i hi
      obtain ⟨s, v, rfl, h2, h3⟩ := el_step hlen hy
      exact ⟨s, ⟨v, h2, fun j u hu => by
        have hj : j < 8 := (List.getElem?_eq_some_iff.1 hu).1
        rw [hcell j hj, hu]⟩, h3⟩
    obtain ⟨sx, hsx⟩ := choose_fn key
    refine ⟨(List.range n).map sx, ⟨_, cap, by simp, fun _ => ⟨g, off, rfl, hg, fun i hi => ?_⟩⟩, fun a ha => ?_⟩
    · have hi' : i < n := by simpa using hi
      have := (hsx i hi').1
      simpa using this
    · obtain ⟨i, hi, rfl⟩ := List.mem_map.1 ha
      exact (hsx i (List.mem_range.1 hi)).2
  · have : n = 0 := by omega
    subst this
    exact ⟨[], ⟨p, cap, rfl, fun h => by simp at h⟩, fun o h => by simp at h⟩
set_option maxRecDepth 100000 in
theorem open_jrows {r : Reach} {b0 : Nat} {v : Value} {d : DataW H} {ps : List MemPlace} (hval : Value.okWide Tryz.prog W r b0 22 v) (hd : DataW.Trod enc Tryz.prog W base (fun _ => true) held 22 v d ps) : ∃ l, RowsAt W v l ∧ ∀ s ∈ l, RwOk s := by
  obtain ⟨p, n, cap, rfl, h⟩ := open_rows (e := 48) (m := 8) Tryz.underlying22 (by kernel_rfl) (by decide) hval hd
  by_cases hn : 0 < n
  · obtain ⟨g, off, rfl, hg, hx⟩ := h hn
    have key : ∀ i, i < n → ∃ s : JR, RowAt W g (off + i * 8) s ∧ RwOk s := by
      intro i hi
      obtain ⟨cs, fu, x, hlen, hcell, hy⟩ := hx i hi
      obtain ⟨s, v, rfl, h2, h3⟩ := el_jrow hlen hy
      exact ⟨s, ⟨v, h2, fun j u hu => by
        have hj : j < 8 := (List.getElem?_eq_some_iff.1 hu).1
        rw [hcell j hj, hu]⟩, h3⟩
    obtain ⟨sx, hsx⟩ := choose_fn key
    refine ⟨(List.range n).map sx, ⟨_, cap, by simp, fun _ => ⟨g, off, rfl, hg, fun i hi => ?_⟩⟩, fun a ha => ?_⟩
    · have hi' : i < n := by simpa using hi
      have := (hsx i hi').1
      simpa using this
    · obtain ⟨i, hi, rfl⟩ := List.mem_map.1 ha
      exact (hsx i (List.mem_range.1 hi)).2
  · have : n = 0 := by omega
    subst this
    exact ⟨[], ⟨p, cap, rfl, fun h => by simp at h⟩, fun o h => by simp at h⟩
set_option maxRecDepth 100000 in
/-- The walk, of an argument as it came in. -/
theorem jnil_w {r : Reach} {b0 : Nat} {v : Value} {d : DataW H} {ps : List MemPlace} (hval : Value.okWide Tryz.prog W r b0 41 v) (hd : DataW.Trod enc Tryz.prog W base (fun _ => true) held 41 v d ps) (lt : ∀ x ∈ ps, x.block < W.heap.size) :
    Calls Tryz.prog 4 #[v] W fun e w' => e = .returned (.bool true) ∧ Below W.heap.size W w' := by
  obtain ⟨s, hs, _⟩ := open_step hval hd
  exact jnil_t hs
end
end Go.Proofs.YtlahficmkfgooaaGreat
