import Derived.Test.YtlahficmkfgooaaGreatMgq
import Derived.Test.YtlahficmkfgooaaGreatCodeFa

/- The walk of Decode. No condition but that the text is not beyond any bound. -/
namespace Go.Proofs.YtlahficmkfgooaaGreat
open Go.RowKit Jb Wire
set_option linter.unusedVariables false
set_option linter.unusedSimpArgs false
theorem juint {b : Nat} {q : Ms.RS} {w : World} (h : PR w b q.s q.e) (most : Int) : Calls Tryz.prog 39 #[.pointer (some ⟨b, 0, none⟩), .int .u64 most] w (NumPost b w (Ms.uV most q) (Ms.uS most q).s (Ms.uS most q).e) := puint_any h most
theorem jcount {b : Nat} {q : Ms.RS} {w : World} (h : PR w b q.s q.e) (most : Int) (hm : I64 most) : Calls Tryz.prog 38 #[.pointer (some ⟨b, 0, none⟩), .int .i64 most] w (IntPost b w (Ms.cV most q) (Ms.cS most q).s (Ms.cS most q).e) := pcount_any h most hm
theorem jint {b : Nat} {q : Ms.RS} {w : World} (h : PR w b q.s q.e) : Calls Tryz.prog 41 #[.pointer (some ⟨b, 0, none⟩), .int .i64 (-9223372036854775808), .int .i64 9223372036854775807] w (IntPost b w (Ms.iV q) (Ms.iS q).s (Ms.iS q).e) := pint_any h _ _
theorem jtext {b : Nat} {q : Ms.RS} {w : World} (h : PR w b q.s q.e) (most : Int) (hm : I64 most) : Calls Tryz.prog 40 #[.pointer (some ⟨b, 0, none⟩), .int .i64 most] w (TextPost b w (Ms.tV most q) (Ms.tS most q).s (Ms.tS most q).e) := ptext_any h most hm
structure OutJ (W : World) (b n : Nat) (qs : Ms.RS) (i : Nat) (l : List JR) (q : Ms.RS) (v : Value) (wr : World) : Prop where
  len : l.length = i
  eq : accA rowA n [] qs = accA rowA (n - i) l q
  p : PR wr b q.s q.e
  row : JRow wr W.heap.size v l
  bel : Below W.heap.size W wr
def OutJRel (W : World) (b n : Nat) (qs : Ms.RS) (u v : Value) (wr : World) : Prop := ∃ i l q, i ≤ n ∧ u = .int .i64 (i : Nat) ∧ OutJ W b n qs i l q v wr
def xcells (xj : Int) (xt xp : ByteArray) (vi : Value) : Array Value := #[.int .u64 xj, .string xt, .string xp, vi, .int .i64 0, .int .u8 0, .int .i64 0, .int .i64 0]
structure InJ (w0 : World) (P b m : Nat) (xj : Int) (xt xp : ByteArray) (q4 : Ms.RS) (j : Nat) (li : List Int) (q : Ms.RS) (vi : Value) (wq : World) : Prop where
  len : li.length = j
  eq : accA Ms.rI m [] q4 = accA Ms.rI (m - j) li q
  f : Blk wq P 48 (xcells xj xt xp vi)
  p : PR wq b q.s q.e
  row : IRow wq w0.heap.size vi li
  only : Only (· = b) w0 wq
def InJRel (w0 : World) (P b m : Nat) (xj : Int) (xt xp : ByteArray) (q4 : Ms.RS) (u : Value) (wq : World) : Prop := ∃ j li q vi, j ≤ m ∧ u = .int .i64 (j : Nat) ∧ InJ w0 P b m xj xt xp q4 j li q vi wq
/-- While a row's cells are laid. -/
structure XSt (wz : World) (b P : Nat) (A : Array Value) (q : Ms.RS) (vi : Value) (li : List Int) (w : World) : Prop where
  f : Blk w P 48 A
  p : PR w b q.s q.e
  row : IRow w wz.heap.size vi li
  only : Only (· = b) wz w
theorem XSt.call {wz : World} {b P : Nat} {A : Array Value} {q q' : Ms.RS} {vi : Value} {li : List Int} {w w' : World} (h : XSt wz b P A q vi li w) (hb : b < P) (hP : PR w' b q'.s q'.e) (hO : Only (· = b) w w') : XSt wz b P A q' vi li w' :=
  ⟨h.f.only hO (by omega), hP, owns_only h.row hO (owns_ne h.row h.p.blk (by decide)), h.only.trans hO⟩
theorem XSt.set {wz : World} {b P : Nat} {A : Array Value} {q : Ms.RS} {vi : Value} {li : List Int} {w : World} (h : XSt wz b P A q vi li w) (hb : b < P) (hP : wz.heap.size ≤ P) (o : Nat) (v : Value) : XSt wz b P (A.setIfInBounds o v) q vi li (w.setCell ⟨P, o, none⟩ v) :=
  ⟨h.f.set o v, ⟨h.p.blk.set_ne _ (by show b ≠ P; omega), h.p.sz⟩, owns_only h.row ((Only.refl (· = P) w).set1) (owns_ne h.row h.f (by decide)), h.only.setCell (Or.inr hP) _⟩
theorem accA_at {α : Type} {r : Ms.RS → α × Ms.RS} {m j : Nat} {l : List α} {q : Ms.RS} (h : j < m) : accA r (m - j) l q = accA r (m - (j + 1)) (l ++ [(r q).1]) (r q).2 := by
  rw [show m - j = (m - (j + 1)) + 1 from by omega]; rfl
theorem accA_out {α : Type} {r : Ms.RS → α × Ms.RS} {m j : Nat} {l : List α} {q : Ms.RS} (h : ¬ j < m) : accA r (m - j) l q = (l, q) := by
  rw [show m - j = 0 from by omega]; rfl
theorem rowA_ok (q : Ms.RS) : U64 (rowA q).1.job ∧ (rowA q).1.tok.size ≤ maxLen ∧ (rowA q).1.inp.length ≤ 100 := by
  refine ⟨?_, ?_, ?_⟩
  · have h := uV_bd (m := 281474976710656) (by decide) q
    show U64 (Ms.uV 281474976710656 q)
    unfold U64; omega
  · have h := tV_bd (m := 32) (by decide) (by decide) (Ms.uS 281474976710656 q)
    show (Ms.tV 32 (Ms.uS 281474976710656 q)).size ≤ maxLen
    unfold maxLen; omega
  · show (accA Ms.rI _ [] _).1.length ≤ 100
    rw [accA_len]
    have h := cV_bd (m := 16) (by decide) (Ms.rT 16384 (Ms.rT 32 (Ms.rU 281474976710656 q).2).2).2
    simp
    omega
def DecJP (W : World) (s : ByteArray) (e : Ending) (w' : World) : Prop := ∃ v, e = .returned (.tuple #[v, .int .i64 (decJ s).2]) ∧ JRow w' W.heap.size v (decJ s).1 ∧ Below W.heap.size W w'
set_option maxRecDepth 100000 in
set_option maxHeartbeats 8000000 in
theorem jdec_any (s : ByteArray) (hs : s.size ≤ maxLen) (W : World) : Calls Tryz.prog 11 #[.string s] W (DecJP W s) := by
  have hD : decJ s = endJ (accA rowA (Ms.cV 256 ⟨s, 0⟩).toNat [] (Ms.cS 256 ⟨s, 0⟩)) := (decA_eq s).symm
  have HNW := Lib.hid (wnew_any s hs W)
  have HCN := Lib.hid (fun (w : World) (b : Nat) (h : PR w b s 0) => jcount (q := ⟨s, 0⟩) h 256 (by unfold I64; omega))
  have hn := cV_bd (m := 256) (by decide) ⟨s, 0⟩
  unfold DecJP
  generalize decJ s = D at *
  generalize Ms.cV 256 ⟨s, 0⟩ = n at *
  generalize Ms.cS 256 ⟨s, 0⟩ = qs at *
  obtain ⟨N, rfl⟩ : ∃ N : Nat, n = N := ⟨n.toNat, by omega⟩
  rw [Int.toNat_natCast] at hD
  have HD := Lib.hid hD
  have HN : Hid (N ≤ 256) := Lib.hid (by omega)
  clear hD hn hs
  go_enter Tryz.func11, Tryz.ntmps11
  go_wp2_with (first
    | (go_at_call 37; ((with_reducible refine HNW.out.mono ?_); rintro e w1 ⟨rfl, hP, hb1⟩; have HB1 := Lib.hid hb1; have HR1 := Lib.hid hP; clear hP hb1))
    | (go_at_call 38; ((with_reducible refine (HCN.out _ _ HR1.out).mono ?_); rintro e w2 ⟨rfl, hP, hO⟩; have HR2 := Lib.hid hP; have HB2 := Lib.hid (HB1.out.trans (hO.below HB1.out.size (fun k hk => by omega))); clear hP hO)))
  have hz0 : OutJRel W W.heap.size N qs (.int .i64 0) (.slice none 0 0) w2 := ⟨0, [], qs, by omega, rfl, ⟨rfl, rfl, HR2.out, JRow.nil _ _, HB2.out⟩⟩
  clear HNW HCN HB1 HR1 HR2 HB2
  go_loopw [2, 10] (fun u2 u10 wr => OutJRel W W.heap.size N qs u10 u2 wr) (fun _ u _ => ((N : Int) - intOf u).toNat)
  case atStart => exact hz0
  case round =>
    obtain ⟨i, l, q, hi1, rfl, hO⟩ := hrel
    obtain ⟨wz, rfl⟩ : ∃ wz, wz = wr := ⟨_, rfl⟩
    clear hz0
    have HO := Lib.hid hO
    obtain ⟨pv, cv, rfl⟩ := hO.row.slice
    have HLL := Lib.hid hO.len
    have hbl := hO.p.blk.lt
    clear hO
    by_cases hi : i < N
    · have HAT := Lib.hid (accA_at (r := rowA) (l := l) (q := q) hi)
      have hr1 := uV_bd (m := 281474976710656) (by decide) q
      have hr4 := cV_bd (m := 16) (by decide) (Ms.tS 16384 (Ms.tS 32 (Ms.uS 281474976710656 q)))
      have HU1 := Lib.hid (fun w h => juint (b := W.heap.size) (q := q) (w := w) h 281474976710656)
      have HT2 := Lib.hid (fun w h => jtext (b := W.heap.size) (q := Ms.uS 281474976710656 q) (w := w) h 32 (by unfold I64; omega))
      have HT3 := Lib.hid (fun w h => jtext (b := W.heap.size) (q := Ms.tS 32 (Ms.uS 281474976710656 q)) (w := w) h 16384 (by unfold I64; omega))
      have HC4 := Lib.hid (fun w h => jcount (b := W.heap.size) (q := Ms.tS 16384 (Ms.tS 32 (Ms.uS 281474976710656 q))) (w := w) h 16 (by unfold I64; omega))
      have hf : rowA q = (⟨Ms.uV 281474976710656 q, Ms.tV 32 (Ms.uS 281474976710656 q), Ms.tV 16384 (Ms.tS 32 (Ms.uS 281474976710656 q)),
        (accA Ms.rI (Ms.cV 16 (Ms.tS 16384 (Ms.tS 32 (Ms.uS 281474976710656 q)))).toNat [] (Ms.cS 16 (Ms.tS 16384 (Ms.tS 32 (Ms.uS 281474976710656 q))))).1,
        Ms.uV 500 (accA Ms.rI (Ms.cV 16 (Ms.tS 16384 (Ms.tS 32 (Ms.uS 281474976710656 q)))).toNat [] (Ms.cS 16 (Ms.tS 16384 (Ms.tS 32 (Ms.uS 281474976710656 q))))).2,
        Ms.uV 3 (Ms.uS 500 (accA Ms.rI (Ms.cV 16 (Ms.tS 16384 (Ms.tS 32 (Ms.uS 281474976710656 q)))).toNat [] (Ms.cS 16 (Ms.tS 16384 (Ms.tS 32 (Ms.uS 281474976710656 q))))).2),
        Ms.iV (Ms.uS 3 (Ms.uS 500 (accA Ms.rI (Ms.cV 16 (Ms.tS 16384 (Ms.tS 32 (Ms.uS 281474976710656 q)))).toNat [] (Ms.cS 16 (Ms.tS 16384 (Ms.tS 32 (Ms.uS 281474976710656 q))))).2)),
        Ms.uV 9999 (Ms.iS (Ms.uS 3 (Ms.uS 500 (accA Ms.rI (Ms.cV 16 (Ms.tS 16384 (Ms.tS 32 (Ms.uS 281474976710656 q)))).toNat [] (Ms.cS 16 (Ms.tS 16384 (Ms.tS 32 (Ms.uS 281474976710656 q))))).2)))⟩,
        Ms.uS 9999 (Ms.iS (Ms.uS 3 (Ms.uS 500 (accA Ms.rI (Ms.cV 16 (Ms.tS 16384 (Ms.tS 32 (Ms.uS 281474976710656 q)))).toNat [] (Ms.cS 16 (Ms.tS 16384 (Ms.tS 32 (Ms.uS 281474976710656 q))))).2)))) := rfl
      generalize Ms.uV 281474976710656 q = xj at *
      generalize Ms.uS 281474976710656 q = q1 at *
      generalize Ms.tV 32 q1 = xt at *
      generalize Ms.tS 32 q1 = q2 at *
      generalize Ms.tV 16384 q2 = xp at *
      generalize Ms.tS 16384 q2 = q3 at *
      generalize Ms.cV 16 q3 = m at *
      generalize Ms.cS 16 q3 = q4 at *
      obtain ⟨M, rfl⟩ : ∃ M : Nat, m = M := ⟨m.toNat, by omega⟩
      rw [Int.toNat_natCast] at hf
      have HF := Lib.hid hf
      have HM : Hid (M ≤ 16) := Lib.hid (by omega)
      have HIN := Lib.hid hi
      have hi' : (i : Int) < (N : Int) := by omega
      have HE : Hid (wrap64 ((i : Int) + 1) = ((i + 1 : Nat) : Int)) := Lib.hid (by have := HN.out; unfold wrap64; omega)
      clear hf hr1 hr4 hi hi1
      go_upto_region 5 with (first
        | (go_at_call 39; ((with_reducible refine (HU1.out _ HO.out.p).mono ?_); rintro e w3 ⟨rfl, hP, hO⟩; have HR3 := Lib.hid hP; have HO3 := Lib.hid hO; clear hP hO))
        | (go_at_call 40; (first
            | ((with_reducible refine (HT2.out _ HR3.out).mono ?_); rintro e w4 ⟨rfl, hP, hO⟩; have HR4 := Lib.hid hP; have HO4 := Lib.hid (HO3.out.trans hO); clear hP hO)
            | ((with_reducible refine (HT3.out _ HR4.out).mono ?_); rintro e w5 ⟨rfl, hP, hO⟩; have HR5 := Lib.hid hP; have HO5 := Lib.hid (HO4.out.trans hO); clear hP hO)))
        | (refine wpl_store_blk (c' := xcells xj xt xp (.slice none 0 0)) (Blk.new _ _ _) rfl _ _ _ rfl rfl rfl (by kernel_rfl) rfl (by simp [xcells, Value.oneCell']) ?_; go_loud (intro w6 hb1 ho1; have HF6 := Lib.hid hb1; have HA6 := Lib.hid (al_step ho1); clear hb1 ho1)))
      go_frame
      have HR6 : Hid (PR w6 W.heap.size q3.s q3.e) := Lib.hid (HR5.out.below HA6.out)
      have HO6 : Hid (Only (· = W.heap.size) wz w6) := Lib.hid (HO5.out.step HA6.out)
      have hP6 : wz.heap.size ≤ w5.heap.size := HO5.out.size
      clear HU1 HT2 HT3 HR3 HO3 HR4 HO4 HR5 HO5 HA6
      clear w3 w4
      obtain ⟨P, hP⟩ : ∃ P, P = w5.heap.size := ⟨_, rfl⟩
      rw [← hP] at hP6 HF6 ⊢
      clear hP
      clear w5
      go_wp2_with (go_at_call 38; ((with_reducible refine (HC4.out _ HR6.out).mono ?_); rintro e w7 ⟨rfl, hP, hO⟩; have HR7 := Lib.hid hP; have HO7 := Lib.hid (HO6.out.trans hO); have HF7 := Lib.hid (HF6.out.only hO (by omega)); clear hP hO))
      have hz1 : InJRel wz P W.heap.size M xj xt xp q4 (.int .i64 0) w7 := ⟨0, [], q4, .slice none 0 0, by omega, rfl, ⟨rfl, rfl, HF7.out, HR7.out, IRow.nil _ _, HO7.out⟩⟩
      clear HC4 HR6 HO6 HF6 HR7 HO7 HF7
      go_loopw [21] (fun u wq => InJRel wz P W.heap.size M xj xt xp q4 u wq) (fun u _ => ((M : Int) - intOf u).toNat)
      case atStart => exact hz1
      case round =>
        obtain ⟨j, li, y, vi, hj1, rfl, hI⟩ := hrel
        clear hz1
        have HI := Lib.hid hI
        obtain ⟨pj, cj, rfl⟩ := owns_slice hI.row
        have hbq := hI.p.blk.lt
        have hfq := hI.f.lt
        have HJL := Lib.hid hI.len
        have d3 : wr.cell? ⟨P, 3, none⟩ = some (.slice pj li.length cj) := hI.f.cell 3
        by_cases hj : j < M
        · have HJA := Lib.hid (accA_at (r := Ms.rI) (l := li) (q := y) hj)
          have HRD := Lib.hid (jint hI.p.drew)
          have HJN := Lib.hid hj
          have hj' : (j : Int) < (M : Int) := by omega
          have HEJ : Hid (wrap64 ((j : Int) + 1) = ((j + 1 : Nat) : Int)) := Lib.hid (by have := HM.out; unfold wrap64; omega)
          have HML : Hid (li.length ≤ 16) := Lib.hid (by have := HM.out; have := HJL.out; omega)
          have gz : (Ms.rI y).1 = Ms.iV y := rfl
          have gs : (Ms.rI y).2 = Ms.iS y := rfl
          rw [gz, gs] at HJA
          generalize Ms.iV y = z at *
          generalize Ms.iS y = y' at *
          clear hI hj hj1 gz gs
          go_upto_block 3 with fail
          go_cut [] (fun wc => ∃ p5 c5, InJ wz P W.heap.size M xj xt xp q4 (j + 1) (li ++ [z]) y' (.slice p5 (li.length + 1) c5) wc)
          case first =>
            go_upto_region 7 with fail
            go_region_law (first
              | (refine step_call (by rfl) 41 #[.pointer (some ⟨W.heap.size, 0, none⟩), .int .i64 (-9223372036854775808), .int .i64 9223372036854775807] (by simp only [execOp]; go_simp) HRD.out (fun e w' h => by obtain ⟨rfl, _⟩ := h; exact ⟨_, rfl⟩) ?_; intro v7 w8 h7; obtain ⟨hv7, hP, hO⟩ := h7; injection hv7 with hv7; subst hv7; have o7 := only_undrew hO; have HO8 := Lib.hid (HI.out.only.trans o7); have HR8 := Lib.hid hP; have HF8 := Lib.hid (HI.out.f.only o7 (by omega)); have ROW8 := Lib.hid (owns_only HI.out.row o7 (owns_ne HI.out.row HI.out.p.blk (by decide))); have c2 : w8.cell? ⟨P, 3, none⟩ = some (.slice pj li.length cj) := HF8.out.cell 3; have c2n : ∀ o, (w8.alloc o).cell? ⟨P, 3, none⟩ = some (.slice pj li.length cj) := (fun o => (HF8.out.alloc o).cell 3); have hlt7 := HF8.out.lt; clear hP hO o7)
              | (refine step_append_row2 (ys := [.int .i64 z]) (by rfl) (by rfl) (by rfl) (by rfl) Tryz.underlying36 info_i64 rfl rfl rfl (by decide) (by decide) ROW8.out (by have := HML.out; omega) HO8.out.size (by first | rfl | simp) ?_; intro v5 w9 h5 o5; have HR9 := Lib.hid (HR8.out.only o5 (fun h => owns_ne ROW8.out HR8.out.blk (by decide) _ h rfl)); have HF9 := Lib.hid (HF8.out.only o5 (fun h => owns_ne ROW8.out HF8.out (by decide) _ h rfl)); have HO9 := Lib.hid (HO8.out.stepB (o5.below (B := wz.heap.size) HO8.out.size (fun k hk => (owns_type ROW8.out hk).choose_spec.2.1)) (Nat.le_refl _)); obtain ⟨p5, c5, rfl⟩ := owns_slice h5; have H5 := Lib.hid h5; have c3 : w9.cell? ⟨P, 3, none⟩ = some (.slice pj li.length cj) := HF9.out.cell 3; have f3 : ∀ o, w9.frozen? ⟨P, o, none⟩ = false := HF9.out.frozen; clear h5 o5))
            all_goals (go_wp2_with fail; go_meet)
            all_goals exact ⟨p5, c5, by simp [HJL.out], HI.out.eq.trans HJA.out, HF9.out.set 3 _, ⟨HR9.out.blk.set_ne _ (by show W.heap.size ≠ P; omega), HR9.out.sz⟩,
              by unfold IRow; rw [List.length_append, List.map_append]; exact owns_only H5.out ((Only.refl (· = P) w9).set1) (owns_ne H5.out HF9.out (by decide)), HO9.out.setCell (Or.inr hP6) _⟩
          case rest =>
            obtain ⟨p5, c5, hN⟩ := hcut
            have HN5 := Lib.hid hN
            clear hN
            go_wp2_with fail
            go_roundw
            case rel => exact ⟨j + 1, _, _, _, by have := HJN.out; omega, by first | rw [HEJ.out] | simp, HN5.out⟩
            case measure => (try rw [HEJ.out]); simp [intOf]; have := HJN.out; omega
        · have hj' : ¬ (j : Int) < (M : Int) := by omega
          have hin := HI.out.eq
          rw [accA_out hj] at hin
          have hf := HF.out
          rw [hin] at hf
          dsimp only at hf
          have hb5 := uV_bd (m := 500) (by decide) y
          have hb6 := uV_bd (m := 3) (by decide) (Ms.uS 500 y)
          have hb8 := uV_bd (m := 9999) (by decide) (Ms.iS (Ms.uS 3 (Ms.uS 500 y)))
          have HU5 := Lib.hid (fun w h => juint (b := W.heap.size) (q := y) (w := w) h 500)
          have HU6 := Lib.hid (fun w h => juint (b := W.heap.size) (q := Ms.uS 500 y) (w := w) h 3)
          have HI7 := Lib.hid (fun w h => jint (b := W.heap.size) (q := Ms.uS 3 (Ms.uS 500 y)) (w := w) h)
          have HU8 := Lib.hid (fun w h => juint (b := W.heap.size) (q := Ms.iS (Ms.uS 3 (Ms.uS 500 y))) (w := w) h 9999)
          generalize Ms.uV 500 y = xf at *
          generalize Ms.uS 500 y = y1 at *
          generalize Ms.uV 3 y1 = xs at *
          generalize Ms.uS 3 y1 = y2 at *
          generalize Ms.iV y2 = xv at *
          generalize Ms.iS y2 = y3 at *
          generalize Ms.uV 9999 y3 = xe at *
          generalize Ms.uS 9999 y3 = y4 at *
          have HF2 := Lib.hid hf
          have gf : IntKind.i64.wrap xf = xf := by rw [IntKind.wrap_i64]; omega
          have gs : IntKind.u8.wrap xs = xs := by rw [IntKind.wrap_u8]; omega
          have ge : IntKind.i64.wrap xe = xe := by rw [IntKind.wrap_i64]; omega
          have HX0 : Hid (XSt wz W.heap.size P (xcells xj xt xp (.slice pj li.length cj)) y (.slice pj li.length cj) li wr) := Lib.hid ⟨hI.f, hI.p, hI.row, hI.only⟩
          have hbP : W.heap.size < P := by omega
          have HLJ : Hid (li.length ≤ 16) := Lib.hid (by have := HM.out; have := HJL.out; omega)
          clear hI hj hj1 hf hin HF hb5 hb6 hb8 d3 HI
          go_upto_region 10 with (first
            | (go_at_call 39; (first
                | ((with_reducible refine (HU5.out _ HX0.out.p).mono ?_); rintro e v1 ⟨rfl, hP, hO⟩; have HX1 := Lib.hid (HX0.out.call hbP hP hO); clear hP hO)
                | ((with_reducible refine (HU6.out _ HX1.out.p).mono ?_); rintro e v2 ⟨rfl, hP, hO⟩; have HX2 := Lib.hid (HX1.out.call hbP hP hO); have f2 : ∀ o, v2.frozen? ⟨P, o, none⟩ = false := HX2.out.f.frozen; have k4 : v2.cell? ⟨P, 4, none⟩ = some (.int .i64 0) := HX2.out.f.cell 4; have k5 : v2.cell? ⟨P, 5, none⟩ = some (.int .u8 0) := HX2.out.f.cell 5; clear hP hO))))
          have HX3 := Lib.hid ((HX2.out.set hbP hP6 4 (.int .i64 xf)).set hbP hP6 5 (.int .u8 xs))
          clear HU5 HU6 HX0 HX1 HX2 f2 k4 k5
          go_upto_region 11 with (go_at_call 41; ((with_reducible refine (HI7.out _ HX3.out.p).mono ?_); rintro e v4 ⟨rfl, hP, hO⟩; have HX4 := Lib.hid (HX3.out.call hbP hP hO); have f4 : ∀ o, v4.frozen? ⟨P, o, none⟩ = false := HX4.out.f.frozen; have k6 : v4.cell? ⟨P, 6, none⟩ = some (.int .i64 0) := HX4.out.f.cell 6; clear hP hO))
          have HX5 := Lib.hid (HX4.out.set hbP hP6 6 (.int .i64 xv))
          clear HI7 HX3 HX4 f4 k6
          go_upto_region 12 with (go_at_call 39; ((with_reducible refine (HU8.out _ HX5.out.p).mono ?_); rintro e v6 ⟨rfl, hP, hO⟩; have HX6 := Lib.hid (HX5.out.call hbP hP hO); have f6 : ∀ o, v6.frozen? ⟨P, o, none⟩ = false := HX6.out.f.frozen; have k7 : v6.cell? ⟨P, 7, none⟩ = some (.int .i64 0) := HX6.out.f.cell 7; clear hP hO))
          have HX7 := Lib.hid (HX6.out.set hbP hP6 7 (.int .i64 xe))
          clear HU8 HX5 HX6 f6 k7
          have HX8 : Hid (Blk (v6.setCell ⟨P, 7, none⟩ (.int .i64 xe)) P 48 #[.int .u64 xj, .string xt, .string xp, .slice pj li.length cj, .int .i64 xf, .int .u8 xs, .int .i64 xv, .int .i64 xe]) := Lib.hid HX7.out.f
          have HBx : Hid (Below W.heap.size W (v6.setCell ⟨P, 7, none⟩ (.int .i64 xe))) := Lib.hid (HO.out.bel.trans (HX7.out.only.below HO.out.bel.size (fun k hk => by omega)))
          obtain ⟨L, hL, hrw, hin⟩ := HO.out.row
          have HRW : Hid ((v6.setCell ⟨P, 7, none⟩ (.int .i64 xe)).ownsRow W.heap.size 48 8 (.slice pv l.length cv) l.length (rowsJ L)) := Lib.hid (owns_only hrw HX7.out.only (owns_ne hrw HO.out.p.blk (by decide)))
          have HLM := Lib.hid hL
          have HINs : Hid (∀ p ∈ L, IRow (v6.setCell ⟨P, 7, none⟩ (.int .i64 xe)) W.heap.size p.2 p.1.inp) := Lib.hid (fun p hp => owns_only (hin p hp) HX7.out.only (owns_ne (hin p hp) HO.out.p.blk (by decide)))
          have HL256 : Hid (l.length ≤ 256) := Lib.hid (by have := HLL.out; have := HIN.out; have := HN.out; omega)
          clear hL hrw hin
          go_wp2_with (first
            | (refine wpl_load_blk HX8.out rfl _ _ rfl rfl Tryz.underlying48 rfl (by kernel_rfl) ?_)
            | (at_builtin; go_loud (refine wpl_append_row2 (ys := jcells ⟨xj, xt, xp, li, xf, xs, xv, xe⟩ (.slice pj li.length cj)) rfl rfl rfl rfl Tryz.underlying22 info_jr rfl (by simp [jcells, Value.oneCell']) rfl (by decide) (by decide) HRW.out (by have := HL256.out; omega) HBx.out.size (by first | rfl | simp) ?_; intro v7 w7 h7 o7; obtain ⟨p7, c7, rfl⟩ := owns_slice h7; have HR7 := Lib.hid h7; have HO7 := Lib.hid o7; have HB7 := Lib.hid (HBx.out.trans (o7.below HBx.out.size (fun k hk => (owns_type HRW.out hk).choose_spec.2.1))); clear h7 o7)))
          go_roundw
          case rel =>
            refine ⟨i + 1, l ++ [⟨xj, xt, xp, li, xf, xs, xv, xe⟩], y4, by have := HIN.out; omega, by first | rw [HE.out] | simp, ⟨by simp [HLL.out], ?_, ⟨HX7.out.p.blk.only HO7.out (fun h => owns_ne HRW.out HX7.out.p.blk (by decide) _ h rfl), HX7.out.p.sz⟩, ?_, HB7.out⟩⟩
            · rw [HO.out.eq, HAT.out, HF2.out]
            · exact JRow.snoc HLM.out HRW.out HINs.out (IRow.ge HX7.out.row HO.out.bel.size) HR7.out HO7.out
          case measure => (try rw [HE.out]); simp [intOf]; have := HIN.out; omega
    · have hi' : ¬ (i : Int) < (N : Int) := by omega
      have heq := HO.out.eq
      rw [accA_out hi] at heq
      have HDE : Hid (D = endJ (l, q)) := Lib.hid (by rw [HD.out, heq])
      have HEN := Lib.hid (pend_any HO.out.p)
      have HOK : Hid (JOk l) := Lib.hid (by
        have h := accA_all (r := rowA) (P := fun r => U64 r.job ∧ r.tok.size ≤ maxLen ∧ r.inp.length ≤ 100) rowA_ok N [] qs (fun x hx => by cases hx)
        rw [heq] at h
        exact h)
      have HL256 : Hid (l.length ≤ 256) := Lib.hid (by have := HLL.out; have := HN.out; omega)
      clear heq HD
      unfold endJ at HDE
      dsimp only at HDE
      generalize endE q.s q.e = ee at *
      by_cases he : ee = 0
      · subst he
        rw [if_neg (by decide)] at HDE
        obtain ⟨mb, hmb⟩ : ∃ mb, mb = mayB l 281474976710656 := ⟨_, rfl⟩
        rw [← hmb] at HDE
        have HMY : Hid (∀ (w : World) (v : Value), RowsAt w v l → Calls Tryz.prog 31 #[v, .int .u64 281474976710656] w fun e w' => e = .returned (.bool mb) ∧ Below w.heap.size w w') := Lib.hid (fun w v hv => (may_w (last := 281474976710656) hv (by have := HL256.out; omega) HOK.out).mono fun e w' h => by unfold MyP at h; rw [← hmb] at h; exact h)
        clear hmb hi hi1
        cases mb with
        | true =>
          rw [if_neg (by decide)] at HDE
          go_wp2_with (first
            | (go_at_call 42; ((with_reducible refine HEN.out.mono ?_); rintro e w4 ⟨rfl, hP, hO⟩; have HB4 := Lib.hid (HO.out.bel.trans (hO.below HO.out.bel.size (fun k hk => by omega))); have HR4 := Lib.hid (HO.out.row.other hO HO.out.p.blk (by decide) (by decide)); clear hP hO))
            | (go_at_call 31; ((with_reducible refine (HMY.out _ _ HR4.out.at).mono ?_); rintro e w5 ⟨rfl, hb⟩; have HB5 := Lib.hid (HB4.out.trans (hb.mono HB4.out.size)); have HR5 := Lib.hid (HR4.out.below hb); clear hb)))
          go_ret2
          exact ⟨_, by rw [HDE.out]; rfl, by rw [HDE.out]; exact HR5.out, HB5.out⟩
        | false =>
          rw [if_pos rfl] at HDE
          go_wp2_with (first
            | (go_at_call 42; ((with_reducible refine HEN.out.mono ?_); rintro e w4 ⟨rfl, hP, hO⟩; have HB4 := Lib.hid (HO.out.bel.trans (hO.below HO.out.bel.size (fun k hk => by omega))); have HR4 := Lib.hid (HO.out.row.other hO HO.out.p.blk (by decide) (by decide)); clear hP hO))
            | (go_at_call 31; ((with_reducible refine (HMY.out _ _ HR4.out.at).mono ?_); rintro e w5 ⟨rfl, hb⟩; have HB5 := Lib.hid (HB4.out.trans (hb.mono HB4.out.size)); clear hb)))
          go_ret2
          exact ⟨_, by rw [HDE.out]; rfl, by rw [HDE.out]; exact JRow.nil _ _, HB5.out⟩
      · rw [if_pos he] at HDE
        have he' : (ee == 0) = false := by simpa using he
        clear hi hi1
        go_wp2_with (go_at_call 42; ((with_reducible refine HEN.out.mono ?_); rintro e w4 ⟨rfl, hP, hO⟩; have HB4 := Lib.hid (HO.out.bel.trans (hO.below HO.out.bel.size (fun k hk => by omega))); clear hP hO))
        go_ret2
        exact ⟨_, by rw [HDE.out]; rfl, by rw [HDE.out]; exact JRow.nil _ _, HB4.out⟩
end Go.Proofs.YtlahficmkfgooaaGreat
