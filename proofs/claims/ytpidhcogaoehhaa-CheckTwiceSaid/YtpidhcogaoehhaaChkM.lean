import Derived.Test.YtpidhcogaoehhaaMgm
import Derived.Test.YtpidhcogaoehhaaCodeJ
import Derived.Test.YtpidhcogaoehhaaCodeZ

/- The walk of 'twice': a program's functions twice. No condition but that rows are not too long and forks name functions. -/
namespace Go.Proofs.Ytpidhcogaoehhaa
open Go.RowKit Cd
set_option linter.unusedVariables false
set_option linter.unusedSimpArgs false
/-- Behind i functions. -/
structure TwW (W : World) (l : List FunV) (x : Value) (Q i : Nat) (v : Value) (wr : World) : Prop where
  t0 : Blk wr W.heap.size 24 #[x]
  t1 : Blk wr (W.heap.size + 1) 24 #[.slice none 0 0]
  t2 : Blk wr Q 24 #[v]
  q : W.heap.size + 2 ≤ Q
  row : FunsRow wr W.heap.size v (l ++ (l.take i).map (shF l.length))
  bel : Below W.heap.size W wr
def TwRel (W : World) (l : List FunV) (x : Value) (Q : Nat) (u : Value) (wr : World) : Prop := ∃ i v, i ≤ l.length ∧ u = .int .i64 (i : Nat) ∧ TwW W l x Q i v wr
/-- Behind k ops of a function, which lies in block F. -/
structure TiW (w0 : World) (F N : Nat) (a0 a1 : Int) (al : List OpV) (k : Nat) (v : Value) (wq : World) : Prop where
  f : Blk wq F 47 #[.int .i64 a0, .int .i64 a1, v]
  row : wq.ownsRow w0.heap.size 50 5 v k (rowsO ((al.take k).map (shO N)))
  bel : Below w0.heap.size w0 wq
def TiRel (w0 : World) (F N : Nat) (a0 a1 : Int) (al : List OpV) (u : Value) (wq : World) : Prop := ∃ k v, k ≤ al.length ∧ u = .int .i64 (k : Nat) ∧ TiW w0 F N a0 a1 al k v wq
theorem FunsRow.ge {w : World} {B B' : Nat} {v : Value} {l : List FunV} (h : FunsRow w B v l) (hB : B' ≤ B) : FunsRow w B' v l := by
  obtain ⟨vs, h1, h2, h3⟩ := h
  exact ⟨vs, h1, owns_ge h2 hB, fun i hi hi' => owns_ge (h3 i hi hi') hB⟩
def TwicePost (W : World) (l : List FunV) (e : Ending) (w' : World) : Prop := ∃ v, e = .returned (.agg #[v]) ∧ FunsAt w' v (dbl l) ∧ Below W.heap.size W w'
theorem copy_row {l : List FunV} {W : World} {v : Value} (hv : FunsAt W v l) (hl : Lim l) : Calls Try.prog 32 #[.agg #[v]] W (CopyPost W l) := copy_any hv hl
set_option maxRecDepth 100000 in
set_option maxHeartbeats 8000000 in
theorem twice_any {l : List FunV} {W : World} {x : Value} (hx : FunsAt W x l) (hl : Lim l) (hfk : ∀ f ∈ l, ∀ o ∈ f.ops, o.k = 12 → 0 ≤ o.n ∧ o.n < l.length) : Calls Try.prog 16 #[.agg #[x]] W (TwicePost W l) := by
  have HV := Lib.hid hx
  have HLL := Lib.hid hl.2
  have hl60 := hl.1
  have HFK := Lib.hid hfk
  have HB0 := Lib.hid (((Below.refl _ W).alloc (Nat.le_refl _) (.cells #[x] 24)).alloc (by simp) (.cells #[.slice none 0 0] 24))
  have HT0 := Lib.hid ((Blk.new W 24 #[x]).alloc (.cells #[.slice none 0 0] 24))
  have HT1 := Lib.hid (Blk.new2 W (.cells #[x] 24) 24 #[.slice none 0 0])
  have HCP := Lib.hid (copy_row ((hx.alloc (.cells #[x] 24)).alloc (.cells #[.slice none 0 0] 24)) hl)
  obtain ⟨p, cap, rfl⟩ := hx.slice
  clear hx hl hfk
  go_enter Try.func16, Try.ntmps16
  go_upto_region 2 with (go_at_call 32; ((with_reducible refine HCP.out.mono ?_); rintro e w1 ⟨v1, rfl, hr1, b1⟩; obtain ⟨pv, cv, rfl⟩ := hr1.slice; have HR1 := Lib.hid hr1; have HB1 := Lib.hid b1; clear hr1 b1))
  have hs1 : W.heap.size + 2 ≤ w1.heap.size := by have := HB1.out.size; simpa using this
  have hW0 : TwW W l (.slice p l.length cap) w1.heap.size 0 (.slice pv l.length cv) (w1.alloc (.cells #[.slice pv l.length cv] 24)) :=
    ⟨(HT0.out.below HB1.out).alloc _, (HT1.out.below HB1.out).alloc _, Blk.new w1 _ _, hs1, by
      rw [List.take_zero, List.map_nil, List.append_nil]
      exact (HR1.out.ge (by simp; omega)).below ((Below.refl _ _).alloc (Nat.le_refl _) _), (HB0.out.step HB1.out).alloc (by omega) _⟩
  have HW0 := Lib.hid hW0
  have c00 : (w1.alloc (.cells #[.slice pv l.length cv] 24)).cell? ⟨W.heap.size, 0, none⟩ = some (.slice p l.length cap) := hW0.t0.cell 0
  clear hW0 HT0 HT1 HR1 HB1 HB0 HCP
  go_wp2_with fail
  have hz0 : TwRel W l (.slice p l.length cap) w1.heap.size (.int .i64 0) (w1.alloc (.cells #[.slice pv l.length cv] 24)) := ⟨0, _, by omega, rfl, HW0.out⟩
  clear HW0 c00
  generalize w1.heap.size = Q at *
  go_loopw [5] (fun u wr => TwRel W l (.slice p l.length cap) Q u wr) (fun u _ => ((l.length : Int) - intOf u).toNat)
  case atStart => exact hz0
  case round =>
    clear hz0
    obtain ⟨i, v, hi1, rfl, hC⟩ := hrel
    obtain ⟨wz, rfl⟩ : ∃ wz, wz = wr := ⟨_, rfl⟩
    have HC := Lib.hid hC
    have z0 : wz.cell? ⟨W.heap.size, 0, none⟩ = some (.slice p l.length cap) := hC.t0.cell 0
    have hlt := hC.t2.lt
    have hlt0 := hC.t0.lt
    by_cases hi : i < l.length
    · obtain ⟨p', c', e1, hy⟩ := HV.out
      injection e1 with e1 e2 e3
      subst e1 e3
      clear e2
      obtain ⟨g, off, rfl, hg, hy⟩ := hy (by omega)
      obtain ⟨y0, y1, vo, y2, hvo⟩ := hy i hi
      have x0 := y0
      have x1 := y1
      have x2 := y2
      rw [← hC.bel.cell (p := ⟨g, _, none⟩) hg] at x0 x1 x2
      have HY2 := Lib.hid y2
      obtain ⟨pj, cj, rfl⟩ := hvo.slice
      have hgl : g < wz.heap.size := Nat.lt_of_lt_of_le hg hC.bel.size
      have hki : (i : Int) < (l.length : Int) := by omega
      have hki0 : (0 : Int) ≤ (i : Int) := by omega
      have hfl := HLL.out _ (List.getElem_mem hi)
      have hff := HFK.out _ (List.getElem_mem hi)
      have htk : l ++ (l.take (i + 1)).map (shF l.length) = (l ++ (l.take i).map (shF l.length)) ++ [shF l.length l[i]] := by
        rw [List.take_succ_eq_append_getElem hi, List.map_append, ← List.append_assoc]; rfl
      have HTK := Lib.hid htk
      have hml : (l ++ (l.take i).map (shF l.length)).length ≤ 2 * l.length := by rw [List.length_append, List.length_map, List.length_take]; omega
      have HROW := Lib.hid hC.row
      obtain ⟨pv', cv', rfl⟩ := hC.row.slice
      have HVO := Lib.hid hvo
      have HFF := Lib.hid hff
      clear htk hy hvo hC y0 y1 y2 hff
      generalize l[i] = fa at *
      generalize l ++ (l.take i).map (shF l.length) = m at *
      have HML := Lib.hid hml
      clear hml
      obtain ⟨a0, a1, al⟩ := fa
      simp only at x0 x1 x2 hfl
      have HDW := Lib.hid ((Below.refl wz.heap.size wz).alloc (Nat.le_refl _) (.cells #[.int .i64 a0, .int .i64 a1, .slice none 0 0] 47)).drew
      have HDB := Lib.hid (Blk.new wz 47 #[.int .i64 a0, .int .i64 a1, .slice none 0 0]).drew
      go_upto_region 6 with fail
      go_cut [6] (fun fv wc => fv = .pointer (some ⟨wz.heap.size, 0, none⟩) ∧ TiW wz wz.heap.size l.length a0 a1 al 0 (.slice none 0 0) wc)
      case first =>
        go_region
        all_goals (go_wp2_with fail; go_meet)
        all_goals exact ⟨rfl, HDB.out, ⟨rfl, .inl ⟨rfl, rfl⟩⟩, HDW.out⟩
      case rest =>
        obtain ⟨rfl, hT⟩ := hcut
        clear HDW HDB x0 x1 x2 z0
        go_wp2_with fail
        have hz1 : TiRel wz wz.heap.size l.length a0 a1 al (.int .i64 0) wc := ⟨0, _, by omega, rfl, hT⟩
        clear hT
        go_loopw [7] (fun u wq => TiRel wz wz.heap.size l.length a0 a1 al u wq) (fun u _ => ((al.length : Int) - intOf u).toNat)
        case atStart => exact hz1
        case round =>
          clear hz1
          obtain ⟨k, vk, hk1, rfl, hI⟩ := hrel
          obtain ⟨wq, rfl⟩ : ∃ wq, wq = wr := ⟨_, rfl⟩
          have HI := Lib.hid hI
          obtain ⟨pk, ck, rfl⟩ := owns_slice hI.row
          have hBq := HC.out.bel.trans (hI.bel.mono HC.out.bel.size)
          have HBQ := Lib.hid hBq
          have z0 : wq.cell? ⟨W.heap.size, 0, none⟩ = some (.slice (some ⟨g, off, none⟩) l.length cap) := (HC.out.t0.below hI.bel).cell 0
          have x2 : wq.cell? ⟨g, off + i * 3 + 2, none⟩ = some (.slice pj al.length cj) := by rw [hBq.cell (p := ⟨g, _, none⟩) hg]; exact HY2.out
          have hFlt := hI.f.lt
          have hszq := hI.bel.size
          clear hBq hI
          by_cases hk : k < al.length
          · obtain ⟨pj', cj', e1, hz⟩ := HVO.out
            injection e1 with e1 _ e3
            subst e1 e3
            obtain ⟨g5, off5, rfl, hg5, hz⟩ := hz (by show 0 < al.length; omega)
            have w0 := hz k hk 0 (by decide)
            have w1 := hz k hk 1 (by decide)
            have w2 := hz k hk 2 (by decide)
            have w3 := hz k hk 3 (by decide)
            have w4 := hz k hk 4 (by decide)
            rw [← HBQ.out.cell (p := ⟨g5, _, none⟩) hg5] at w0 w1 w2 w3 w4
            have hfo := HFF.out al[k] (List.getElem_mem hk)
            have hkk : (k : Int) < (al.length : Int) := by omega
            have hkk0 : (0 : Int) ≤ (k : Int) := by omega
            have htk2 : (al.take (k + 1)).map (shO l.length) = (al.take k).map (shO l.length) ++ [shO l.length al[k]] := by
              rw [List.take_succ_eq_append_getElem hk, List.map_append]; rfl
            have HTK2 := Lib.hid htk2
            clear htk2 hz
            have hg5l : g5 < wq.heap.size := Nat.lt_of_lt_of_le hg5 HBQ.out.size
            generalize al[k] = o at *
            obtain ⟨ok, od, oa, ob, on⟩ := o
            simp only [opA, List.getElem?_toArray, List.getElem?_cons_zero, List.getElem?_cons_succ, Nat.add_zero] at w0 w1 w2 w3 w4
            simp only at hfo
            have HO := Lib.hid (Blk.new wq 50 #[.int .u8 ok, .int .i64 od, .int .i64 oa, .int .i64 ob, .int .i64 on])
            go_upto_region 11 with fail
            clear w0 w1 w2 w3 w4
            go_upto_if 56 with fail
            go_cut [] (fun wc2 => Blk wc2 wq.heap.size 50 (opA (shO l.length ⟨ok, od, oa, ob, on⟩)) ∧ Below wq.heap.size wq wc2)
            case first =>
              have o4 : (wq.alloc (.cells #[.int .u8 ok, .int .i64 od, .int .i64 oa, .int .i64 ob, .int .i64 on] 50)).cell? ⟨wq.heap.size, 4, none⟩ = some (.int .i64 on) := HO.out.cell 4
              have of4 : ∀ o, (wq.alloc (.cells #[.int .u8 ok, .int .i64 od, .int .i64 oa, .int .i64 ob, .int .i64 on] 50)).frozen? ⟨wq.heap.size, o, none⟩ = false := HO.out.frozen
              by_cases h12 : ok = 12
              · subst h12
                obtain ⟨hn0, hn1⟩ := hfo rfl
                have ew : IntKind.i64.wrap (on + (l.length : Int)) = on + (l.length : Int) := by rw [IntKind.wrap_i64]; omega
                have he : shO l.length ⟨12, od, oa, ob, on⟩ = ⟨12, od, oa, ob, on + (l.length : Int)⟩ := by unfold shO; rfl
                have HE := Lib.hid he
                clear he
                go_wp2_with fail
                all_goals go_meet
                all_goals exact ⟨by rw [HE.out]; exact Blk.new wq _ _, (Below.refl _ wq).alloc (Nat.le_refl _) _⟩
              · have h12' : (ok == 12) = false := by simpa using h12
                have he : shO l.length ⟨ok, od, oa, ob, on⟩ = ⟨ok, od, oa, ob, on⟩ := shO_not h12
                have HE := Lib.hid he
                clear he h12
                go_wp2_with fail
                all_goals go_meet
                all_goals exact ⟨by rw [HE.out]; exact HO.out, (Below.refl _ wq).alloc (Nat.le_refl _) _⟩
            case rest =>
              obtain ⟨hO2, hB2⟩ := hcut
              obtain ⟨w3', rfl⟩ : ∃ w3', w3' = wc := ⟨_, rfl⟩
              clear HO hfo
              generalize shO l.length ⟨ok, od, oa, ob, on⟩ = o2 at *
              obtain ⟨qk, qd, qa, qb, qn⟩ := o2
              have hO2' : Blk w3' wq.heap.size 50 #[.int .u8 qk, .int .i64 qd, .int .i64 qa, .int .i64 qb, .int .i64 qn] := hO2
              have HF3 := Lib.hid (HI.out.f.below hB2)
              have HB3 := Lib.hid (HI.out.bel.step hB2)
              have ROW3 := Lib.hid (owns_below HI.out.row hB2)
              have v0 := hO2'.cell 0
              have v1 := hO2'.cell 1
              have v2 := hO2'.cell 2
              have v3 := hO2'.cell 3
              have v4 := hO2'.cell 4
              have c2 : w3'.cell? ⟨wz.heap.size, 2, none⟩ = some (.slice pk k ck) := HF3.out.cell 2
              have hF3 := HF3.out.lt
              clear hO2 hO2' hB2 x2 z0
              go_wp2_with (at_builtin; refine wpl_append_row2 rfl rfl rfl rfl Try.underlying45 info_op rfl rfl rfl (by decide) (by decide) ROW3.out (by omega) HB3.out.size (by first | rfl | simp) ?_; intro v5 w8 h5 o5; have HF8 := Lib.hid (HF3.out.only o5 (fun h => owns_ne ROW3.out HF3.out (by decide) _ h rfl)); have HB8 := Lib.hid (HB3.out.trans (o5.below (B := wz.heap.size) HB3.out.size (fun k hk => (owns_type ROW3.out hk).choose_spec.2.1))); obtain ⟨p5, c5, rfl⟩ := owns_slice h5; have H5 := Lib.hid h5; have c3 : w8.cell? ⟨wz.heap.size, 2, none⟩ = some (.slice pk k ck) := HF8.out.cell 2; have f3 : ∀ o, w8.frozen? ⟨wz.heap.size, o, none⟩ = false := HF8.out.frozen; clear h5 o5 c2 v0 v1 v2 v3 v4)
              go_roundw
              case rel => exact ⟨k + 1, .slice p5 (k + 1) c5, by omega, rfl, HF8.out.set 2 _, by rw [HTK2.out, rowsO_snoc]; exact owns_only H5.out ((Only.refl (· = wz.heap.size) w8).set1) (owns_ne H5.out HF8.out (by decide)), HB8.out.setCell (Nat.le_refl _) _⟩
              case measure => simp [intOf]; omega
          · have : k = al.length := by omega
            subst this
            have hop0 := owns_ge HI.out.row HC.out.bel.size
            rw [List.take_length] at hop0
            have hop1 : wq.ownsRow W.heap.size 50 5 (.slice pk al.length ck) (shF l.length (FunV.mk a0 a1 al)).ops.length (rowsO (shF l.length (FunV.mk a0 a1 al)).ops) := by
              show wq.ownsRow W.heap.size 50 5 (.slice pk al.length ck) (al.map (shO l.length)).length (rowsO (al.map (shO l.length)))
              rw [List.length_map]; exact hop0
            have HOP := Lib.hid hop1
            obtain ⟨vs, hv1, hv2, hv3⟩ := HROW.out.below HI.out.bel
            have HV1 := Lib.hid hv1
            have HV2 := Lib.hid hv2
            have HV3 := Lib.hid hv3
            have HX0 := Lib.hid (HC.out.t0.below HI.out.bel)
            have HX1 := Lib.hid (HC.out.t1.below HI.out.bel)
            have HX2 := Lib.hid (HC.out.t2.below HI.out.bel)
            have hQ := HC.out.q
            have c0 : wq.cell? ⟨Q, 0, none⟩ = some (.slice pv' m.length cv') := HX2.out.cell 0
            have d0 : wq.cell? ⟨wz.heap.size, 0, none⟩ = some (.int .i64 a0) := HI.out.f.cell 0
            have d1 : wq.cell? ⟨wz.heap.size, 1, none⟩ = some (.int .i64 a1) := HI.out.f.cell 1
            have d2 : wq.cell? ⟨wz.heap.size, 2, none⟩ = some (.slice pk al.length ck) := HI.out.f.cell 2
            have hm60 : m.length < 2147483648 := by have := HML.out; omega
            clear hop0 hop1 hv1 hv2 hv3 HFK HLL HFF HVO
            go_wp2_with (at_builtin; refine wpl_append_row2 rfl rfl rfl rfl Try.underlying22 info_fun rfl rfl rfl (by decide) (by decide) HV2.out hm60 HBQ.out.size (by first | rfl | simp) ?_; intro v9 w9 h9 o9; have HP0 := Lib.hid (HX0.out.only o9 (fun h => owns_ne HV2.out HX0.out (by decide) _ h rfl)); have HP1 := Lib.hid (HX1.out.only o9 (fun h => owns_ne HV2.out HX1.out (by decide) _ h rfl)); have HP2 := Lib.hid (HX2.out.only o9 (fun h => owns_ne HV2.out HX2.out (by decide) _ h rfl)); have HB9 := Lib.hid (HBQ.out.trans (o9.below (B := W.heap.size) HBQ.out.size (fun k hk => (owns_type HV2.out hk).choose_spec.2.1))); obtain ⟨p9, c9, rfl⟩ := owns_slice h9; have HROW9 := Lib.hid (FunsRow.snoc (f := shF l.length ⟨a0, a1, al⟩) HV1.out HV2.out HV3.out HOP.out h9 o9); have c9' : w9.cell? ⟨Q, 0, none⟩ = some (.slice pv' m.length cv') := HP2.out.cell 0; have f9 : ∀ o, w9.frozen? ⟨Q, o, none⟩ = false := HP2.out.frozen; clear h9 o9 c0 d0 d1 d2)
            go_roundw
            case rel => exact ⟨i + 1, .slice p9 (m.length + 1) c9, by omega, rfl, HP0.out.set_ne _ (by show _ ≠ Q; omega), HP1.out.set_ne _ (by show _ ≠ Q; omega), HP2.out.set 0 _, hQ, by rw [HTK.out]; exact HROW9.out.other ((Only.refl (· = Q) w9).set1) HP2.out (by decide) (by decide), HB9.out.setCell (by show W.heap.size ≤ Q; omega) _⟩
            case measure => simp [intOf]; omega
    · have : i = l.length := by omega
      subst this
      have hrow := hC.row
      rw [List.take_length] at hrow
      obtain ⟨pv', cv', rfl⟩ := hrow.slice
      have t1 : wz.cell? ⟨W.heap.size + 1, 0, none⟩ = some (.slice none 0 0) := hC.t1.cell 0
      obtain ⟨N, hN⟩ : ∃ N, (l ++ l.map (shF l.length)).length = N := ⟨_, rfl⟩
      have t2 : wz.cell? ⟨Q, 0, none⟩ = some (.slice pv' N cv') := by rw [← hN]; exact hC.t2.cell 0
      have tf : ∀ o, wz.frozen? ⟨W.heap.size + 1, o, none⟩ = false := hC.t1.frozen
      rw [hN] at hrow
      have HROW := Lib.hid hrow
      clear hC hrow hN
      go_wp2
      try simp only [Exit.inBlock, Exit.then]
      exact ret_cell (cs := #[.slice pv' N cv']) (T := 24) rfl rfl (HC.out.t1.set 0 _) Try.underlying24 rfl (by kernel_rfl) rfl
        ⟨_, rfl, (HROW.out.other ((Only.refl (· = W.heap.size + 1) wz).set1) HC.out.t1 (by decide) (by decide)).at, HC.out.bel.setCell (by simp) _⟩
end Go.Proofs.Ytpidhcogaoehhaa
