import Derived.Test.YtpidhcogaoehhaaCodeC
import Derived.Test.YtpidhcogaoehhaaCodeZ

/- The walk of the program's copy of a program: 'Copy'. No condition but that rows are not too long. -/
namespace Go.Proofs.Ytpidhcogaoehhaa
open Go.RowKit Cd
set_option linter.unusedVariables false
theorem owns_cells {w : World} {B size : Nat} {e : TypeId} {v : Value} {n : Nat} {xs : List Value} (h : w.ownsRow B e size v n xs) (hn : 0 < n) : ∃ g cap cur, v = .slice (some ⟨g, 0, none⟩) n cap ∧ Blk w g e cur ∧ B ≤ g ∧ ∀ k, k < n * size → w.cell? ⟨g, k, none⟩ = xs[k]? := by
  obtain ⟨hl, ⟨_, h0⟩ | ⟨g, cap, cur, rfl, hb, hg, h1, h2, h3, h4⟩⟩ := h
  · omega
  · refine ⟨g, cap, cur, rfl, hg, hb, fun k hk => ?_⟩
    rw [(show Blk w g e cur from hg).cell, ← Array.getElem?_toList]
    rw [← h4, List.getElem?_take, if_pos hk]
theorem rowsF_at {l : List FunV} {vs : List Value} (h : vs.length = l.length) {i : Nat} (hi : i < l.length) : (rowsF l vs)[i * 3 + 2]? = some (vs[i]'(by omega)) := by
  have hz : i < (l.zip vs).length := by rw [List.length_zip]; omega
  have := Lea.flat_get (fun p : FunV × Value => ([.int .i64 p.1.args, .int .i64 p.1.regs, p.2] : List Value)) 3 (fun o => rfl) (l.zip vs) i 2 hz (by omega)
  unfold rowsF
  rw [this, List.getElem_zip]
  rfl
theorem cpw_next {W : World} {l : List FunV} {G c1 i : Nat} {us : List Value} {wr w9 : World} {x : Value} {cur : Array Value} (h : CpW W l (.slice (some ⟨G, 0, none⟩) l.length c1) i us wr) (hG : Blk wr G 47 cur) (hGB : W.heap.size ≤ G) (hi : i < l.length) (hb : Below wr.heap.size wr w9)
    (h9 : w9.ownsRow wr.heap.size 50 5 x l[i].ops.length (rowsO l[i].ops)) : CpW W l (.slice (some ⟨G, 0, none⟩) l.length c1) (i + 1) (us.set i x) (w9.setCell ⟨G, i * 3 + 2, none⟩ x) := by
  have hne : ∀ {b : Nat} {A : Array Value} {T : TypeId}, Blk wr b T A → T ≠ 47 → b ≠ G := fun hb2 hT e => by
    subst e
    unfold Blk at hb2 hG
    rw [hG] at hb2
    injection hb2 with hb2
    injection hb2 with _ hb2
    exact hT hb2.symm
  have hG9 := hG.below hb
  have keep : ∀ {B m : Nat} {u : Value} {xs : List Value}, w9.ownsRow B 50 5 u m xs → (w9.setCell ⟨G, i * 3 + 2, none⟩ x).ownsRow B 50 5 u m xs := fun hu => owns_only hu ((Only.refl (· = G) w9).set1) (owns_ne hu hG9 (by decide))
  refine ⟨(h.t1.below hb).set_ne _ (hne h.t1 (by decide)), (h.t2.below hb).set_ne _ (hne h.t2 (by decide)), by rw [List.length_set]; exact h.len, by rw [rowsF_set h.len hi]; exact owns_set (owns_below h.row hb) _ _, fun j hj hj' hlt => ?_, fun j hj hj' hle => ?_, (h.bel.trans (hb.mono h.bel.size)).setCell hGB _⟩
  · by_cases e : j = i
    · subst e
      rw [List.getElem_set_self]
      exact keep (owns_ge h9 h.bel.size)
    · rw [List.getElem_set_ne (by omega)]
      exact keep (owns_below (h.done j hj (by rw [List.length_set] at hj'; exact hj') (by omega)) hb)
  · rw [List.getElem_set_ne (by omega)]
    exact h.rest j hj (by rw [List.length_set] at hj'; exact hj') (by omega)
set_option maxRecDepth 100000 in
set_option maxHeartbeats 8000000 in
theorem copy_any {l : List FunV} {W : World} {v : Value} (hv : FunsAt W v l) (hl : Lim l) : Calls Try.prog 32 #[.agg #[v]] W (CopyPost W l) := by
  obtain ⟨p, cap, rfl⟩ := hv.slice
  have hl60 := hl.1
  have HLL := Lib.hid hl.2
  have HB0 := Lib.hid (((Below.refl _ W).alloc (Nat.le_refl _) (.cells #[.slice p l.length cap] 24)).alloc (by simp) (.cells #[.slice none 0 0] 24))
  have HT1 := Lib.hid ((Blk.new W 24 #[.slice p l.length cap]).alloc (.cells #[.slice none 0 0] 24))
  have HT2 := Lib.hid (Blk.new2 W (.cells #[.slice p l.length cap] 24) 24 #[.slice none 0 0])
  obtain ⟨vs, hvs, hops, hrow0, hone⟩ := rowsF_xs hv rfl
  have hrow : 0 < l.length → ∃ g off, p = some ⟨g, off, none⟩ ∧ g < ((W.alloc (.cells #[.slice p l.length cap] 24)).alloc (.cells #[.slice none 0 0] 24)).heap.size ∧ ∀ j u, (rowsF l vs)[j]? = some u → ((W.alloc (.cells #[.slice p l.length cap] 24)).alloc (.cells #[.slice none 0 0] 24)).cell? ⟨g, off + j, none⟩ = some u := fun h0 => by
    obtain ⟨g, off, e, hg, hc⟩ := hrow0 h0
    exact ⟨g, off, e, by simp; omega, fun j u hj => by rw [HB0.out.cell (p := ⟨g, _, none⟩) hg]; exact hc j u hj⟩
  have hrl : (rowsF l vs).length = l.length * 3 := by
    unfold rowsF
    rw [Lea.flat_len (fun p : FunV × Value => ([.int .i64 p.1.args, .int .i64 p.1.regs, p.2] : List Value)) 3 (fun o => rfl), List.length_zip, hvs, Nat.min_self]
  have HC := Lib.hid (cloneF_any (cap := cap) hrl (by omega) hone hrow)
  have HOPS := Lib.hid hops
  have HVS := Lib.hid hvs
  have hlt1 := HT1.out.lt
  clear hv hl hops hvs hrow hrow0 hone hrl
  go_enter Try.func32, Try.ntmps32
  go_wp2_with (go_at_call 55; ((with_reducible refine HC.out.mono ?_); rintro e w1 ⟨v1, rfl, h1, b1⟩; obtain ⟨p1, c1, rfl⟩ := owns_slice h1; have H1 := Lib.hid h1; have HB1 := Lib.hid (HB0.out.step b1); have T1 := Lib.hid (HT1.out.below b1); have T2 := Lib.hid (HT2.out.below b1); have z0 : w1.cell? ⟨W.heap.size, 0, none⟩ = some (.slice p l.length cap) := T1.out.cell 0; have zf : ∀ o, w1.frozen? ⟨W.heap.size, o, none⟩ = false := T1.out.frozen; clear h1 b1))
  have hz0 : CpRel W l (.slice p1 l.length c1) (.int .i64 0) (w1.setCell ⟨W.heap.size, 0, none⟩ (.slice p1 l.length c1)) := ⟨0, vs, by omega, rfl, ⟨T1.out.set 0 _, T2.out.set_ne _ (by simp), HVS.out, owns_only (owns_ge H1.out (by simp; omega)) ((Only.refl (· = W.heap.size) w1).set1) (owns_ne H1.out T1.out (by decide)), fun j h h' hj => by omega,
    fun j h h' _ => HOPS.out j h h', HB1.out.setCell (Nat.le_refl _) _⟩⟩
  clear HB0 HT1 HT2 HC HOPS HVS hlt1 H1 HB1 T1 T2 z0 zf
  generalize w1.setCell ⟨W.heap.size, 0, none⟩ (.slice p1 l.length c1) = w0 at *
  go_loopw [11] (fun u wr => CpRel W l (.slice p1 l.length c1) u wr) (fun u _ => ((l.length : Int) - intOf u).toNat)
  case atStart => exact hz0
  case round =>
    clear hz0
    obtain ⟨i, us, hi1, rfl, hC⟩ := hrel
    have HCp := Lib.hid hC
    by_cases hi : i < l.length
    · have hi' : i < us.length := by rw [hC.len]; exact hi
      obtain ⟨G, cG, cur, hv, hG, hGB, hcell⟩ := owns_cells hC.row (by omega)
      injection hv with hv e2 e3
      subst hv
      have hops := hC.rest i hi hi' (Nat.le_refl _)
      obtain ⟨pi, ci, hvi⟩ := hops.slice
      have hxs := fun w (hb : Below wr.heap.size wr w) => opsAt_xs (hops.below (hC.bel.trans (hb.mono hC.bel.size))) hvi
      have hol := HLL.out _ (List.getElem_mem hi)
      have HCL := Lib.hid (fun w (hb : Below wr.heap.size wr w) => cloneO_any (w := w) (cap := ci) (Lea.flat_len (fun o : OpV => (opA o).toList) 5 (fun o => rfl) l[i].ops) (by omega) (rowsO_one _) (hxs w hb))
      have t0 : wr.cell? ⟨W.heap.size, 0, none⟩ = some (.slice (some ⟨G, 0, none⟩) l.length c1) := hC.t1.cell 0
      have x2 : wr.cell? ⟨G, i * 3 + 2, none⟩ = some (.slice pi l[i].ops.length ci) := by
        rw [hcell _ (by omega), rowsF_at hC.len hi, hvi]
      have hGt := hG.lt
      have htt := hC.t1.lt
      have HG := Lib.hid hG
      have HGB := Lib.hid hGB
      have hki1 : (i : Int) < (l.length : Int) := by omega
      have hki0 : (0 : Int) ≤ (i : Int) := by omega
      have HV := Lib.hid hvi
      clear hC hG hGB hcell hops hxs hvi hol e2 e3
      generalize hol : l[i].ops.length = ol at *
      have HOL := Lib.hid hol
      clear hol
      go_upto_block 1 with fail
      go_cut [3] (fun k wc => k = .int .i64 (i : Nat) ∧ ∃ us', CpW W l (.slice (some ⟨G, 0, none⟩) l.length c1) (i + 1) us' wc)
      case first => as_aux_lemma =>
        go_upto_region 5 with fail
        go_region_with (go_at_call 56; ((with_reducible refine (HCL.out _ ((Below.refl _ wr).drew)).mono ?_); rintro e w9 ⟨v9, rfl, h9, hb0⟩; have hb9 := below_undrew hb0; obtain ⟨p9, c9, rfl⟩ := owns_slice h9; have q0 : w9.cell? ⟨W.heap.size, 0, none⟩ = some (.slice (some ⟨G, 0, none⟩) l.length c1) := (HCp.out.t1.below hb9).cell 0; have q2 : w9.cell? ⟨G, i * 3 + 2, none⟩ = some (.slice pi ol ci) := (by rw [hb9.cell (p := ⟨G, _, none⟩) hGt]; exact x2); have qf : ∀ o, w9.frozen? ⟨G, o, none⟩ = false := (HG.out.below hb9).frozen; have H9 := Lib.hid h9; have HB9 := Lib.hid hb9; clear h9 hb0 hb9))
        all_goals (go_wp2_with fail; go_meet)
        all_goals exact ⟨rfl, _, cpw_next HCp.out HG.out HGB.out (by omega) HB9.out (by rw [HOL.out]; exact H9.out)⟩
      case rest =>
        obtain ⟨rfl, us', hN⟩ := hcut
        have HN := Lib.hid hN
        clear hN t0 x2 HCp HG HV HCL
        go_wp2_with fail
        go_roundw
        case rel => exact ⟨i + 1, us', by omega, rfl, HN.out⟩
        case measure => simp [intOf]; omega
    · have : i = l.length := by omega
      subst this
      have t0 : wr.cell? ⟨W.heap.size, 0, none⟩ = some (.slice p1 l.length c1) := hC.t1.cell 0
      have t1 : wr.cell? ⟨W.heap.size + 1, 0, none⟩ = some (.slice none 0 0) := hC.t2.cell 0
      have tf : ∀ o, wr.frozen? ⟨W.heap.size + 1, o, none⟩ = false := hC.t2.frozen
      clear hC
      go_wp2
      try simp only [Exit.inBlock, Exit.then]
      exact ret_cell (cs := #[.slice p1 l.length c1]) (T := 24) rfl rfl (HCp.out.t2.set 0 _) Try.underlying24 rfl (by kernel_rfl) rfl
        ⟨_, rfl, (show FunsRow wr W.heap.size _ l from ⟨us, HCp.out.len, HCp.out.row, fun j h h' => HCp.out.done j h h' h⟩).other ((Only.refl (· = W.heap.size + 1) wr).set1) HCp.out.t2 (by decide) (by decide), HCp.out.bel.setCell (by simp) _⟩
end Go.Proofs.Ytpidhcogaoehhaa
