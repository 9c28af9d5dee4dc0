import Derived.Test.YtgdgonmhgpflcaaMgm

/- The walk of RpcOnce's 'does'. No condition but that there is not too much. -/
namespace Go.Proofs.Ytgdgonmhgpflcaa
open Go.RowKit Go.Maps Wire Rp
set_option linter.unusedVariables false
set_option linter.unusedSimpArgs false
section
variable {w0 w w' : World} {g b h cx hx bd bo ha hd N : Nat} {B Bp Mp : Int → Nat} {d : Wd} {vd vo vw vj : Value} {fn : Bool}
/-- Another row of calls that are done: behind an append to a row u of the call's own. -/
theorem OW.jset (x : OW w0 w g b h cx hx bd bo B Bp Mp d vd vo vw vj ha hd N fn) {js : List (Int × Int × ByteArray)} {u v' : Value} (hu : ∀ k, u.ownBlock = some k → ∃ A, Blk w k 145 A ∧ w0.heap.size ≤ k) (hv : w'.ownsRow w0.heap.size 145 3 v' js.length (js.flatMap jrow)) (o : Only (fun k => u.ownBlock = some k) w w') :
    Blk w' g 61 (wcells b cx d vw vj ha hd fn) ∧ OW w0 (w'.setCell ⟨g, 5, none⟩ v') g b h cx hx bd bo B Bp Mp { d with jobs := js } vd vo vw v' ha hd N fn := by
  have hg : ∀ {k : Nat} {T : TypeId} {A : Array Value}, Blk w k T A → T ≠ 145 → ¬ u.ownBlock = some k := fun hk ht e => by
    obtain ⟨A', hA, _⟩ := hu _ e
    exact ht (blk_ne hk hA)
  have hma : ¬ u.ownBlock = some ha := fun e => by obtain ⟨A', hA, _⟩ := hu _ e; exact x.am.no_cells hA
  have hmd : ¬ u.ownBlock = some hd := fun e => by obtain ⟨A', hA, _⟩ := hu _ e; exact x.dm.no_cells hA
  have hb := x.blk.only o (hg x.blk (by decide))
  have hw := x.wr.only o (fun k hk => by obtain ⟨A, hA, _⟩ := x.wr.ty hk; exact hg hA (by decide))
  have hm := x.mine o (fun k e => by obtain ⟨A, hA, hl⟩ := hu k e; exact .inr (.inr (.inr (.inr ⟨hl, A, hA⟩))))
  have ha' := x.am.only o hma
  have hd' := x.dm.only o hmd
  have o7 : Only (· = g) w' (w'.setCell ⟨g, 5, none⟩ v') := (Only.refl (· = g) w').set1
  refine ⟨hb, ?_⟩
  have cw := hm.cw
  have cd := hm.cd
  have keyg : ∀ {k : Nat} {T : TypeId} {A : Array Value}, Blk w' k T A → T ≠ 61 → ¬ k = g := fun hk ht e => by subst e; exact ht (blk_ne hk hb)
  have hm2 : Duo w0 (w'.setCell ⟨g, 5, none⟩ v') b h cx hx bd bo B Bp Mp d.c d.d vd vo N := by
    refine ⟨cw.only o7 (keyg cw.blk (by decide)) (fun e => cw.mp.no_cells (e ▸ hb : Blk w' h 61 _)) (fun y hy => keyg (cw.cl y hy).1 (by decide)) (fun k hk => by obtain ⟨A, hA, _⟩ := cw.du_ty hk; exact keyg hA (by decide)) (fun k hk => by obtain ⟨A, hA, _⟩ := cw.ov_ty hk; exact keyg hA (by decide)),
      cd.only o7 (keyg cd.blk (by decide)) (fun k hk e => by have e' : k = g := e; subst e'; exact mo_noblk cd hk hb) (fun k A hk => keyg hk (by decide)), hm.bel.trans (Only.below o7 hm.bel.size fun k e => by have e' : k = g := e; have := x.lo; omega), hm.ap⟩
  exact ⟨hm2, hb.set 5 v', hw.only o7 (fun k hk => by obtain ⟨A, hA, _⟩ := hw.ty hk; exact keyg hA (by decide)), owns_only hv o7 (fun k hk => by obtain ⟨A, hA, _⟩ := owns_type hv hk; exact keyg hA (by decide)), ha'.only o7 (fun e => at_noblk ha' hb e), hd'.only o7 (fun e => at_noblk hd' hb e), x.ne, x.lo⟩
/-- Another row of texts on their way. -/
theorem OW.wset (x : OW w0 w g b h cx hx bd bo B Bp Mp d vd vo vw vj ha hd N fn) {ws : List (Bool × ByteArray)} {u v' : Value} (hu : ∀ k, u.ownBlock = some k → ∃ A, Blk w k 66 A ∧ w0.heap.size ≤ k) (hv : RowV w' w0.heap.size 66 2 v' ws.length (ws.flatMap wrow)) (o : Only (fun k => u.ownBlock = some k) w w') :
    Blk w' g 61 (wcells b cx d vw vj ha hd fn) ∧ OW w0 (w'.setCell ⟨g, 4, none⟩ v') g b h cx hx bd bo B Bp Mp { d with ways := ws } vd vo v' vj ha hd N fn := by
  have hg : ∀ {k : Nat} {T : TypeId} {A : Array Value}, Blk w k T A → T ≠ 66 → ¬ u.ownBlock = some k := fun hk ht e => by
    obtain ⟨A', hA, _⟩ := hu _ e
    exact ht (blk_ne hk hA)
  have hma : ¬ u.ownBlock = some ha := fun e => by obtain ⟨A', hA, _⟩ := hu _ e; exact x.am.no_cells hA
  have hmd : ¬ u.ownBlock = some hd := fun e => by obtain ⟨A', hA, _⟩ := hu _ e; exact x.dm.no_cells hA
  have hb := x.blk.only o (hg x.blk (by decide))
  have hj : w'.ownsRow w0.heap.size 145 3 vj d.jobs.length (d.jobs.flatMap jrow) := owns_only x.jr o (fun k hk => by obtain ⟨A, hA, _⟩ := owns_type x.jr hk; exact hg hA (by decide))
  have hm := x.mine o (fun k e => by obtain ⟨A, hA, hl⟩ := hu k e; exact .inr (.inr (.inr (.inl ⟨hl, A, hA⟩))))
  have ha' := x.am.only o hma
  have hd' := x.dm.only o hmd
  have o7 : Only (· = g) w' (w'.setCell ⟨g, 4, none⟩ v') := (Only.refl (· = g) w').set1
  refine ⟨hb, ?_⟩
  have cw := hm.cw
  have cd := hm.cd
  have keyg : ∀ {k : Nat} {T : TypeId} {A : Array Value}, Blk w' k T A → T ≠ 61 → ¬ k = g := fun hk ht e => by subst e; exact ht (blk_ne hk hb)
  have hm2 : Duo w0 (w'.setCell ⟨g, 4, none⟩ v') b h cx hx bd bo B Bp Mp d.c d.d vd vo N := by
    refine ⟨cw.only o7 (keyg cw.blk (by decide)) (fun e => cw.mp.no_cells (e ▸ hb : Blk w' h 61 _)) (fun y hy => keyg (cw.cl y hy).1 (by decide)) (fun k hk => by obtain ⟨A, hA, _⟩ := cw.du_ty hk; exact keyg hA (by decide)) (fun k hk => by obtain ⟨A, hA, _⟩ := cw.ov_ty hk; exact keyg hA (by decide)),
      cd.only o7 (keyg cd.blk (by decide)) (fun k hk e => by have e' : k = g := e; subst e'; exact mo_noblk cd hk hb) (fun k A hk => keyg hk (by decide)), hm.bel.trans (Only.below o7 hm.bel.size fun k e => by have e' : k = g := e; have := x.lo; omega), hm.ap⟩
  exact ⟨hm2, hb.set 4 v', hv.only o7 (fun k hk => by obtain ⟨A, hA, _⟩ := hv.ty hk; exact keyg hA (by decide)), owns_only hj o7 (fun k hk => by obtain ⟨A, hA, _⟩ := owns_type hj hk; exact keyg hA (by decide)), ha'.only o7 (fun e => at_noblk ha' hb e), hd'.only o7 (fun e => at_noblk hd' hb e), x.ne, x.lo⟩
end
theorem jrow_len (j : Int × Int × ByteArray) : (jrow j).length = 3 := rfl
theorem wrow_len (y : Bool × ByteArray) : (wrow y).length = 2 := rfl
theorem jrow_one (j : Int × Int × ByteArray) : ∀ u ∈ jrow j, u.oneCell' = true := by
  intro u hu
  simp only [jrow, List.mem_cons, List.not_mem_nil, or_false] at hu
  rcases hu with rfl | rfl | rfl <;> simp [Value.oneCell']
theorem wrow_one (y : Bool × ByteArray) : ∀ u ∈ wrow y, u.oneCell' = true := by
  intro u hu
  simp only [wrow, List.mem_cons, List.not_mem_nil, or_false] at hu
  rcases hu with rfl | rfl <;> simp [Value.oneCell']
theorem flat_one {α : Type} {LAY : α → List Value} (h : ∀ x, ∀ u ∈ LAY x, u.oneCell' = true) (l : List α) : ∀ u ∈ l.flatMap LAY, u.oneCell' = true := fun u hu => by
  obtain ⟨x, _, hx⟩ := List.mem_flatMap.1 hu
  exact h x u hx
def DosP (w0 : World) (g : Nat) (d' : Wd) (N : Nat) (e : Ending) (w' : World) : Prop := e = .returned (.tuple #[]) ∧ OP w0 w' g d' true N
set_option maxRecDepth 100000 in
set_option maxHeartbeats 4000000 in
theorem wdoes_any {w0 w : World} {g N i : Nat} {d : Wd} (hx : OP w0 w g d true N) (hv : OInv d) {j : Int × Int × ByteArray} (hj : d.jobs[i]? = some j) (hl : d.jobs.length ≤ 1000000000 ∧ d.ways.length ≤ 1000000000) (hN : N ≤ 900000) {r : (ByteArray × Int) × List Pe} (hr : ansD d.d 1 j.1 j.2.1 (did j.2.2) = r) :
    Calls Try.prog 26 #[.pointer (some ⟨g, 0, none⟩), .int .i64 (i : Nat)] w (DosP w0 g (doesW d i j r) (N + 2)) := by
  obtain ⟨b, h, cx, hx', bd, bo, B, Bp, Mp, vd, vo, vw, vj, ha, hd', x⟩ := hx
  obtain ⟨hi, hj2⟩ := List.getElem?_eq_some_iff.1 hj
  have hjo : JobOk d j := by have := hv.jobs _ (List.getElem_mem hi); rwa [hj2] at this
  obtain ⟨gj, cj, hvj, hgj, hglt, hfz, hcell⟩ := owns_cells x.jr (by omega)
  have HCJ := Lib.hid hcell
  subst hvj
  have c5 : w.cell? ⟨g, 5, none⟩ = some (.slice (some ⟨gj, 0, none⟩) d.jobs.length cj) := x.blk.cell 5
  have yj := fun k (hk : k < 3) => show w.cell? ⟨gj, i * 3 + k, none⟩ = (jrow j)[k]? by rw [hcell _ (by omega), ← hj2]; exact flat_get jrow_len d.jobs i k hi hk
  have y0 := yj 0 (by decide)
  have y1 := yj 1 (by decide)
  have y2 := yj 2 (by decide)
  have HX := Lib.hid x
  have HI := Lib.hid hi
  have HL := Lib.hid hl
  have HN := Lib.hid hN
  have HJO := Lib.hid hjo
  have HR := Lib.hid hr
  clear x hv hl hN hr hjo yj hcell hj hj2
  obtain ⟨ji, js, jb⟩ := j
  replace y0 : w.cell? ⟨gj, i * 3, none⟩ = some (.int .u64 ji) := y0
  replace y1 : w.cell? ⟨gj, i * 3 + 1, none⟩ = some (.int .u64 js) := y1
  replace y2 : w.cell? ⟨gj, i * 3 + 2, none⟩ = some (.string jb) := y2
  obtain ⟨n, hn⟩ : ∃ n, n = d.jobs.length := ⟨_, rfl⟩
  have HNJ := Lib.hid hn
  rw [← hn] at c5
  have hi' : (i : Int) < (n : Int) := by omega
  have hi2 : ¬ (i : Int) < 0 := by omega
  clear hn hi
  go_enter Try.func26, Try.ntmps26
  go_upto_region 2 with (refine wpl_store_blk (c' := #[.int .u64 ji, .int .u64 js, .string jb]) (Blk.new _ _ _) rfl _ _ _ rfl rfl rfl (by kernel_rfl) rfl (by simp [Value.oneCell']) ?_; go_loud (intro w1 hb1 ho1; have HB1 := Lib.hid hb1; have HW1 := Lib.hid (al_step ho1); have HX1 := Lib.hid (HX.out.below (al_step ho1)); clear hb1 ho1))
  clear y0 y1 y2 c5
  have HC1 : Hid (∀ k, k < d.jobs.length * 3 → w1.cell? ⟨gj, k, none⟩ = (d.jobs.flatMap jrow)[k]?) := Lib.hid (fun k hk => by rw [HW1.out.cell (p := ⟨gj, k, none⟩) hglt]; exact HCJ.out k hk)
  have c5 : w1.cell? ⟨g, 5, none⟩ = some (.slice (some ⟨gj, 0, none⟩) n cj) := by rw [HNJ.out]; exact HX1.out.blk.cell 5
  have HCAP : Hid (n ≤ cj) := Lib.hid (by
    obtain ⟨_, h0 | ⟨g2, cap2, cur2, e2, _, _, h5, _⟩⟩ := HX1.out.jr
    · cases h0.1
    · injection e2 with _ _ e3; rw [HNJ.out, e3]; exact h5)
  have hcap : (i : Int) ≤ (cj : Int) := by have := HCAP.out; omega
  go_upto_region 3 with (at_builtin; go_loud (refine wpl_append_cells (ys := (d.jobs.take i).flatMap jrow) (v := .slice none 0 0) (n := 0) (xs := []) rfl rfl rfl rfl Try.underlying57 info_job rfl (by decide) (by decide) ⟨by simp, .inl ⟨rfl, rfl⟩⟩ (by rw [flat_len jrow_len, List.length_take, Nat.min_eq_left (Nat.le_of_lt HI.out)]) (fun k u hk => by rw [flat_take jrow_len _ _ (Nat.le_of_lt HI.out), List.getElem?_take] at hk; split at hk; (rw [Nat.zero_add, HC1.out k (by have := HI.out; omega)]; exact hk); cases hk) (flat_one jrow_one _) (by have := HI.out; have := HL.out; omega) (base := w1.heap.size) (Nat.le_refl _) ?_; intro v2 w2 h2 o2; rw [Nat.zero_add, List.nil_append] at h2; obtain ⟨p2, c2, rfl⟩ := owns_slice h2; have HR2 := Lib.hid h2; have HW2 := Lib.hid (Only.below o2 (Nat.le_refl _) (fun k e => by cases e)); clear h2 o2))
  have HC2 : Hid (∀ k, k < d.jobs.length * 3 → w2.cell? ⟨gj, k, none⟩ = (d.jobs.flatMap jrow)[k]?) := Lib.hid (fun k hk => by rw [HW2.out.cell (p := ⟨gj, k, none⟩) (Nat.lt_of_lt_of_le hglt HW1.out.size)]; exact HC1.out k hk)
  have HX2 := Lib.hid (HX1.out.below HW2.out)
  have HB2 := Lib.hid (HB1.out.below HW2.out)
  have hw2 := HW2.out.size
  have HX1S := Lib.hid HX1.out.duo.bel.size
  have HB1L := Lib.hid HB1.out.lt
  clear c5 hcap HC1 HX1 HX HCJ HB1 HW1
  have HW0 : Hid (w0.heap.size ≤ w1.heap.size ∧ w1.heap.size ≤ w2.heap.size ∧ w.heap.size < w1.heap.size) := Lib.hid ⟨HX1S.out, HW2.out.size, HB1L.out⟩
  go_cut [] (fun wc => (∃ v3, OW w0 wc g b h cx hx' bd bo B Bp Mp { d with jobs := d.jobs.take i ++ d.jobs.drop (i + 1) } vd vo vw v3 ha hd' N true) ∧ Blk wc w.heap.size 145 #[.int .u64 ji, .int .u64 js, .string jb])
  case first =>
    have f5 := HX2.out.blk.frozen 5
    have hi4 : wrap64 ((i : Int) + 1) = (i : Int) + 1 := by have := HL.out; have := HNJ.out; unfold wrap64; omega
    have HFIN : Hid (∀ v3 w3 m, m = n - (i + 1) → w3.ownsRow w1.heap.size 145 3 v3 (i + m) (d.jobs.take i |>.flatMap jrow |> (· ++ (d.jobs.drop (i + 1)).flatMap jrow)) → Only (fun k => (Value.slice p2 i c2).ownBlock = some k) w2 w3 → Blk w3 g 61 (wcells b cx d vw (.slice (some ⟨gj, 0, none⟩) d.jobs.length cj) ha hd' true) ∧ OW w0 (w3.setCell ⟨g, 5, none⟩ v3) g b h cx hx' bd bo B Bp Mp { d with jobs := d.jobs.take i ++ d.jobs.drop (i + 1) } vd vo vw v3 ha hd' N true ∧ Blk (w3.setCell ⟨g, 5, none⟩ v3) w.heap.size 145 #[.int .u64 ji, .int .u64 js, .string jb]) := Lib.hid (fun v3 w3 m hm h3 o3 => by
      subst hm
      have hlen : i + (n - (i + 1)) = (d.jobs.take i ++ d.jobs.drop (i + 1)).length := by rw [List.length_append, List.length_take, List.length_drop, ← HNJ.out]; omega
      have h3' : w3.ownsRow w1.heap.size 145 3 v3 (i + (n - (i + 1))) ((d.jobs.take i ++ d.jobs.drop (i + 1)).flatMap jrow) := by rw [List.flatMap_append]; exact h3
      rw [hlen] at h3'
      have hb3 := HB2.out.only o3 (fun e => by have := (owns_type HR2.out e).choose_spec.2.1; have := HW0.out; omega)
      have hj := HX2.out.jset (fun k hk => by obtain ⟨A, hA, hl, _⟩ := owns_type HR2.out hk; exact ⟨A, hA, Nat.le_trans HW0.out.1 hl⟩) (owns_ge h3' HW0.out.1) o3
      exact ⟨hj.1, hj.2, hb3.only ((Only.refl (· = g) w3).set1) (fun e => by have e' : w.heap.size = g := e; rw [e'] at hb3; exact absurd (blk_ne hb3 hj.1) (by decide))⟩)
    by_cases hz : cj = i + 1
    · have hn : n = i + 1 := by have := HCAP.out; omega
      subst hz hn
      have c5 : w2.cell? ⟨g, 5, none⟩ = some (.slice (some ⟨gj, 0, none⟩) (i + 1) (i + 1)) := by have h2 := HX2.out.blk.cell 5; rw [← HNJ.out] at h2; exact h2
      have hnil : Hid ((d.jobs.drop (i + 1)) = []) := Lib.hid (List.drop_eq_nil_of_le (by have := HNJ.out; omega))
      clear hi'
      go_wp2_with (at_builtin; go_loud (refine wpl_append_cells (off := 0) (ys := (d.jobs.drop (i + 1)).flatMap jrow) rfl rfl rfl rfl Try.underlying57 info_job rfl (by decide) (by decide) HR2.out (by rw [hnil.out]; rfl) (fun k u hk => by rw [hnil.out] at hk; simp at hk) (flat_one jrow_one _) (by have := HL.out; have := HNJ.out; omega) HW0.out.2.1 ?_; intro v3 w3 h3 o3; obtain ⟨b3, hx3, hb3⟩ := HFIN.out v3 w3 _ (by simp) h3 o3; have HX3 := Lib.hid hx3; have HB3 := Lib.hid hb3; have d1 : w3.cell? ⟨g, 5, none⟩ = some (.slice (some ⟨gj, 0, none⟩) (i + 1) (i + 1)) := (by have h2 := b3.cell 5; rw [← HNJ.out] at h2; exact h2); have f1 := b3.frozen 5; obtain ⟨p3, c3, rfl⟩ := owns_slice h3; clear h3 o3 b3 hx3 hb3))
      go_meet
      exact ⟨⟨_, HX3.out⟩, HB3.out⟩
    · have c5 : w2.cell? ⟨g, 5, none⟩ = some (.slice (some ⟨gj, 0, none⟩) n cj) := by rw [HNJ.out]; exact HX2.out.blk.cell 5
      have hi3 : (i : Int) + 1 ≤ (n : Int) := by omega
      have hcap : (n : Int) ≤ (cj : Int) := by have := HCAP.out; omega
      go_wp2_with (at_builtin; go_loud (refine wpl_append_cells (off := (i + 1) * 3) (ys := (d.jobs.drop (i + 1)).flatMap jrow) rfl rfl rfl rfl Try.underlying57 info_job rfl (by decide) (by decide) HR2.out (by rw [flat_len jrow_len, List.length_drop, ← HNJ.out]) (fun k u hk => by have := HNJ.out; rw [flat_drop jrow_len _ _ (by omega), List.getElem?_drop] at hk; rw [HC2.out _ (by have := (List.getElem?_eq_some_iff.1 hk).1; rw [flat_len jrow_len] at this; exact this)]; exact hk) (flat_one jrow_one _) (by have := HL.out; have := HNJ.out; omega) HW0.out.2.1 ?_; intro v3 w3 h3 o3; obtain ⟨b3, hx3, hb3⟩ := HFIN.out v3 w3 _ rfl h3 o3; have HX3 := Lib.hid hx3; have HB3 := Lib.hid hb3; have d1 : w3.cell? ⟨g, 5, none⟩ = some (.slice (some ⟨gj, 0, none⟩) n cj) := (by rw [HNJ.out]; exact b3.cell 5); have f1 := b3.frozen 5; obtain ⟨p3, c3, rfl⟩ := owns_slice h3; clear h3 o3 b3 hx3 hb3))
      go_meet
      exact ⟨⟨_, HX3.out⟩, HB3.out⟩
  case rest =>
    obtain ⟨⟨v3, hx3⟩, hb3⟩ := hcut
    obtain ⟨wz, hwz⟩ : ∃ wz, wz = wc := ⟨_, rfl⟩
    subst hwz
    obtain ⟨pw, cw, hvw⟩ := hx3.wr.slice
    subst hvw
    obtain ⟨⟨rt, re⟩, rs⟩ := r
    have HX3 := Lib.hid hx3
    have c1 : wz.cell? ⟨g, 1, none⟩ = some (.pointer (some ⟨cx, 0, none⟩)) := hx3.blk.cell 1
    have y0 : wz.cell? ⟨w.heap.size, 0, none⟩ = some (.int .u64 ji) := hb3.cell 0
    have y1 : wz.cell? ⟨w.heap.size, 1, none⟩ = some (.int .u64 js) := hb3.cell 1
    have y2 : wz.cell? ⟨w.heap.size, 2, none⟩ = some (.string jb) := hb3.cell 2
    have hz : ¬ 9223372036854775807 < 4 + jb.size := by have := HJO.out.2.2.1; dsimp only at this; omega
    have HZ := Lib.hid hz
    obtain ⟨WA, hWA⟩ : ∃ WA, WA = wcells b cx { d with jobs := d.jobs.take i ++ d.jobs.drop (i + 1) } (.slice pw d.ways.length cw) v3 ha hd' true := ⟨_, rfl⟩
    have HWA : Hid (WA[1]? = some (.pointer (some ⟨cx, 0, none⟩))) := Lib.hid (by rw [hWA]; rfl)
    have HI0 : Hid (Blk wz.drew g 61 WA ∧ Blk wz.drew w.heap.size 145 #[.int .u64 ji, .int .u64 js, .string jb]) := Lib.hid ⟨(hWA ▸ hx3.blk).drew, hb3.drew⟩
    have HJ0 := Lib.hid (hx3.below (Below.refl _ wz).drew)
    have HMO : Hid (¬ MO hx' Mp d.d g ∧ ¬ MO hx' Mp d.d w.heap.size) := Lib.hid ⟨fun e => mo_noblk hx3.duo.cd e hx3.blk, fun e => mo_noblk hx3.duo.cd e hb3⟩
    have HST : Hid (∀ wa wb, OnD w0.heap.size (MO hx' Mp d.d) wa wb → (Blk wa g 61 WA ∧ Blk wa w.heap.size 145 #[.int .u64 ji, .int .u64 js, .string jb]) → (Blk wb g 61 WA ∧ Blk wb w.heap.size 145 #[.int .u64 ji, .int .u64 js, .string jb])) := Lib.hid (fun wa wb ho hI => ⟨hI.1.only ho (fun hs => hs.elim HMO.out.1 (fun e => by obtain ⟨_, A', e⟩ := e; exact absurd (blk_ne hI.1 e) (by decide))), hI.2.only ho (fun hs => hs.elim HMO.out.2 (fun e => by obtain ⟨_, A', e⟩ := e; exact absurd (blk_ne hI.2 e) (by decide)))⟩)
    have HAN : Hid (∀ wa, OW w0 wa g b h cx hx' bd bo B Bp Mp { d with jobs := d.jobs.take i ++ d.jobs.drop (i + 1) } vd vo (.slice pw d.ways.length cw) v3 ha hd' N true → Calls Try.prog 16 #[.pointer (some ⟨cx, 0, none⟩), .int .i64 1, .int .u64 ji, .int .u64 js, .string ((⟨#[100, 105, 100, 32]⟩ : ByteArray) ++ jb)] wa fun e wb => ∃ v, e = .returned v ∧ (v = .tuple #[.string rt, .int .i64 re] ∧ ∃ Bp' Mp', OW w0 wb g b h cx hx' bd bo B Bp' Mp' { d with d := rs, jobs := d.jobs.take i ++ d.jobs.drop (i + 1) } vd vo (.slice pw d.ways.length cw) v3 ha hd' (N + 2) true) ∧ OnD w0.heap.size (MO hx' Mp d.d) wa wb) := Lib.hid (fun wa x => by
      refine (ans_any x.duo.cd (fr := 1) (inc := ji) (sq := js) (body := (⟨#[100, 105, 100, 32]⟩ : ByteArray) ++ jb) ⟨by have := HJO.out.2.1; dsimp only at this; unfold U64; omega, by unfold I64; decide⟩ HN.out HR.out).mono ?_
      rintro e wb ⟨rfl, B', M', N', hc, hn', ho, hm⟩
      exact ⟨_, rfl, ⟨rfl, _, _, x.onD (Nat.le_add_right N 2) (hc.mono hn') ho hm⟩, ho⟩)
    clear hWA hz c1 y0 y1 y2
    clear hx3 hb3 hi' hi2 HX2 HC2 HR2 HB2 HW2 hw2 HW0
    generalize w.heap.size = jq at *
    go_upto_region 4 with fail
    go_cut [6, 7] (fun sa sb wq => sa = .string rt ∧ sb = .int .i64 re ∧ ∃ Bp' Mp', OW w0 wq g b h cx hx' bd bo B Bp' Mp' { d with d := rs, jobs := d.jobs.take i ++ d.jobs.drop (i + 1) } vd vo (.slice pw d.ways.length cw) v3 ha hd' (N + 2) true)
    case first =>
      -- region 4
      refine Reg.wp_rely 17 (fun w => Blk w g 61 WA ∧ Blk w jq 145 #[.int .u64 ji, .int .u64 js, .string jb]) (by kernel_rfl) (Reg.relyOk_of (by kernel_rfl)) HI0.out (fun w w' h hI => ⟨hI.1.below h, hI.2.below h⟩) ?_
      refine Reg.rely_plain (.pointer (some ⟨g, 0, none⟩)) rfl (fun a w hI hF => by
          have f1 : a.tmps.getD 0 undef = .pointer (some ⟨g, 0, none⟩) := hF 0 (Reg.looksB (by kernel_rfl))
          clear hF hI
          simp only [Array.getD_eq_getD_getElem?] at f1
          simp only [execOp]; go_simp) ?_
      refine Reg.rely_plain (.pointer (some ⟨g, 0, none⟩)) rfl (fun a w hI hF => by
          have f1 : a.tmps.getD 36 undef = .pointer (some ⟨g, 0, none⟩) := hF 36 (Reg.looksB (by kernel_rfl))
          clear hF hI
          simp only [Array.getD_eq_getD_getElem?] at f1
          simp only [execOp]; go_simp) ?_
      refine Reg.rely_plain (.pointer (some ⟨g, 1, none⟩)) rfl (fun a w hI hF => by
          have f1 : a.tmps.getD 37 undef = .pointer (some ⟨g, 0, none⟩) := hF 37 (Reg.looksB (by kernel_rfl))
          clear hF hI
          simp only [Array.getD_eq_getD_getElem?] at f1
          simp only [execOp]; go_simp) ?_
      refine Reg.rely_plain (.pointer (some ⟨cx, 0, none⟩)) rfl (fun a w hI hF => by
          have f1 : a.tmps.getD 38 undef = .pointer (some ⟨g, 1, none⟩) := hF 38 (Reg.looksB (by kernel_rfl))
          have hc : w.cell? ⟨g, 1, none⟩ = some (.pointer (some ⟨cx, 0, none⟩)) := (hI.1.cell 1).trans HWA.out
          clear hF hI
          simp only [Array.getD_eq_getD_getElem?] at f1
          simp only [execOp]; go_simp) ?_
      refine Reg.rely_plain (.pointer (some ⟨jq, 0, none⟩)) rfl (fun a w hI hF => by
          have f1 : a.tmps.getD 4 undef = .pointer (some ⟨jq, 0, none⟩) := hF 4 (Reg.looksB (by kernel_rfl))
          clear hF hI
          simp only [Array.getD_eq_getD_getElem?] at f1
          simp only [execOp]; go_simp) ?_
      refine Reg.rely_plain (.int .u64 ji) rfl (fun a w hI hF => by
          have f1 : a.tmps.getD 40 undef = .pointer (some ⟨jq, 0, none⟩) := hF 40 (Reg.looksB (by kernel_rfl))
          have hc : w.cell? ⟨jq, 0, none⟩ = some (.int .u64 ji) := hI.2.cell 0
          clear hF hI
          simp only [Array.getD_eq_getD_getElem?] at f1
          simp only [execOp]; go_simp) ?_
      refine Reg.rely_plain (.pointer (some ⟨jq, 1, none⟩)) rfl (fun a w hI hF => by
          have f1 : a.tmps.getD 4 undef = .pointer (some ⟨jq, 0, none⟩) := hF 4 (Reg.looksB (by kernel_rfl))
          clear hF hI
          simp only [Array.getD_eq_getD_getElem?] at f1
          simp only [execOp]; go_simp) ?_
      refine Reg.rely_plain (.int .u64 js) rfl (fun a w hI hF => by
          have f1 : a.tmps.getD 42 undef = .pointer (some ⟨jq, 1, none⟩) := hF 42 (Reg.looksB (by kernel_rfl))
          have hc : w.cell? ⟨jq, 1, none⟩ = some (.int .u64 js) := hI.2.cell 1
          clear hF hI
          simp only [Array.getD_eq_getD_getElem?] at f1
          simp only [execOp]; go_simp) ?_
      refine Reg.rely_plain (.pointer (some ⟨jq, 2, none⟩)) rfl (fun a w hI hF => by
          have f1 : a.tmps.getD 4 undef = .pointer (some ⟨jq, 0, none⟩) := hF 4 (Reg.looksB (by kernel_rfl))
          clear hF hI
          simp only [Array.getD_eq_getD_getElem?] at f1
          simp only [execOp]; go_simp) ?_
      refine Reg.rely_plain (.string jb) rfl (fun a w hI hF => by
          have f1 : a.tmps.getD 44 undef = .pointer (some ⟨jq, 2, none⟩) := hF 44 (Reg.looksB (by kernel_rfl))
          have hc : w.cell? ⟨jq, 2, none⟩ = some (.string jb) := hI.2.cell 2
          clear hF hI
          simp only [Array.getD_eq_getD_getElem?] at f1
          simp only [execOp]; go_simp) ?_
      refine Reg.rely_plain (.string ((⟨#[100, 105, 100, 32]⟩ : ByteArray) ++ jb)) rfl (fun a w hI hF => by
          have f1 : a.tmps.getD 45 undef = .string jb := hF 45 (Reg.looksB (by kernel_rfl))
          have hz := HZ.out
          clear hF hI
          simp only [Array.getD_eq_getD_getElem?] at f1
          simp only [execOp]; go_simp) ?_
      refine Reg.rely_call (fun v w => v = .tuple #[.string rt, .int .i64 re] ∧ ∃ Bp' Mp', OW w0 w g b h cx hx' bd bo B Bp' Mp' { d with d := rs, jobs := d.jobs.take i ++ d.jobs.drop (i + 1) } vd vo (.slice pw d.ways.length cw) v3 ha hd' (N + 2) true) (fun w w' => OnD w0.heap.size (MO hx' Mp d.d) w w') (fun w => OW w0 w g b h cx hx' bd bo B Bp Mp { d with jobs := d.jobs.take i ++ d.jobs.drop (i + 1) } vd vo (.slice pw d.ways.length cw) v3 ha hd' N true) (fun v w w' h hS => ⟨hS.1, by obtain ⟨Bp', Mp', hx⟩ := hS.2; exact ⟨_, _, hx.below h⟩⟩) (fun G hG => by cases hG) (fun w w' h hI => HST.out w w' h hI) ?_ rfl (fun w w' h hJ => hJ.below h) HJ0.out (fun G hG => by cases hG) (fun G hG => by cases hG) 16 #[.pointer (some ⟨cx, 0, none⟩), .int .i64 1, .int .u64 ji, .int .u64 js, .string ((⟨#[100, 105, 100, 32]⟩ : ByteArray) ++ jb)] (fun a w hI hF => ?_) (fun w hI hJ => (HAN.out w hJ)) ?_
      · intro p hp
        repeat (rcases List.mem_cons.1 hp with rfl | hp; exact Reg.stab_is _ _)
        cases hp
      · have f1 : a.tmps.getD 39 undef = .pointer (some ⟨cx, 0, none⟩) := hF 39 (Reg.looksB (by kernel_rfl))
        have f2 : a.tmps.getD 41 undef = .int .u64 ji := hF 41 (Reg.looksB (by kernel_rfl))
        have f3 : a.tmps.getD 43 undef = .int .u64 js := hF 43 (Reg.looksB (by kernel_rfl))
        have f4 : a.tmps.getD 46 undef = .string ((⟨#[100, 105, 100, 32]⟩ : ByteArray) ++ jb) := hF 46 (Reg.looksB (by kernel_rfl))
        clear hF hI
        simp only [Array.getD_eq_getD_getElem?] at f1 f2 f3 f4
        simp only [execOp]; go_simp
      refine Reg.rely_is (.tuple #[.string rt, .int .i64 re]) (fun a w hI hF => Reg.det_plain rfl ?_) ?_
      · have f1 : a.tmps.getD 47 undef = .tuple #[.string rt, .int .i64 re] := (hF 47 (Reg.looksB (by kernel_rfl))).1
        clear hF hI
        simp only [Array.getD_eq_getD_getElem?] at f1
        simp only [execOp]; go_simp
      refine Reg.rely_plain (.string rt) rfl (fun a w hI hF => by
          have f1 : a.tmps.getD 35 undef = .tuple #[.string rt, .int .i64 re] := hF 35 (Reg.looksB (by kernel_rfl))
          clear hF hI
          simp only [Array.getD_eq_getD_getElem?] at f1
          simp only [execOp]; go_simp) ?_
      refine Reg.rely_plain (.int .i64 re) rfl (fun a w hI hF => by
          have f1 : a.tmps.getD 35 undef = .tuple #[.string rt, .int .i64 re] := hF 35 (Reg.looksB (by kernel_rfl))
          clear hF hI
          simp only [Array.getD_eq_getD_getElem?] at f1
          simp only [execOp]; go_simp) ?_
      refine Reg.rely_plain (.string rt) rfl (fun a w hI hF => by
          have f1 : a.tmps.getD 48 undef = .string rt := hF 48 (Reg.looksB (by kernel_rfl))
          clear hF hI
          simp only [Array.getD_eq_getD_getElem?] at f1
          simp only [execOp]; go_simp) ?_
      refine Reg.rely_plain (.int .i64 re) rfl (fun a w hI hF => by
          have f1 : a.tmps.getD 49 undef = .int .i64 re := hF 49 (Reg.looksB (by kernel_rfl))
          clear hF hI
          simp only [Array.getD_eq_getD_getElem?] at f1
          simp only [execOp]; go_simp) ?_
      refine Reg.rely_nil ?_
      refine Reg.final_is ?_
      refine Reg.final_is ?_
      refine Reg.final_is ?_
      refine Reg.final_is ?_
      refine Reg.final_is ?_
      refine Reg.final_rel (fun v47 => ?_)
      refine Reg.final_is ?_
      refine Reg.final_is ?_
      refine Reg.final_is ?_
      refine Reg.final_is ?_
      refine Reg.final_is ?_
      refine Reg.final_is ?_
      refine Reg.final_is ?_
      refine Reg.final_is ?_
      refine Reg.final_is ?_
      refine Reg.final_is ?_
      refine Reg.final_is ?_
      refine Reg.final_nil (fun w9 hF => ?_)
      -- region 4 ends
      have hx7 := hF.2.2
      obtain ⟨Bp', Mp', hx7⟩ := hx7
      clear hF
      simp only [List.drop_succ_cons, List.drop_zero]
      go_simp
      go_wp2_with fail
      refine Reg.fin (by kernel_rfl) ?_
      go_wp2_with fail
      go_meet
      exact ⟨rfl, rfl, _, _, hx7⟩
    case rest =>
      obtain ⟨rfl, rfl, Bp', Mp', hx7⟩ := hcut
      obtain ⟨w7, hw7⟩ : ∃ w7, w7 = wc := ⟨_, rfl⟩
      subst hw7
      have HX7 := Lib.hid hx7
      clear hx7 HAN HX3 HI0 HJ0 HST HMO
      have c4 : w7.cell? ⟨g, 4, none⟩ = some (.slice pw d.ways.length cw) := HX7.out.blk.cell 4
      have f4 := HX7.out.blk.frozen 4
      obtain ⟨kw, hkw⟩ : ∃ kw, kw = d.ways.length := ⟨_, rfl⟩
      have HKW := Lib.hid hkw
      rw [← hkw] at c4
      clear hkw
      by_cases he : re = 0
      · have he' : (re == 0) = true := by simpa using he
        have HWY : Hid (doesW d i (ji, js, jb) ((rt, re), rs) = { d with d := rs, jobs := d.jobs.take i ++ d.jobs.drop (i + 1), ways := d.ways ++ [(true, rt)] }) := Lib.hid (by unfold doesW; rw [if_pos he])
        clear he
        go_wp2_with (at_builtin; go_loud (refine wpl_append_view (ys := wrow (true, rt)) rfl rfl rfl (by rw [HKW.out]; rfl) Try.underlying56 info_way rfl rfl rfl (by decide) (by decide) HX7.out.wr (by have := HL.out; dsimp only; omega) HX7.out.duo.bel.size rfl ?_; intro v8 w8 h8 o8; obtain ⟨p8, c8, rfl⟩ := h8.slice; obtain ⟨b8, hx8⟩ := HX7.out.way (y := (true, rt)) h8 o8; have HX8 := Lib.hid hx8; have d1 : w8.cell? ⟨g, 4, none⟩ = some (.slice pw kw cw) := (by rw [HKW.out]; exact b8.cell 4); have f1 := b8.frozen 4; clear h8 o8 b8 hx8))
        go_end0
        exact ⟨rfl, by rw [HWY.out]; exact ⟨_, _, _, _, _, _, _, _, _, _, _, _, _, _, _, HX8.out⟩⟩
      · have he' : (re == 0) = false := by simpa using he
        have HWY : Hid (doesW d i (ji, js, jb) ((rt, re), rs) = { d with d := rs, jobs := d.jobs.take i ++ d.jobs.drop (i + 1) }) := Lib.hid (by unfold doesW; rw [if_neg he])
        clear he
        go_wp2_with fail
        go_end0
        exact ⟨rfl, by rw [HWY.out]; exact ⟨_, _, _, _, _, _, _, _, _, _, _, _, _, _, _, HX7.out⟩⟩
end Go.Proofs.Ytgdgonmhgpflcaa
