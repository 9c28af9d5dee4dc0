import Derived.Test.YtgdgonmhgpflcaaMgm
import Derived.Deep.QuietTactic
import Derived.BigQuiet

/- The walk of RpcOnce's 'sends'. No condition but that there is not too much. -/
namespace Go.Proofs.Ytgdgonmhgpflcaa
open Go.RowKit Go.Maps Wire Rp
set_option linter.unusedVariables false
set_option linter.unusedSimpArgs false
/-- While the texts that are due are laid on their way. -/
def wiD (d : Wd) (i : Nat) : Wd := { d with c := { d.c with du := [] }, ways := d.ways ++ (d.c.du.take i).map fun q => (false, q.2) }
theorem wiD_zero (d : Wd) : wiD d 0 = { d with c := { d.c with du := [] } } := by unfold wiD; simp
theorem wiD_succ (d : Wd) (i : Nat) (hi : i < d.c.du.length) : wiD d (i + 1) = { wiD d i with ways := (wiD d i).ways ++ [(false, d.c.du[i].2)] } := by
  unfold wiD
  dsimp only
  rw [List.take_succ_eq_append_getElem hi, List.map_append, List.append_assoc]
  rfl
theorem wiD_len (d : Wd) (i : Nat) (hi : i ≤ d.c.du.length) : (wiD d i).ways.length = d.ways.length + i := by
  unfold wiD
  dsimp only
  rw [List.length_append, List.length_map, List.length_take]
  omega
theorem wiD_end (d : Wd) : { wiD d d.c.du.length with c := { (wiD d d.c.du.length).c with ov := [] } } = sendsW d := by
  unfold wiD sendsW
  rw [List.take_length]
def SndP (w0 : World) (g : Nat) (d : Wd) (N : Nat) (e : Ending) (w' : World) : Prop := (∃ n : Int, e = .returned (.int .i64 n)) ∧ OP w0 w' g (sendsW d) true N
theorem due_get {i : Nat} {l : List (Int × ByteArray)} (hi : i < l.length) : (rowsD l)[i * 2 + 1]? = some (.string l[i].2) := by
  unfold rowsD
  rw [flat_get dcells_len l i 1 hi (by decide)]
  rfl
theorem ov_get {i j : Nat} {l : List Ov} (hi : i < l.length) (hj : j < 4) : (rowsO l)[i * 4 + j]? = (ocells l[i])[j]? := by
  unfold rowsO
  rw [flat_get ocells_len l i j hi hj]
section
variable {w0 w w' : World} {g b h cx hx bd bo ha hd N base sz n : Nat} {B Bp Mp : Int → Nat} {d : Wd} {vd vo vw vj v u : Value} {fn : Bool} {T : TypeId} {xs : List Value} {A : Array Value}
/-- A row of another's stays while a text is laid on its way. -/
theorem OW.keep (x : OW w0 w g b h cx hx bd bo B Bp Mp d vd vo vw vj ha hd N fn) (hr : w.ownsRow base T sz v n xs) (hT : T ≠ 66 ∧ T ≠ 61) (o : Only (fun k => vw.ownBlock = some k) w w') (hb : Blk w' g 61 A) (f : Nat) : (w'.setCell ⟨g, f, none⟩ u).ownsRow base T sz v n xs := by
  have h1 := owns_only hr o (fun k hk e => by obtain ⟨A1, hA, _⟩ := owns_type hr hk; obtain ⟨A2, hA2, _⟩ := x.wr.ty e; exact hT.1 (blk_ne hA hA2))
  exact owns_only h1 ((Only.refl (· = g) w').set1) (fun k hk e => by obtain ⟨A1, hA, _⟩ := owns_type h1 hk; have e' : k = g := e; subst e'; exact hT.2 (blk_ne hA hb))
end
set_option maxRecDepth 100000 in
set_option maxHeartbeats 4000000 in
theorem wsends_any {w0 w : World} {g N : Nat} {d : Wd} (hx : OP w0 w g d true N) (hv : OInv d) (hb : d.ways.length + d.c.du.length ≤ 1000000000) (hd : d.c.du.length ≤ 1000000) (ho : d.c.ov.length ≤ 1000000) :
    Calls Try.prog 27 #[.pointer (some ⟨g, 0, none⟩)] w (SndP w0 g d N) := by
  obtain ⟨b, h, cx, hx', bd, bo, B, Bp, Mp, vd, vo, vw, vj, ha, hd', x⟩ := hx
  have c0 : w.cell? ⟨g, 0, none⟩ = some (.pointer (some ⟨b, 0, none⟩)) := x.blk.cell 0
  have HDU := Lib.hid (w_due x)
  obtain ⟨pd, cd, hvd⟩ := x.duo.cw.dslice
  subst hvd
  have HV := Lib.hid hv
  have HB := Lib.hid (And.intro hb (And.intro hd ho))
  clear x hv hb hd ho
  go_enter Try.func27, Try.ntmps27
  go_wp2_with (go_at_call 31; go_loud ((with_reducible refine HDU.out.mono ?_); rintro e w1 ⟨rfl, hrow, hlt, hx1⟩; have HR1 := Lib.hid hrow; have HX1 := Lib.hid hx1; clear hrow hlt hx1))
  clear c0 HDU
  obtain ⟨n, hn⟩ : ∃ n, n = d.c.du.length := ⟨_, rfl⟩
  have HNN := Lib.hid hn
  rw [← hn] at HR1
  rw [← hn]
  clear hn
  generalize w.heap.size = bd2 at *
  go_loopw [4] (fun u wr => ∃ i vw', i ≤ n ∧ u = .int .i64 (i : Nat) ∧ OW w0 wr g b h cx hx' bd2 bo B Bp Mp (wiD d i) (.slice none 0 0) vo vw' vj ha hd' N true ∧ wr.ownsRow bd 101 2 (.slice pd n cd) n (rowsD d.c.du)) (fun u _ => ((n : Int) - intOf u).toNat)
  case atStart => exact ⟨0, vw, Nat.zero_le _, rfl, by rw [wiD_zero]; exact HX1.out, HR1.out⟩
  case round =>
    obtain ⟨i, vw', hi0, rfl, hx, hr⟩ := hrel
    have HX := Lib.hid hx
    have HR := Lib.hid hr
    have HI0 := Lib.hid hi0
    obtain ⟨pw, cw', hvw⟩ := hx.wr.slice
    subst hvw
    by_cases hi : i < n
    · have HIN := Lib.hid hi
      obtain ⟨gd, capd, hpd, _, hgl, hfd, hcell⟩ := owns_cells hr (by omega)
      injection hpd with hpd _ hcd
      subst hpd hcd
      have hil : i < d.c.du.length := by have := HNN.out; omega
      have y1 : wr.cell? ⟨gd, i * 2 + 1, none⟩ = some (.string d.c.du[i].2) := by rw [hcell _ (by omega)]; exact due_get hil
      have y1n : ∀ o, (wr.alloc o).cell? ⟨gd, i * 2 + 1, none⟩ = some (.string d.c.du[i].2) := fun o => by rw [((Below.refl _ wr).alloc (Nat.le_refl _) o).cell (p := ⟨gd, i * 2 + 1, none⟩) hgl]; exact y1
      obtain ⟨k, hk⟩ : ∃ k, k = (wiD d i).ways.length := ⟨_, rfl⟩
      rw [← hk] at HX
      have c4 : wr.cell? ⟨g, 4, none⟩ = some (.slice pw k cw') := by rw [hk]; exact hx.blk.cell 4
      have c4n : ∀ o, (wr.alloc o).cell? ⟨g, 4, none⟩ = some (.slice pw k cw') := fun o => by rw [hk]; exact (hx.blk.alloc o).cell 4
      have HK := Lib.hid hk
      obtain ⟨tx, htx⟩ : ∃ tx, tx = d.c.du[i].2 := ⟨_, rfl⟩
      rw [← htx] at y1
      simp only [← htx] at y1n
      have HTX : Hid (wiD d (i + 1) = { wiD d i with ways := (wiD d i).ways ++ [(false, tx)] }) := Lib.hid (by rw [htx]; exact wiD_succ d i hil)
      have HXD : Hid (OW w0 wr.drew g b h cx hx' bd2 bo B Bp Mp (wiD d i) (.slice none 0 0) vo (.slice pw k cw') vj ha hd' N true) := Lib.hid (HX.out.below (Below.refl _ wr).drew)
      have HRD := Lib.hid (owns_below hr (Below.refl _ wr).drew)
      have HE : Hid (wrap64 ((i : Int) + 1) = ((i + 1 : Nat) : Int)) := Lib.hid (by have := HB.out; have := HNN.out; unfold wrap64; omega)
      have hi' : (i : Int) < (n : Int) := by omega
      clear hx hr hi hi0 hcell hk htx hil
      go_upto_region 5 with fail
      go_region_law (refine step_append_view (ys := wrow (false, tx)) (by rfl) (by rfl) (by rfl) (by rfl) Try.underlying56 info_way rfl rfl rfl (by decide) (by decide) HXD.out.wr (by have := wiD_len d i (by have := HI0.out; have := HNN.out; omega); have := HB.out; have := HI0.out; have := HNN.out; omega) HXD.out.duo.bel.size (by first | rfl | simp) ?_; intro v6 w6 h6 o6; obtain ⟨p6, c6, rfl⟩ := h6.slice; obtain ⟨b6, hx6⟩ := HXD.out.way (y := (false, tx)) h6 o6; have HX6 := Lib.hid hx6; have HR6 := Lib.hid (HXD.out.keep (u := .slice p6 ((wiD d i).ways.length + 1) c6) HRD.out (by decide) o6 b6 4); have d1 : w6.cell? ⟨g, 4, none⟩ = some (.slice pw k cw') := b6.cell 4; have f1 := b6.frozen 4; clear h6 o6 b6 hx6)
      all_goals (clear d1 f1)
      all_goals (go_wp2_with fail)
      all_goals go_roundw
      all_goals first | exact ⟨i + 1, _, by have := HIN.out; omega, by rw [HE.out], by rw [HTX.out]; exact HX6.out, HR6.out⟩ | ((try rw [HE.out]); simp [intOf]; have := HIN.out; omega)
    · have hin : i = n := by omega
      subst hin
      have hi' : ¬ (i : Int) < (i : Int) := by omega
      have c0 : wr.cell? ⟨g, 0, none⟩ = some (.pointer (some ⟨b, 0, none⟩)) := hx.blk.cell 0
      obtain ⟨po, co, hvo⟩ := hx.duo.cw.oslice
      subst hvo
      have HEN := Lib.hid (w_ended hx)
      have HWE : Hid ({ wiD d i with c := { (wiD d i).c with ov := [] } } = sendsW d) := Lib.hid (by rw [HNN.out]; exact wiD_end d)
      rw [HWE.out] at HEN
      have hov : (wiD d i).c.ov = d.c.ov := rfl
      rw [hov] at HEN
      rw [hov]
      clear hx hr hi hi0 hov HX HR HR1 HX1 HWE
      obtain ⟨m, hm⟩ : ∃ m, m = d.c.ov.length := ⟨_, rfl⟩
      rw [← hm] at HEN
      rw [← hm]
      have HMM := Lib.hid hm
      clear hm
      generalize (wiD d i).ways.length = kw at *
      go_wp2_with (go_at_call 32; go_loud ((with_reducible refine HEN.out.mono ?_); rintro e w2 ⟨rfl, hrow, hx2⟩; have HR2 := Lib.hid hrow; have HX2 := Lib.hid hx2; clear hrow hx2))
      clear c0 HEN hi'
      generalize wr.heap.size = bo2 at *
      go_loopw [6] (fun u wq => ∃ j, j ≤ m ∧ u = .int .i64 (j : Nat) ∧ OW w0 wq g b h cx hx' bd2 bo2 B Bp Mp (sendsW d) (.slice none 0 0) (.slice none 0 0) (.slice pw kw cw') vj ha hd' N true ∧ wq.ownsRow bo 83 4 (.slice po m co) m (rowsO d.c.ov)) (fun u _ => ((m : Int) - intOf u).toNat)
      case atStart => exact ⟨0, Nat.zero_le _, rfl, HX2.out, HR2.out⟩
      case round =>
        obtain ⟨wq, hwq⟩ : ∃ wq, wq = wr := ⟨_, rfl⟩
        subst hwq
        obtain ⟨j, hj0, rfl, hx, hr⟩ := hrel
        have HX := Lib.hid hx
        have HR := Lib.hid hr
        by_cases hj : j < m
        · have HJ := Lib.hid hj
          obtain ⟨go, capo, hpo, _, hgl, hfo, hcell⟩ := owns_cells hr (by omega)
          injection hpo with hpo _ hco
          subst hpo hco
          have hjl : j < d.c.ov.length := by have := HMM.out; omega
          have hok := HV.out.ov _ (List.getElem_mem hjl)
          have y0 : wq.cell? ⟨go, j * 4, none⟩ = some (.int .u64 d.c.ov[j].seq) := by rw [hcell _ (by omega)]; exact ov_get (j := 0) hjl (by decide)
          have y2 : wq.cell? ⟨go, j * 4 + 2, none⟩ = some (.string d.c.ov[j].body) := by rw [hcell _ (by omega)]; exact ov_get (j := 2) hjl (by decide)
          have y3 : wq.cell? ⟨go, j * 4 + 3, none⟩ = some (.int .i64 d.c.ov[j].err) := by rw [hcell _ (by omega)]; exact ov_get (j := 3) hjl (by decide)
          have c6 : wq.cell? ⟨g, 6, none⟩ = some (.map (some ha)) := hx.blk.cell 6
          have c7 : wq.cell? ⟨g, 7, none⟩ = some (.map (some hd')) := hx.blk.cell 7
          have HE : Hid (wrap64 ((j : Int) + 1) = ((j + 1 : Nat) : Int)) := Lib.hid (by have := HB.out; have := HMM.out; unfold wrap64; omega)
          have hj' : (j : Int) < (m : Int) := by omega
          have HXD : Hid (OW w0 wq.drew g b h cx hx' bd2 bo2 B Bp Mp (sendsW d) (.slice none 0 0) (.slice none 0 0) (.slice pw kw cw') vj ha hd' N true) := Lib.hid (hx.below (Below.refl _ wq).drew)
          have HRD := Lib.hid (owns_below hr (Below.refl _ wq).drew)
          generalize d.c.ov[j] = o at *
          clear hx hr hj hj0 hcell hjl hfo
          obtain ⟨sq, wh, body, err⟩ := o
          dsimp only at *
          by_cases he : err = 0
          · obtain ⟨h1, bb, h2, h3⟩ := hok he
            subst he
            have h3' : body = (⟨#[100, 105, 100, 32]⟩ : ByteArray) ++ bb := h3
            subst h3'
            have hu : U64 sq := by have := HV.out.ask _ h2; have := HV.out.last; dsimp only at *; unfold U64; omega
            have hz : (⟨#[100, 105, 100, 32]⟩ : ByteArray).size + bb.size ≤ 9223372036854775807 := by have := HV.out.ask _ h2; dsimp only at this; have e4 : (⟨#[100, 105, 100, 32]⟩ : ByteArray).size = 4 := rfl; omega
            have hl1 := HXD.out.asked h2 hu
            have hl2 := HXD.out.done h1 hu
            have hl3 := HX.out.asked h2 hu
            have hl4 := HX.out.done h1 hu
            have hst := str_of (a := (⟨#[100, 105, 100, 32]⟩ : ByteArray) ++ bb) rfl
            clear hok h1 h2 h3
            go_upto_region 10 with fail
            go_region
            go_wp2_with fail
            go_roundw
            case rel => exact ⟨j + 1, by have := HJ.out; omega, by rw [HE.out], HXD.out, HRD.out⟩
            case measure => (try rw [HE.out]); simp [intOf]; have := HJ.out; omega
          · have he' : (err == 0) = false := by simpa using he
            clear hok he
            go_upto_region 10 with fail
            go_region
            go_wp2_with fail
            go_roundw
            case rel => exact ⟨j + 1, by have := HJ.out; omega, by rw [HE.out], HXD.out, HRD.out⟩
            case measure => (try rw [HE.out]); simp [intOf]; have := HJ.out; omega
        · have hj' : ¬ (j : Int) < (m : Int) := by omega
          clear hx hr hj hj0
          go_wp2_with fail
          go_ret
          exact ⟨⟨_, rfl⟩, _, _, _, _, _, _, _, _, _, _, _, _, _, _, _, HX.out⟩
end Go.Proofs.Ytgdgonmhgpflcaa
