import Derived.Test.YtgdgonmhgpflcaaOncN
import Derived.Test.YtgdgonmhgpflcaaMgj
import Derived.StillTailTactics

/- The law 'RpcOnce' at any acts. No condition. -/
namespace Go.Proofs.Ytgdgonmhgpflcaa
open Go.RowKit Go.Maps Wire Rp
set_option linter.unusedVariables false
set_option linter.unusedSimpArgs false
/-- The world just boxed, without its caller. -/
theorem ob_new {W w1 : World} {cx hx : Nat} (hc : CdW w1 W.heap.size cx hx (fun _ => 0) (fun _ => 0) [] 0) (hb : Below W.heap.size W w1) :
    OB W (w1.alloc (.cells #[.pointer none, .pointer (some ⟨cx, 0, none⟩), .int .u64 0, .int .i64 0, .slice none 0 0, .slice none 0 0, .map none, .map none, .bool true] 61)) w1.heap.size cx hx (fun _ => 0) (fun _ => 0) ⟨⟨0, 4, 16, 60, 0, [], [], []⟩, [], 0, 0, [], [], [], []⟩ (.pointer none) (.map none) (.map none) (.slice none 0 0) (.slice none 0 0) 0 :=
  ⟨hc.below ((Below.refl _ _).alloc (Nat.le_refl _) _), hb.trans ((Below.refl _ w1).alloc hb.size _), Blk.new _ _ _, RowV.nil, World.ownsRow_nil _ _ _ _, hb.size⟩
/-- Ahead of act number i. -/
def ActI (W : World) (g n : Nat) (u : Value) (w : World) : Prop := ∃ i : Nat, i ≤ n ∧ u = .int .i64 (i : Nat) ∧ ∃ d N, OP W w g d true N ∧ At0 d ∧ N + 3 * pot d ≤ 600 * i ∧ d.now ≤ 64 * (i : Int) ∧ d.inc ≤ 1 + (i : Int) ∧ d.c.last ≤ (i : Int)
/-- In round number r. -/
def RndI (W : World) (g r : Nat) (w : World) : Prop := ∃ d N, OP W w g d true N ∧ At0 d ∧ TmB d (240 - (r : Int)) ∧ d.now ≤ 12800 + 4 * (r : Int) ∧ N + 3 * pot d ≤ 120600 + 600 * r
def LawO (W : World) (e : Ending) (w' : World) : Prop := e = .returned (.bool true) ∧ Below W.heap.size W w'
theorem OP.bel {w0 w : World} {g N : Nat} {d : Wd} {fn : Bool} (h : OP w0 w g d fn N) : Below w0.heap.size w0 w ∧ w0.heap.size ≤ w.heap.size := by
  obtain ⟨_, _, _, _, _, _, _, _, _, _, _, _, _, _, _, x⟩ := h
  exact ⟨x.duo.bel, x.duo.bel.size⟩
theorem OP.works {w0 w w' : World} {g N : Nat} {d : Wd} {fn : Bool} (h : OP w0 w g d fn N) (hb : Below w.heap.size w w') : Below w0.heap.size w0 w' := h.bel.1.trans (hb.mono h.bel.2)
/-- The first text taken off its way. -/
theorem cut0 {d : Wd} (h : At0 d) {y : Bool × ByteArray} {ys : List (Bool × ByteArray)} (e : d.ways = y :: ys) : At0 { d with ways := ys } ∧ pot { d with ways := ys } + (if y.1 then 1 else 3) = pot d ∧ WayOk { d with ways := ys } y := by
  refine ⟨⟨h.inv.less (fun z hz => by rw [e]; exact List.mem_cons_of_mem _ hz), h.du, h.ov⟩, ?_, (h.inv.ways y (by rw [e]; exact List.mem_cons_self)).more rfl (fun _ e => e) (fun _ e => e)⟩
  unfold pot
  rw [e]
  dsimp only
  rw [List.map_cons, List.sum_cons]
  omega
set_option maxRecDepth 100000 in
theorem RndI.of {W w : World} {g r N : Nat} {d d1 : Wd} (ho : OP W w g (sendsW d1) true N) (m : Mid d d1) (hdu : d.c.du = []) (ht : TmB d (240 - (r : Int))) (hn : d.now ≤ 12800 + 4 * (r : Int)) (hp : N + 3 * pot d1 ≤ 120600 + 600 * r) : RndI W g r w := by
  refine ⟨sendsW d1, N, ho, ⟨m.inv.sends, rfl, rfl⟩, ht.less m.now m.L, ?_, ?_⟩
  · show d1.now ≤ _
    rw [m.now]
    exact hn
  · rw [pot_sends, m.du, hdu]
    exact hp
set_option maxRecDepth 100000 in
theorem RndI.next {W w : World} {g r N : Nat} {d : Wd} (ho : OP W w g (sendsW (tickW d (d.now + 4))) true N) (h : At0 d) (hs : SInv (tickS d.c (d.now + 4)).2) (ht : TmB d (240 - (r : Int))) (hn : d.now ≤ 12800 + 4 * (r : Int)) (hr : r ≤ 240) (hp : N + 3 * pot d ≤ 120600 + 600 * r) : RndI W g (r + 1) w := by
  have ha := (Adv.tick (N := N) h (now := d.now + 4) (by omega) hs).sends
  refine ⟨_, N, ho, ha.at0, ?_, ?_, ?_⟩
  · have h1 := h.inv.tm1 ht (by omega)
    rw [show (240 : Int) - ((r + 1 : Nat) : Int) = 240 - (r : Int) - 1 by omega]
    exact h1
  · show d.now + 4 ≤ _
    omega
  · have h2 := ha.pt
    generalize pot (sendsW (tickW d (d.now + 4))) = z at h2 ⊢
    omega
set_option maxRecDepth 100000 in
theorem OP.cells {w0 w : World} {g N : Nat} {d : Wd} {fn : Bool} (h : OP w0 w g d fn N) : w.cell? ⟨g, 8, none⟩ = some (.bool fn) ∧ w.cell? ⟨g, 3, none⟩ = some (.int .i64 d.now) := by
  obtain ⟨_, _, _, _, _, _, _, _, _, _, _, _, _, _, _, x⟩ := h
  exact ⟨x.blk.cell 8, x.blk.cell 3⟩
/-- Behind 'w.ways = w.ways[1:]'. -/
theorem OW.cut1 {w0 w : World} {g b h cx hx bd bo ha hd N gw ofw k cw : Nat} {B Bp Mp : Int → Nat} {d : Wd} {vd vo vj : Value} {fn : Bool} (x : OW w0 w g b h cx hx bd bo B Bp Mp d vd vo (.slice (some ⟨gw, ofw, none⟩) (k + 1) cw) vj ha hd N fn) {y : Bool × ByteArray} {ys : List (Bool × ByteArray)} (e : d.ways = y :: ys) (hk : k = ys.length) {v : Value} (hv : v = if cw = 1 then .slice (some ⟨gw, ofw, none⟩) 0 0 else .slice (some ⟨gw, ofw + 2, none⟩) k (cw - 1)) :
    OW w0 (w.setCell ⟨g, 4, none⟩ v) g b h cx hx bd bo B Bp Mp { d with ways := ys } vd vo v vj ha hd N fn := by
  have hr := x.wr
  rw [e, List.length_cons, ← hk, List.flatMap_cons] at hr
  have hw : RowV w w0.heap.size 66 2 v ys.length (ys.flatMap wrow) := by
    by_cases hz : cw = 1
    · rw [if_pos hz] at hv
      subst hz hv
      obtain ⟨hl, ⟨h0, _⟩ | ⟨g', off', cap', A, e0, hb, hq, hc, hs, _⟩⟩ := hr
      · cases h0
      · injection e0 with e1 _ e3
        injection e1 with e1
        injection e1 with e4 e5
        subst e3 e4 e5
        have hy : ys = [] := List.eq_nil_of_length_eq_zero (by omega)
        subst hy
        exact ⟨rfl, .inr ⟨gw, ofw, 0, A, rfl, hb, hq, Nat.le_refl _, by omega, fun j u hu => by simp at hu⟩⟩
    · rw [if_neg hz] at hv
      subst hv
      rw [← hk]
      exact hr.tail rfl
  exact x.set (f := 4) (v := v) (d' := { d with ways := ys }) (fn' := fn) (vw' := v) (vj' := vj) rfl ⟨rfl, rfl, rfl, rfl⟩ hw x.jr
set_option maxRecDepth 100000 in
set_option maxHeartbeats 8000000 in
theorem once_t {W : World} {v : Value} {n : Nat} {sx : Nat → AcR} (hs : ActsR W v n sx) : Calls Try.prog 5 #[v] W fun e w' => e = .returned (.bool true) ∧ Below W.heap.size W w' := by
  obtain ⟨p, cap, rfl, hs⟩ := hs
  have HS := Lib.hid hs
  clear hs
  go_enter Try.func5, Try.ntmps5
  go_wp2_with fail
  go_loopw [3, 4] (fun u3 u4 wr => ∃ (i : Nat) (s : Int), i ≤ n ∧ i ≤ 400 ∧ u4 = .int .i64 (i : Nat) ∧ u3 = .int .i64 s ∧ wr = W) (fun u3 u4 _ => ((n : Int) - intOf u4).toNat)
  case atStart => exact ⟨0, 0, Nat.zero_le _, Nat.zero_le _, rfl, rfl, rfl⟩
  case round =>
    obtain ⟨i, s, hi0, hi4, rfl, rfl, hwr⟩ := hrel
    have hwr := hwr.symm
    subst hwr
    have HI := Lib.hid (And.intro hi0 hi4)
    by_cases hn : i < n
    · obtain ⟨g, off, hp, hgl, hx⟩ := HS.out (by omega)
      subst hp
      have hac := hx i hn
      by_cases h4 : i < 400
      · have c3 := hac.1.2.2.2.1
        have HN := Lib.hid (And.intro hn h4)
        generalize (sx i).s = tx at *
        have hn' : (i : Int) < (n : Int) := by omega
        have h4' : (i : Int) < 400 := by omega
        have HE : Hid (wrap64 ((i : Int) + 1) = ((i + 1 : Nat) : Int)) := Lib.hid (by unfold wrap64; omega)
        clear hac hx hi0 hi4 hn h4 hgl
        go_wp2_with fail
        go_roundw
        case rel => exact ⟨i + 1, _, by have := HN.out; omega, by have := HN.out; omega, by first | rfl | rw [HE.out] | simp, rfl, by trivial⟩
        case measure => (try rw [HE.out]); simp [intOf]; have := HN.out; omega
      · have hn' : (i : Int) < (n : Int) := by omega
        have h4' : ¬ (i : Int) < 400 := by omega
        have h2' : (200 : Int) < (n : Int) := by omega
        clear hac hx hi0 hi4 hn h4 hgl
        go_wp2_with (go_at_call 9; ((with_reducible refine Calls.mono (works_t _) ?_); rintro e w9 ⟨rfl, hb9⟩))
        go_ret
        exact ⟨rfl, hb9⟩
    · have hn' : ¬ (i : Int) < (n : Int) := by omega
      by_cases h2 : 200 < n
      · have h2' : (200 : Int) < (n : Int) := by omega
        clear hi0 hi4 hn h2
        go_wp2_with (go_at_call 9; ((with_reducible refine Calls.mono (works_t _) ?_); rintro e w9 ⟨rfl, hb9⟩))
        go_ret
        exact ⟨rfl, hb9⟩
      · have h2' : ¬ (200 : Int) < (n : Int) := by omega
        have H200 : Hid (n ≤ 200) := Lib.hid (by omega)
        clear hi0 hi4 hn h2
        by_cases h5 : (4096 : Int) < s
        · go_wp2_with (go_at_call 9; ((with_reducible refine Calls.mono (works_t _) ?_); rintro e w9 ⟨rfl, hb9⟩))
          go_ret
          exact ⟨rfl, hb9⟩
        · skip
          have HND := Lib.hid (newd_any W (B0 := W.heap.size) (Nat.le_refl _))
          go_upto_region 9 with (go_at_call 15; go_loud ((with_reducible refine HND.out.mono ?_); rintro e w1 ⟨cx, hx, rfl, hd, hb, _, _⟩; have HOB := Lib.hid (ob_new hd hb); clear hd hb))
          generalize w1.alloc (.cells #[.pointer none, .pointer (some ⟨cx, 0, none⟩), .int .u64 0, .int .i64 0, .slice none 0 0, .slice none 0 0, .map none, .map none, .bool true] 61) = w2 at *
          generalize w1.heap.size = g at *
          have HCL := Lib.hid (caller_any HOB.out (by dsimp only; omega))
          clear HND HOB
          go_upto_region 10 with (go_at_call 22; go_loud ((with_reducible refine HCL.out.mono ?_); rintro e w3 ⟨rfl, h3⟩; have HOP := Lib.hid h3; clear h3))
          clear HCL
          have HST : Hid (ActI W g n (.int .i64 0) w3) := Lib.hid ⟨0, Nat.zero_le _, rfl, _, _, HOP.out, ⟨OInv.start HOP.out.inv, rfl, rfl⟩, Nat.le_refl _, by decide, by decide, by decide⟩
          clear HOP
          go_wp2_with fail
          go_loopw [6] (fun u6 wa => ActI W g n u6 wa) (fun u6 _ => ((n : Int) - intOf u6).toNat)
          case atStart => exact HST.out
          case round =>
            obtain ⟨w4, hw4⟩ : ∃ w4, w4 = wr := ⟨_, rfl⟩
            subst hw4
            obtain ⟨i, hi0, rfl, d, N, hop, hat, hpt, hnow, hinc, hlast⟩ := hrel
            have HOP := Lib.hid hop
            have c8 := hop.cells.1
            by_cases hin : i < n
            · obtain ⟨g', off, hp, hgl, hx⟩ := HS.out (by omega)
              subst hp
              obtain ⟨hac, hok⟩ := hx i hin
              have hac := hac.below hop.bel.1 hgl
              have HACT := Lib.hid (wact_any hop hat hok (by have := H200.out; omega) (by have := H200.out; omega) (by have := H200.out; omega))
              have HB := Lib.hid (And.intro hpt (And.intro hnow (And.intro hinc (And.intro hlast hin))))
              generalize sx i = a at *
              obtain ⟨what, an, ay, sb, ak⟩ := a
              unfold acells at HACT
              dsimp only at HACT
              obtain ⟨y0, y1, y2, y3, y4⟩ := hac
              dsimp only at y0 y1 y2 y3 y4
              have hn' : (i : Int) < (n : Int) := by omega
              have HE : Hid (wrap64 ((i : Int) + 1) = ((i + 1 : Nat) : Int)) := Lib.hid (by have := H200.out; unfold wrap64; omega)
              clear hop hat hpt hnow hinc hlast hx hok hgl hin hi0
              go_wp2_with (go_at_call 23; go_loud ((with_reducible refine HACT.out.mono ?_); rintro e w5 ⟨rfl, d', N', hx5, hs5⟩; have HX5 := Lib.hid (And.intro hx5 hs5); clear hx5 hs5))
              go_roundw
              case rel =>
                obtain ⟨hx5, hs5⟩ := HX5.out
                have hb := HB.out
                have h1 := hs5.pt
                have h2 := hs5.now
                have h3 := hs5.inc
                have h4 := hs5.last
                exact ⟨i + 1, by omega, by first | rw [HE.out] | simp, d', N', hx5, hs5.at0, by omega, by omega, by omega, by omega⟩
              case measure => (try rw [HE.out]); simp [intOf]; have := HB.out; omega
            · have hn' : ¬ (i : Int) < (n : Int) := by omega
              have HST : Hid (RndI W g 0 w4) := Lib.hid ⟨d, N, hop, hat, hat.inv.tm0, by have := H200.out; omega, by have := H200.out; omega⟩
              clear hop hat hpt hnow hinc hlast hin hi0
              go_wp2_with fail
              go_loopw [7] (fun u7 wb => ∃ r : Nat, r ≤ 240 ∧ u7 = .int .i64 (r : Nat) ∧ RndI W g r wb) (fun u7 _ => (400 - intOf u7).toNat)
              case atStart => exact ⟨0, Nat.zero_le _, rfl, HST.out⟩
              case round =>
                obtain ⟨w5, hw5⟩ : ∃ w5, w5 = wr := ⟨_, rfl⟩
                subst hw5
                obtain ⟨r, hr0, rfl, d, N, hop, hat, htm, hnow, hpt⟩ := hrel
                have HF := Lib.hid (And.intro hat (And.intro htm (And.intro hnow hpt)))
                have HR0 := Lib.hid hr0
                have HOP := Lib.hid hop
                obtain ⟨b, h, cx, hx', bd, bo, B, Bp, Mp, vd, vo, vw, vj, ha, hd', x⟩ := hop
                have c8 : w5.cell? ⟨g, 8, none⟩ = some (.bool true) := x.blk.cell 8
                have c0 : w5.cell? ⟨g, 0, none⟩ = some (.pointer (some ⟨b, 0, none⟩)) := x.blk.cell 0
                have HCA := Lib.hid (w_calls x)
                have hr' : (r : Int) < 400 := by omega
                obtain ⟨kl, hkl⟩ : ∃ kl, kl = d.c.L.length := ⟨_, rfl⟩
                rw [← hkl] at HCA
                by_cases hz : kl = 0
                · subst hz
                  clear x hr0 hat htm hnow hpt hkl
                  go_wp2_with (first | (go_at_call 24; go_loud ((with_reducible refine HCA.out.mono ?_); rintro e w6 ⟨⟨pc, cc, rfl⟩, hx6⟩; have HX6 := Lib.hid (show OP _ _ _ _ _ _ from ⟨_, _, _, _, _, _, _, _, _, _, _, _, _, _, _, hx6⟩); clear hx6)) | (go_at_call 9; ((with_reducible refine Calls.mono (works_t _) ?_); rintro e w9 ⟨rfl, hb9⟩)))
                  go_ret
                  exact ⟨rfl, HX6.out.works hb9⟩
                · have hz' : ((kl : Int) == 0) = false := by simpa using hz
                  have HRL : Hid (r < 240) := Lib.hid (by
                    refine Nat.lt_of_not_le (fun hc => ?_)
                    have := hat.inv.tm2 htm (by omega)
                    rw [this] at hkl
                    exact hz hkl)
                  clear x hr0 hat htm hnow hpt hkl hz
                  go_upto_region 19 with (go_at_call 24; go_loud ((with_reducible refine HCA.out.mono ?_); rintro e w6 ⟨⟨pc, cc, rfl⟩, hx6⟩; have HX6 := Lib.hid (show OP _ _ _ _ _ _ from ⟨_, _, _, _, _, _, _, _, _, _, _, _, _, _, _, hx6⟩); clear hx6))
                  have HST : Hid (RndI W g r w6) := Lib.hid ⟨d, N, HX6.out, HF.out⟩
                  clear c8 c0 HCA HF HOP HX6 hz'
                  go_wp2_with fail
                  go_loopw [8] (fun u8 wz => ∃ k : Nat, k ≤ 2000 ∧ u8 = .int .i64 (k : Nat) ∧ RndI W g r wz) (fun u8 _ => (2000 - intOf u8).toNat)
                  case atStart => exact ⟨0, Nat.zero_le _, rfl, HST.out⟩
                  case round =>
                    obtain ⟨w8, hw8⟩ : ∃ w8, w8 = wr := ⟨_, rfl⟩
                    subst hw8
                    obtain ⟨k, hk0, rfl, d, N, hop, hat, htm, hnow, hpt⟩ := hrel
                    have HF := Lib.hid (And.intro hat (And.intro htm (And.intro hnow hpt)))
                    have HOP := Lib.hid hop
                    obtain ⟨b, h, cx, hx', bd, bo, B, Bp, Mp, vd, vo, vw, vj, ha, hd', x⟩ := hop
                    have HX := Lib.hid x
                    have c8 : w8.cell? ⟨g, 8, none⟩ = some (.bool true) := x.blk.cell 8
                    obtain ⟨pw, cw, hvw⟩ := x.wr.slice
                    obtain ⟨pj, cj, hvj⟩ := owns_slice x.jr
                    subst hvw hvj
                    obtain ⟨kw, hkw⟩ : ∃ kw, kw = d.ways.length := ⟨_, rfl⟩
                    obtain ⟨kj, hkj⟩ : ∃ kj, kj = d.jobs.length := ⟨_, rfl⟩
                    have HKW := Lib.hid (And.intro hkw hkj)
                    have c4 : w8.cell? ⟨g, 4, none⟩ = some (.slice pw kw cw) := by rw [hkw]; exact x.blk.cell 4
                    have c5 : w8.cell? ⟨g, 5, none⟩ = some (.slice pj kj cj) := by rw [hkj]; exact x.blk.cell 5
                    rw [← hkw, ← hkj] at HX
                    clear x hkw hkj hat htm hnow hpt
                    have HK0 := Lib.hid hk0
                    by_cases hk : k < 2000
                    · have hk' : (k : Int) < 2000 := by omega
                      have HKK := Lib.hid hk
                      have HE : Hid (wrap64 ((k : Int) + 1) = ((k + 1 : Nat) : Int)) := Lib.hid (by unfold wrap64; omega)
                      clear hk hk0
                      by_cases hw : 0 < kw
                      · have hw' : (0 : Int) < (kw : Int) := by omega
                        have HKP := Lib.hid hw
                        clear hw
                        as_aux_lemma =>
                          obtain ⟨⟨bk, t⟩, ys, hys⟩ : ∃ y ys, d.ways = y :: ys := by
                            cases hl : d.ways with
                            | nil => have h1 := HKW.out.1; have h2 := HKP.out; rw [hl] at h1; simp at h1; omega
                            | cons y ys => exact ⟨y, ys, rfl⟩
                          have HYS := Lib.hid hys
                          have hrv : RowV w8 W.heap.size 66 2 (.slice pw kw cw) kw (d.ways.flatMap wrow) := by have := HX.out.wr; rw [← HKW.out.1] at this; exact this
                          obtain ⟨gw, ofw, cw', hpw, hcw, hgl, hfz, hcell⟩ := hrv.at HKP.out
                          injection hpw with hpw _ hcc
                          subst hpw hcc
                          have v0 : w8.cell? ⟨gw, ofw, none⟩ = some (.bool bk) := hcell 0 _ (by rw [hys]; rfl)
                          have v1 : w8.cell? ⟨gw, ofw + 1, none⟩ = some (.string t) := hcell 1 _ (by rw [hys]; rfl)
                          have HCW := Lib.hid hcw
                          have HRV := Lib.hid hrv
                          clear hys hrv hcell hfz hcw
                          go_upto_region 24 with (refine wpl_store_blk (c' := #[.bool bk, .string t]) (Blk.new _ _ _) rfl _ _ _ rfl rfl rfl (by kernel_rfl) rfl (by simp [Value.oneCell']) ?_; go_loud (intro w9 hb3 ho3; have HY9 := Lib.hid hb3; have HW9 := Lib.hid (al_step ho3); have HX9 := Lib.hid (HX.out.below (al_step ho3)); have HRV9 := Lib.hid (HRV.out.below (al_step ho3)); clear hb3 ho3))
                          clear v0 v1 c4 c5 c8 HX HOP HRV
                          obtain ⟨k2, hk2⟩ : ∃ k2, kw = k2 + 1 := ⟨kw - 1, by have := HKP.out; omega⟩
                          subst hk2
                          have HK2 : Hid (k2 = ys.length) := Lib.hid (by have h1 := HKW.out.1; rw [HYS.out, List.length_cons] at h1; omega)
                          have f4 := HX9.out.blk.frozen 4
                          have HAC := Lib.hid (cut0 HF.out.1 HYS.out)
                          clear hw'
                          by_cases hz : cw = 1
                          · have hk0 : k2 = 0 := by have := HCW.out; omega
                            subst hz hk0
                            have c4 : w9.cell? ⟨g, 4, none⟩ = some (.slice (some ⟨gw, ofw, none⟩) 1 1) := HX9.out.blk.cell 4
                            have HX10 := Lib.hid (HX9.out.cut1 HYS.out HK2.out (v := .slice (some ⟨gw, ofw, none⟩) 0 0) rfl)
                            go_upto_region 25 with fail
                            have HQ : Hid (Blk (w9.setCell ⟨g, 4, none⟩ (.slice (some ⟨gw, ofw, none⟩) 0 0)) w8.heap.size 66 #[.bool bk, .string t]) := Lib.hid (HY9.out.only ((Only.refl (· = g) w9).set1) (fun e => by have e' : w8.heap.size = g := e; have h1 := HY9.out; rw [e'] at h1; exact absurd (blk_ne h1 HX9.out.blk) (by decide)))
                            clear c4 f4
                            generalize w9.setCell ⟨g, 4, none⟩ (.slice (some ⟨gw, ofw, none⟩) 0 0) = w10 at *
                            generalize w8.heap.size = xq at *
                            have y0 : w10.cell? ⟨xq, 0, none⟩ = some (.bool bk) := HQ.out.cell 0
                            have y1 : w10.cell? ⟨xq, 1, none⟩ = some (.string t) := HQ.out.cell 1
                            have HOP10 : Hid (OP W w10 g { d with ways := ys } true N) := Lib.hid ⟨_, _, _, _, _, _, _, _, _, _, _, _, _, _, _, HX10.out⟩
                            have HCM := Lib.hid (wcomes_any HOP10.out HAC.out.1.inv HAC.out.2.2 (by have h1 := pot_ways { d with ways := ys }; have h2 := pot_jobs { d with ways := ys }; have h3 := HAC.out.2.1; have h4 := HF.out.2.2.2; have h5 := HRL.out; omega) (by rw [HAC.out.1.ov]; exact Nat.zero_le _) (by have h4 := HF.out.2.2.2; have h5 := HRL.out; omega))
                            go_upto_region 27 with (go_at_call 25; go_loud ((with_reducible refine HCM.out.mono ?_); rintro e w11 ⟨rfl, d1, N1, hx11, hmid, hpt, hnn⟩; have HX11 := Lib.hid hx11; have HM := Lib.hid hmid; have HPN := Lib.hid (And.intro hpt hnn); clear hx11 hmid hpt hnn))
                            have HDU : Hid (({ d with ways := ys } : Wd).c.du = []) := Lib.hid HAC.out.1.du
                            have HOV : Hid (({ d with ways := ys } : Wd).c.ov = []) := Lib.hid HAC.out.1.ov
                            have HT : Hid (TmB { d with ways := ys } (240 - (r : Int)) ∧ ({ d with ways := ys } : Wd).now ≤ 12800 + 4 * (r : Int)) := Lib.hid ⟨HF.out.2.1, HF.out.2.2.1⟩
                            have HPT : Hid (N1 + 3 * pot d1 ≤ 120600 + 600 * r ∧ r < 240) := Lib.hid ⟨by have h1 := HPN.out.1; have h2 := HPN.out.2; have h3 := HAC.out.2.1; have h4 := HF.out.2.2.2; split at h1 <;> simp_all <;> omega, HRL.out⟩
                            clear y0 y1
                            have HSN := Lib.hid (wsends_any HX11.out HM.out.inv (by have h1 := pot_ways d1; have h2 := HM.out.du; rw [HDU.out] at h2; rw [h2]; have h3 := HPT.out; simp only [List.length_nil]; omega) (by have h2 := HM.out.du; rw [HDU.out] at h2; rw [h2]; exact Nat.zero_le _) (by have h2 := HM.out.ov; rw [HOV.out] at h2; simp at h2; omega))
                            go_wp2_with (go_at_call 27; go_loud ((with_reducible refine HSN.out.mono ?_); rintro e w12 ⟨⟨z, rfl⟩, hx12⟩; have HX12 := Lib.hid hx12; clear hx12))
                            go_roundw
                            case rel => exact ⟨k + 1, by have := HKK.out; omega, by first | rw [HE.out] | simp, RndI.of HX12.out HM.out HDU.out HT.out.1 HT.out.2 HPT.out.1⟩
                            case measure => (try rw [HE.out]); simp [intOf]; have := HKK.out; omega
                          · have c4 : w9.cell? ⟨g, 4, none⟩ = some (.slice (some ⟨gw, ofw, none⟩) (k2 + 1) cw) := HX9.out.blk.cell 4
                            have hcap : (1 : Int) ≤ (cw : Int) := by have := HCW.out; omega
                            have hk1 : (1 : Int) ≤ (k2 : Int) + 1 := by omega
                            have HX10 := Lib.hid (HX9.out.cut1 HYS.out HK2.out (v := .slice (some ⟨gw, ofw + 2, none⟩) k2 (cw - 1)) (if_neg hz).symm)
                            go_upto_region 25 with fail
                            have HQ : Hid (Blk (w9.setCell ⟨g, 4, none⟩ (.slice (some ⟨gw, ofw + 2, none⟩) k2 (cw - 1))) w8.heap.size 66 #[.bool bk, .string t]) := Lib.hid (HY9.out.only ((Only.refl (· = g) w9).set1) (fun e => by have e' : w8.heap.size = g := e; have h1 := HY9.out; rw [e'] at h1; exact absurd (blk_ne h1 HX9.out.blk) (by decide)))
                            clear c4 f4
                            generalize w9.setCell ⟨g, 4, none⟩ (.slice (some ⟨gw, ofw + 2, none⟩) k2 (cw - 1)) = w10 at *
                            generalize w8.heap.size = xq at *
                            have y0 : w10.cell? ⟨xq, 0, none⟩ = some (.bool bk) := HQ.out.cell 0
                            have y1 : w10.cell? ⟨xq, 1, none⟩ = some (.string t) := HQ.out.cell 1
                            have HOP10 : Hid (OP W w10 g { d with ways := ys } true N) := Lib.hid ⟨_, _, _, _, _, _, _, _, _, _, _, _, _, _, _, HX10.out⟩
                            have HCM := Lib.hid (wcomes_any HOP10.out HAC.out.1.inv HAC.out.2.2 (by have h1 := pot_ways { d with ways := ys }; have h2 := pot_jobs { d with ways := ys }; have h3 := HAC.out.2.1; have h4 := HF.out.2.2.2; have h5 := HRL.out; omega) (by rw [HAC.out.1.ov]; exact Nat.zero_le _) (by have h4 := HF.out.2.2.2; have h5 := HRL.out; omega))
                            go_upto_region 27 with (go_at_call 25; go_loud ((with_reducible refine HCM.out.mono ?_); rintro e w11 ⟨rfl, d1, N1, hx11, hmid, hpt, hnn⟩; have HX11 := Lib.hid hx11; have HM := Lib.hid hmid; have HPN := Lib.hid (And.intro hpt hnn); clear hx11 hmid hpt hnn))
                            have HDU : Hid (({ d with ways := ys } : Wd).c.du = []) := Lib.hid HAC.out.1.du
                            have HOV : Hid (({ d with ways := ys } : Wd).c.ov = []) := Lib.hid HAC.out.1.ov
                            have HT : Hid (TmB { d with ways := ys } (240 - (r : Int)) ∧ ({ d with ways := ys } : Wd).now ≤ 12800 + 4 * (r : Int)) := Lib.hid ⟨HF.out.2.1, HF.out.2.2.1⟩
                            have HPT : Hid (N1 + 3 * pot d1 ≤ 120600 + 600 * r ∧ r < 240) := Lib.hid ⟨by have h1 := HPN.out.1; have h2 := HPN.out.2; have h3 := HAC.out.2.1; have h4 := HF.out.2.2.2; split at h1 <;> simp_all <;> omega, HRL.out⟩
                            clear y0 y1
                            have HSN := Lib.hid (wsends_any HX11.out HM.out.inv (by have h1 := pot_ways d1; have h2 := HM.out.du; rw [HDU.out] at h2; rw [h2]; have h3 := HPT.out; simp only [List.length_nil]; omega) (by have h2 := HM.out.du; rw [HDU.out] at h2; rw [h2]; exact Nat.zero_le _) (by have h2 := HM.out.ov; rw [HOV.out] at h2; simp at h2; omega))
                            go_wp2_with (go_at_call 27; go_loud ((with_reducible refine HSN.out.mono ?_); rintro e w12 ⟨⟨z, rfl⟩, hx12⟩; have HX12 := Lib.hid hx12; clear hx12))
                            go_roundw
                            case rel => exact ⟨k + 1, by have := HKK.out; omega, by first | rw [HE.out] | simp, RndI.of HX12.out HM.out HDU.out HT.out.1 HT.out.2 HPT.out.1⟩
                            case measure => (try rw [HE.out]); simp [intOf]; have := HKK.out; omega
                      · have hw' : ¬ (0 : Int) < (kw : Int) := by omega
                        clear hw
                        by_cases hj : 0 < kj
                        · have hj' : (0 : Int) < (kj : Int) := by omega
                          have HKP := Lib.hid hj
                          clear hj
                          as_aux_lemma =>
                            have hil : 0 < d.jobs.length := by have h1 := HKW.out.2; have h2 := HKP.out; omega
                            have HDO : Hid (Calls Try.prog 26 #[.pointer (some ⟨g, 0, none⟩), .int .i64 0] w8 (DosP W g (doesW d 0 d.jobs[0] (ansD d.d 1 d.jobs[0].1 d.jobs[0].2.1 (did d.jobs[0].2.2))) (N + 2))) := Lib.hid (wdoes_any (i := 0) HOP.out HF.out.1.inv (List.getElem?_eq_getElem hil) (by have h1 := pot_ways d; have h2 := pot_jobs d; have h4 := HF.out.2.2.2; have h5 := HRL.out; omega) (by have h4 := HF.out.2.2.2; have h5 := HRL.out; omega) rfl)
                            have HM0 := Lib.hid (mid_does HF.out.1.inv 0 hil)
                            generalize doesW d 0 d.jobs[0] (ansD d.d 1 d.jobs[0].1 d.jobs[0].2.1 (did d.jobs[0].2.2)) = d1 at *
                            clear hil
                            have HM := Lib.hid HM0.out.1
                            go_upto_region 27 with (go_at_call 26; go_loud ((with_reducible refine HDO.out.mono ?_); rintro e w11 ⟨rfl, hx11⟩; have HX11 := Lib.hid hx11; clear hx11))
                            have HDU : Hid (d.c.du = []) := Lib.hid HF.out.1.du
                            have HOV : Hid (d.c.ov = []) := Lib.hid HF.out.1.ov
                            have HT : Hid (TmB d (240 - (r : Int)) ∧ d.now ≤ 12800 + 4 * (r : Int)) := Lib.hid ⟨HF.out.2.1, HF.out.2.2.1⟩
                            have HPT : Hid (N + 2 + 3 * pot d1 ≤ 120600 + 600 * r ∧ r < 240) := Lib.hid ⟨by have h1 := HM0.out.2; have h4 := HF.out.2.2.2; omega, HRL.out⟩
                            clear c4 c5 c8
                            have HSN := Lib.hid (wsends_any HX11.out HM.out.inv (by have h1 := pot_ways d1; have h2 := HM.out.du; rw [HDU.out] at h2; rw [h2]; have h3 := HPT.out; simp only [List.length_nil]; omega) (by have h2 := HM.out.du; rw [HDU.out] at h2; rw [h2]; exact Nat.zero_le _) (by have h2 := HM.out.ov; rw [HOV.out] at h2; simp at h2; omega))
                            go_wp2_with (go_at_call 27; go_loud ((with_reducible refine HSN.out.mono ?_); rintro e w12 ⟨⟨z, rfl⟩, hx12⟩; have HX12 := Lib.hid hx12; clear hx12))
                            go_roundw
                            case rel => exact ⟨k + 1, by have := HKK.out; omega, by first | rw [HE.out] | simp, RndI.of HX12.out HM.out HDU.out HT.out.1 HT.out.2 HPT.out.1⟩
                            case measure => (try rw [HE.out]); simp [intOf]; have := HKK.out; omega
                        · have hj' : ¬ (0 : Int) < (kj : Int) := by omega
                          clear hj
                          as_aux_lemma =>
                            have c3 : w8.cell? ⟨g, 3, none⟩ = some (.int .i64 d.now) := HX.out.blk.cell 3
                            have f3 := HX.out.blk.frozen 3
                            have hn0 : 0 ≤ d.now := HF.out.1.inv.now.1
                            have hnb : d.now ≤ 100000 := by have := HF.out.2.2.1; have := HRL.out; omega
                            obtain ⟨tn, htn⟩ : ∃ tn, tn = d.now + 4 := ⟨_, rfl⟩
                            have HTN := Lib.hid htn
                            have HER : Hid (wrap64 ((r : Int) + 1) = ((r + 1 : Nat) : Int)) := Lib.hid (by have := HRL.out; unfold wrap64; omega)
                            go_upto_region 29 with fail
                            have HX9 := Lib.hid (HX.out.set (f := 3) (v := .int .i64 tn) (fn' := true) (vw' := .slice pw kw cw) (vj' := .slice pj kj cj) (d' := { d with now := tn }) rfl ⟨rfl, rfl, rfl, rfl⟩ HX.out.wr HX.out.jr)
                            rw [← htn]
                            clear htn c3 f3 hn0 hnb c4 c5 c8 HX HOP
                            generalize w8.setCell ⟨g, 3, none⟩ (.int .i64 tn) = w9 at *
                            have c0 : w9.cell? ⟨g, 0, none⟩ = some (.pointer (some ⟨b, 0, none⟩)) := HX9.out.blk.cell 0
                            have c3 : w9.cell? ⟨g, 3, none⟩ = some (.int .i64 tn) := HX9.out.blk.cell 3
                            have HTI := Lib.hid (w_tick (HX9.out.below (Below.refl _ w9).drew) (now := tn) ⟨by have := HF.out.1.du; dsimp only; rw [this]; exact Nat.zero_le _, by have := HF.out.1.ov; dsimp only; rw [this]; exact Nat.zero_le _⟩ rfl)
                            go_still_tail 8, (by kernel_rfl)
                            go_upto_region 30 with (go_at_call 28; ((with_reducible refine HTI.out.mono ?_); rintro e w11 ⟨rfl, B', vd', vo', hx11⟩; have HX11 := Lib.hid hx11; clear hx11))
                            all_goals
                              have HS : Hid (SInv (tickS d.c tn).2) := Lib.hid HX11.out.duo.cw.inv
                              have HOP11 : Hid (OP W w11 g (tickW d tn) true N) := Lib.hid ⟨_, _, _, _, _, _, _, _, _, _, _, _, _, _, _, HX11.out⟩
                              have HAD := Lib.hid (Adv.tick (N := N) HF.out.1 (now := tn) (by have h1 := HTN.out; have h2 := HF.out.2.2.1; have h3 := HRL.out; omega) HS.out)
                              have HSN := Lib.hid (wsends_any HOP11.out HAD.out.inv (by have h1 := pot_ways (tickW d tn); have h2 := HAD.out.pt; have h3 := HAD.out.du; have h4 := HF.out.2.2.2; have h5 := HRL.out; omega) (by have h3 := HAD.out.du; omega) (by have h3 := HAD.out.ov; omega))
                              clear c0 c3 HX11 HTI HX9
                              go_wp2_with (go_at_call 27; go_loud ((with_reducible refine HSN.out.mono ?_); rintro e w12 ⟨⟨z, rfl⟩, hx12⟩; have HX12 := Lib.hid hx12; clear hx12))
                              go_roundw
                              case rel => exact ⟨r + 1, by have := HRL.out; omega, by first | rw [HER.out] | simp, RndI.next (by have h1 := HX12.out; rw [HTN.out] at h1; exact h1) HF.out.1 (by have h1 := HS.out; rw [HTN.out] at h1; exact h1) HF.out.2.1 HF.out.2.2.1 (by have := HRL.out; omega) HF.out.2.2.2⟩
                              case measure => (try rw [HER.out]); simp [intOf]; have := HRL.out; omega
                    · have hk' : ¬ (k : Int) < 2000 := by omega
                      clear hk hk0
                      as_aux_lemma =>
                        have c3 : w8.cell? ⟨g, 3, none⟩ = some (.int .i64 d.now) := HX.out.blk.cell 3
                        have f3 := HX.out.blk.frozen 3
                        have hn0 : 0 ≤ d.now := HF.out.1.inv.now.1
                        have hnb : d.now ≤ 100000 := by have := HF.out.2.2.1; have := HRL.out; omega
                        obtain ⟨tn, htn⟩ : ∃ tn, tn = d.now + 4 := ⟨_, rfl⟩
                        have HTN := Lib.hid htn
                        have HER : Hid (wrap64 ((r : Int) + 1) = ((r + 1 : Nat) : Int)) := Lib.hid (by have := HRL.out; unfold wrap64; omega)
                        go_upto_region 29 with fail
                        have HX9 := Lib.hid (HX.out.set (f := 3) (v := .int .i64 tn) (fn' := true) (vw' := .slice pw kw cw) (vj' := .slice pj kj cj) (d' := { d with now := tn }) rfl ⟨rfl, rfl, rfl, rfl⟩ HX.out.wr HX.out.jr)
                        rw [← htn]
                        clear htn c3 f3 hn0 hnb c4 c5 c8 HX HOP
                        generalize w8.setCell ⟨g, 3, none⟩ (.int .i64 tn) = w9 at *
                        have c0 : w9.cell? ⟨g, 0, none⟩ = some (.pointer (some ⟨b, 0, none⟩)) := HX9.out.blk.cell 0
                        have c3 : w9.cell? ⟨g, 3, none⟩ = some (.int .i64 tn) := HX9.out.blk.cell 3
                        have HTI := Lib.hid (w_tick (HX9.out.below (Below.refl _ w9).drew) (now := tn) ⟨by have := HF.out.1.du; dsimp only; rw [this]; exact Nat.zero_le _, by have := HF.out.1.ov; dsimp only; rw [this]; exact Nat.zero_le _⟩ rfl)
                        go_still_tail 8, (by kernel_rfl)
                        go_upto_region 30 with (go_at_call 28; ((with_reducible refine HTI.out.mono ?_); rintro e w11 ⟨rfl, B', vd', vo', hx11⟩; have HX11 := Lib.hid hx11; clear hx11))
                        all_goals
                          have HS : Hid (SInv (tickS d.c tn).2) := Lib.hid HX11.out.duo.cw.inv
                          have HOP11 : Hid (OP W w11 g (tickW d tn) true N) := Lib.hid ⟨_, _, _, _, _, _, _, _, _, _, _, _, _, _, _, HX11.out⟩
                          have HAD := Lib.hid (Adv.tick (N := N) HF.out.1 (now := tn) (by have h1 := HTN.out; have h2 := HF.out.2.2.1; have h3 := HRL.out; omega) HS.out)
                          have HSN := Lib.hid (wsends_any HOP11.out HAD.out.inv (by have h1 := pot_ways (tickW d tn); have h2 := HAD.out.pt; have h3 := HAD.out.du; have h4 := HF.out.2.2.2; have h5 := HRL.out; omega) (by have h3 := HAD.out.du; omega) (by have h3 := HAD.out.ov; omega))
                          clear c0 c3 HX11 HTI HX9
                          go_wp2_with (go_at_call 27; go_loud ((with_reducible refine HSN.out.mono ?_); rintro e w12 ⟨⟨z, rfl⟩, hx12⟩; have HX12 := Lib.hid hx12; clear hx12))
                          go_roundw
                          case rel => exact ⟨r + 1, by have := HRL.out; omega, by first | rw [HER.out] | simp, RndI.next (by have h1 := HX12.out; rw [HTN.out] at h1; exact h1) HF.out.1 (by have h1 := HS.out; rw [HTN.out] at h1; exact h1) HF.out.2.1 HF.out.2.2.1 (by have := HRL.out; omega) HF.out.2.2.2⟩
                          case measure => (try rw [HER.out]); simp [intOf]; have := HRL.out; omega
end Go.Proofs.Ytgdgonmhgpflcaa
