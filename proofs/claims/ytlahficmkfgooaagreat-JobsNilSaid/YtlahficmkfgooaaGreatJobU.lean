import Derived.Test.YtlahficmkfgooaaGreatMgk

/- The walk of the document's answer on whether two lists of rows are the same. No condition but that lists are not too long. -/
namespace Go.Proofs.YtlahficmkfgooaaGreat
open Go.RowKit Jb
set_option linter.unusedVariables false
set_option linter.unusedSimpArgs false
theorem RowsAt.ptr {w : World} {p : Option Addr} {c n : Nat} {l : List JR} (h : RowsAt w (.slice p n c) l) {i : Nat} (hi : i < l.length) :
    ∃ g off, p = some ⟨g, off, none⟩ ∧ g < w.heap.size ∧ RowAt w g (off + i * 8) l[i] := by
  obtain ⟨p', c', h1, h2⟩ := h
  injection h1 with h1 _ _
  subst h1
  obtain ⟨g, off, h3, h4, h5⟩ := h2 (by omega)
  exact ⟨g, off, h3, h4, h5 i hi⟩
def SameP (l m : List JR) (w : World) (e : Ending) (w' : World) : Prop := (∃ r : Bool, e = .returned (.bool r) ∧ (r = true ↔ l = m)) ∧ Below w.heap.size w w'
def SCutJ (w : World) (A B : Array Value) (p q : Value) (wc : World) : Prop := ∃ b c, p = .pointer (some ⟨b, 0, none⟩) ∧ q = .pointer (some ⟨c, 0, none⟩) ∧ Blk wc b 48 A ∧ Blk wc c 48 B ∧ Below w.heap.size w wc
set_option maxRecDepth 100000 in
set_option maxHeartbeats 8000000 in
theorem rsame_j {l m : List JR} {w : World} {v u : Value} (hv : RowsAt w v l) (hu : RowsAt w u m) (hl : l.length ≤ 1000000) (hin : ∀ r ∈ l, r.inp.length ≤ 1000000) :
    Calls Tryz.prog 13 #[v, u] w (SameP l m w) := by
  obtain ⟨p1, c1, rfl⟩ := hv.slice
  obtain ⟨p2, c2, rfl⟩ := hu.slice
  have HS1 := Lib.hid hv
  have HS2 := Lib.hid hu
  have HIN := Lib.hid hin
  clear hv hu hin
  by_cases hlen : l.length = m.length
  · have hlen' : ((l.length : Int) == (m.length : Int)) = true := by simp [hlen]
    have HLEN := Lib.hid hlen
    clear hlen
    go_enter Tryz.func13, Tryz.ntmps13
    go_wp2
    clear hlen'
    generalize ((l.length : Int) != (m.length : Int)) = bz
    go_loopw [5] (fun u wr => EqRl l m w u wr) (fun u _ => ((l.length : Int) - intOf u).toNat)
    case atStart => exact ⟨0, by omega, rfl, rfl, Below.refl _ _⟩
    case round =>
      obtain ⟨k, hk1, rfl, htk, hb⟩ := hrel
      by_cases hk : k < l.length
      · have hk2 : k < m.length := by have := HLEN.out; omega
        obtain ⟨g1, o1, rfl, hg1, hx⟩ := HS1.out.ptr hk
        obtain ⟨g2, o2, rfl, hg2, hy⟩ := HS2.out.ptr hk2
        have hx := hx.below hb hg1
        have hy := hy.below hb hg2
        have hne := fun e => eq_ne_at (a := l) (b := m) hk hk2 e
        have heq := fun e => eq_take_succ (a := l) (b := m) hk hk2 htk e
        have hki : (k : Int) < (m.length : Int) := by omega
        have hki1 : (k : Int) < (l.length : Int) := by omega
        have hki0 : (0 : Int) ≤ (k : Int) := by omega
        have hgl : g1 < wr.heap.size ∧ g2 < wr.heap.size := by have := hb.size; omega
        have HE : Hid (wrap64 ((k : Int) + 1) = ((k + 1 : Nat) : Int)) := Lib.hid (by unfold wrap64; omega)
        have HB := Lib.hid hb
        have HLI := Lib.hid (HIN.out _ (List.getElem_mem hk))
        clear hb htk
        generalize l[k] = fa at *
        generalize m[k] = fb at *
        obtain ⟨xj, xt, xp, xi, xf, xs, xv, xe⟩ := fa
        obtain ⟨yj, yt, yp, yi, yf, ys, yv, ye⟩ := fb
        obtain ⟨va, hva, hx⟩ := hx
        obtain ⟨vb, hvb, hy⟩ := hy
        obtain ⟨pa, ca, rfl⟩ := hva.slice
        obtain ⟨pb, cb, rfl⟩ := hvb.slice
        dsimp only at hva hvb
        have x0 : wr.cell? ⟨g1, o1 + k * 8, none⟩ = some (.int .u64 xj) := hx 0 _ rfl
        have x1 : wr.cell? ⟨g1, o1 + k * 8 + 1, none⟩ = some (.string xt) := hx 1 _ rfl
        have x2 : wr.cell? ⟨g1, o1 + k * 8 + 2, none⟩ = some (.string xp) := hx 2 _ rfl
        have x3 : wr.cell? ⟨g1, o1 + k * 8 + 3, none⟩ = some (.slice pa xi.length ca) := hx 3 _ rfl
        have x4 : wr.cell? ⟨g1, o1 + k * 8 + 4, none⟩ = some (.int .i64 xf) := hx 4 _ rfl
        have x5 : wr.cell? ⟨g1, o1 + k * 8 + 5, none⟩ = some (.int .u8 xs) := hx 5 _ rfl
        have x6 : wr.cell? ⟨g1, o1 + k * 8 + 6, none⟩ = some (.int .i64 xv) := hx 6 _ rfl
        have x7 : wr.cell? ⟨g1, o1 + k * 8 + 7, none⟩ = some (.int .i64 xe) := hx 7 _ rfl
        have y0 : wr.cell? ⟨g2, o2 + k * 8, none⟩ = some (.int .u64 yj) := hy 0 _ rfl
        have y1 : wr.cell? ⟨g2, o2 + k * 8 + 1, none⟩ = some (.string yt) := hy 1 _ rfl
        have y2 : wr.cell? ⟨g2, o2 + k * 8 + 2, none⟩ = some (.string yp) := hy 2 _ rfl
        have y3 : wr.cell? ⟨g2, o2 + k * 8 + 3, none⟩ = some (.slice pb yi.length cb) := hy 3 _ rfl
        have y4 : wr.cell? ⟨g2, o2 + k * 8 + 4, none⟩ = some (.int .i64 yf) := hy 4 _ rfl
        have y5 : wr.cell? ⟨g2, o2 + k * 8 + 5, none⟩ = some (.int .u8 ys) := hy 5 _ rfl
        have y6 : wr.cell? ⟨g2, o2 + k * 8 + 6, none⟩ = some (.int .i64 yv) := hy 6 _ rfl
        have y7 : wr.cell? ⟨g2, o2 + k * 8 + 7, none⟩ = some (.int .i64 ye) := hy 7 _ rfl
        have HVA := Lib.hid hva
        have HVB := Lib.hid hvb
        have HNE := Lib.hid hne
        have HEQ := Lib.hid heq
        clear hx hy hva hvb hne heq
        go_upto_region 6 with fail
        go_cut [6, 7] (fun p q wc => SCutJ wr (jcells ⟨xj, xt, xp, xi, xf, xs, xv, xe⟩ (.slice pa xi.length ca)).toArray (jcells ⟨yj, yt, yp, yi, yf, ys, yv, ye⟩ (.slice pb yi.length cb)).toArray p q wc)
        case first => as_aux_lemma =>
          clear HNE HEQ HVA HVB HB HS1 HS2 HIN HLEN HE HLI
          go_region
          all_goals (go_wp2_with fail; go_meet)
          all_goals first
            | exact ⟨_, _, rfl, rfl, ((Blk.new _ _ _).alloc _).drew, (Blk.new2 _ _ _ _).drew, (((Below.refl _ wr).alloc (Nat.le_refl _) _).alloc (by simp) _).drew⟩
            | exact ⟨_, _, rfl, rfl, (Blk.new2 _ _ _ _).drew, ((Blk.new _ _ _).alloc _).drew, (((Below.refl _ wr).alloc (Nat.le_refl _) _).alloc (by simp) _).drew⟩
        case rest =>
          obtain ⟨ba, bb, rfl, rfl, hA, hC, hbc⟩ := hcut
          have HBC := Lib.hid (HB.out.trans (hbc.mono HB.out.size))
          have HVc := Lib.hid (HVA.out.below hbc)
          have HWc := Lib.hid (HVB.out.below hbc)
          have HA := Lib.hid hA
          have HC := Lib.hid hC
          have a0 : wc.cell? ⟨ba, 0, none⟩ = some (.int .u64 xj) := HA.out.cell 0
          have b0 : wc.cell? ⟨bb, 0, none⟩ = some (.int .u64 yj) := HC.out.cell 0
          have a1 : wc.cell? ⟨ba, 1, none⟩ = some (.string xt) := HA.out.cell 1
          have b1 : wc.cell? ⟨bb, 1, none⟩ = some (.string yt) := HC.out.cell 1
          have a2 : wc.cell? ⟨ba, 2, none⟩ = some (.string xp) := HA.out.cell 2
          have b2 : wc.cell? ⟨bb, 2, none⟩ = some (.string yp) := HC.out.cell 2
          have a3 : wc.cell? ⟨ba, 3, none⟩ = some (.slice pa xi.length ca) := HA.out.cell 3
          have b3 : wc.cell? ⟨bb, 3, none⟩ = some (.slice pb yi.length cb) := HC.out.cell 3
          have a4 : wc.cell? ⟨ba, 4, none⟩ = some (.int .i64 xf) := HA.out.cell 4
          have b4 : wc.cell? ⟨bb, 4, none⟩ = some (.int .i64 yf) := HC.out.cell 4
          have a5 : wc.cell? ⟨ba, 5, none⟩ = some (.int .u8 xs) := HA.out.cell 5
          have b5 : wc.cell? ⟨bb, 5, none⟩ = some (.int .u8 ys) := HC.out.cell 5
          have a6 : wc.cell? ⟨ba, 6, none⟩ = some (.int .i64 xv) := HA.out.cell 6
          have b6 : wc.cell? ⟨bb, 6, none⟩ = some (.int .i64 yv) := HC.out.cell 6
          have a7 : wc.cell? ⟨ba, 7, none⟩ = some (.int .i64 xe) := HA.out.cell 7
          have b7 : wc.cell? ⟨bb, 7, none⟩ = some (.int .i64 ye) := HC.out.cell 7
          clear hA hC hbc x0 x1 x2 x3 x4 x5 x6 x7 y0 y1 y2 y3 y4 y5 y6 y7 HVA HVB HB hgl
          by_cases e0 : xj = yj
          · subst e0
            by_cases e1 : xt = yt
            · subst e1
              by_cases e2 : xp = yp
              · subst e2
                by_cases e3 : xi = yi
                · subst e3
                  by_cases e4 : xf = yf
                  · subst e4
                    by_cases e5 : xs = ys
                    · subst e5
                      by_cases e6 : xv = yv
                      · subst e6
                        by_cases e7 : xe = ye
                        · subst e7
                          have hs1 := str_of (a := xt) rfl
                          have hs2 := str_of (a := xp) rfl
                          have HEQN : Hid (Calls Tryz.prog 46 #[.slice pa xi.length ca, .slice pb xi.length cb] wc (EqP true wc)) := Lib.hid (by have h := req_int HVc.out HWc.out (by have := HLI.out; dsimp only at this; omega); rwa [decide_eq_true rfl] at h)
                          unfold EqP at HEQN
                          have HQ := Lib.hid (HEQ.out rfl)
                          clear HEQ HNE
                          go_wp2_with (go_at_call 46; go_loud ((with_reducible refine HEQN.out.mono ?_); rintro e w4 ⟨rfl, hb4⟩; have HB4 := Lib.hid (HBC.out.trans (hb4.mono HBC.out.size)); have a4 : w4.cell? ⟨ba, 4, none⟩ = some (.int .i64 xf) := (HA.out.below hb4).cell 4; have a5 : w4.cell? ⟨ba, 5, none⟩ = some (.int .u8 xs) := (HA.out.below hb4).cell 5; have a6 : w4.cell? ⟨ba, 6, none⟩ = some (.int .i64 xv) := (HA.out.below hb4).cell 6; have a7 : w4.cell? ⟨ba, 7, none⟩ = some (.int .i64 xe) := (HA.out.below hb4).cell 7; have b4 : w4.cell? ⟨bb, 4, none⟩ = some (.int .i64 xf) := (HC.out.below hb4).cell 4; have b5 : w4.cell? ⟨bb, 5, none⟩ = some (.int .u8 xs) := (HC.out.below hb4).cell 5; have b6 : w4.cell? ⟨bb, 6, none⟩ = some (.int .i64 xv) := (HC.out.below hb4).cell 6; have b7 : w4.cell? ⟨bb, 7, none⟩ = some (.int .i64 xe) := (HC.out.below hb4).cell 7; clear hb4))
                          go_roundw
                          case rel => exact ⟨k + 1, by omega, by first | rw [HE.out] | simp, HQ.out, HB4.out⟩
                          case measure => (try rw [HE.out]); simp [intOf]; omega
                        · have hn : Hid (¬ l = m) := Lib.hid (HNE.out (fun h => e7 (by injection h)))
                          have hb : (xe == ye) = false := by simpa using e7
                          have hs1 := str_of (a := xt) rfl
                          have hs2 := str_of (a := xp) rfl
                          have HEQN : Hid (Calls Tryz.prog 46 #[.slice pa xi.length ca, .slice pb xi.length cb] wc (EqP true wc)) := Lib.hid (by have h := req_int HVc.out HWc.out (by have := HLI.out; dsimp only at this; omega); rwa [decide_eq_true rfl] at h)
                          unfold EqP at HEQN
                          clear HEQ HNE
                          go_wp2_with (go_at_call 46; go_loud ((with_reducible refine HEQN.out.mono ?_); rintro e w4 ⟨rfl, hb4⟩; have HB4 := Lib.hid (HBC.out.trans (hb4.mono HBC.out.size)); have a4 : w4.cell? ⟨ba, 4, none⟩ = some (.int .i64 xf) := (HA.out.below hb4).cell 4; have a5 : w4.cell? ⟨ba, 5, none⟩ = some (.int .u8 xs) := (HA.out.below hb4).cell 5; have a6 : w4.cell? ⟨ba, 6, none⟩ = some (.int .i64 xv) := (HA.out.below hb4).cell 6; have a7 : w4.cell? ⟨ba, 7, none⟩ = some (.int .i64 xe) := (HA.out.below hb4).cell 7; have b4 : w4.cell? ⟨bb, 4, none⟩ = some (.int .i64 xf) := (HC.out.below hb4).cell 4; have b5 : w4.cell? ⟨bb, 5, none⟩ = some (.int .u8 xs) := (HC.out.below hb4).cell 5; have b6 : w4.cell? ⟨bb, 6, none⟩ = some (.int .i64 xv) := (HC.out.below hb4).cell 6; have b7 : w4.cell? ⟨bb, 7, none⟩ = some (.int .i64 ye) := (HC.out.below hb4).cell 7; clear hb4))
                          go_ret
                          exact ⟨⟨false, rfl, ⟨fun h => absurd h (by decide), fun h => absurd h hn.out⟩⟩, HB4.out⟩
                      · have hn : Hid (¬ l = m) := Lib.hid (HNE.out (fun h => e6 (by injection h)))
                        have hb : (xv == yv) = false := by simpa using e6
                        have hs1 := str_of (a := xt) rfl
                        have hs2 := str_of (a := xp) rfl
                        have HEQN : Hid (Calls Tryz.prog 46 #[.slice pa xi.length ca, .slice pb xi.length cb] wc (EqP true wc)) := Lib.hid (by have h := req_int HVc.out HWc.out (by have := HLI.out; dsimp only at this; omega); rwa [decide_eq_true rfl] at h)
                        unfold EqP at HEQN
                        clear HEQ HNE
                        go_wp2_with (go_at_call 46; go_loud ((with_reducible refine HEQN.out.mono ?_); rintro e w4 ⟨rfl, hb4⟩; have HB4 := Lib.hid (HBC.out.trans (hb4.mono HBC.out.size)); have a4 : w4.cell? ⟨ba, 4, none⟩ = some (.int .i64 xf) := (HA.out.below hb4).cell 4; have a5 : w4.cell? ⟨ba, 5, none⟩ = some (.int .u8 xs) := (HA.out.below hb4).cell 5; have a6 : w4.cell? ⟨ba, 6, none⟩ = some (.int .i64 xv) := (HA.out.below hb4).cell 6; have a7 : w4.cell? ⟨ba, 7, none⟩ = some (.int .i64 xe) := (HA.out.below hb4).cell 7; have b4 : w4.cell? ⟨bb, 4, none⟩ = some (.int .i64 xf) := (HC.out.below hb4).cell 4; have b5 : w4.cell? ⟨bb, 5, none⟩ = some (.int .u8 xs) := (HC.out.below hb4).cell 5; have b6 : w4.cell? ⟨bb, 6, none⟩ = some (.int .i64 yv) := (HC.out.below hb4).cell 6; have b7 : w4.cell? ⟨bb, 7, none⟩ = some (.int .i64 ye) := (HC.out.below hb4).cell 7; clear hb4))
                        go_ret
                        exact ⟨⟨false, rfl, ⟨fun h => absurd h (by decide), fun h => absurd h hn.out⟩⟩, HB4.out⟩
                    · have hn : Hid (¬ l = m) := Lib.hid (HNE.out (fun h => e5 (by injection h)))
                      have hb : (xs == ys) = false := by simpa using e5
                      have hs1 := str_of (a := xt) rfl
                      have hs2 := str_of (a := xp) rfl
                      have HEQN : Hid (Calls Tryz.prog 46 #[.slice pa xi.length ca, .slice pb xi.length cb] wc (EqP true wc)) := Lib.hid (by have h := req_int HVc.out HWc.out (by have := HLI.out; dsimp only at this; omega); rwa [decide_eq_true rfl] at h)
                      unfold EqP at HEQN
                      clear HEQ HNE
                      go_wp2_with (go_at_call 46; go_loud ((with_reducible refine HEQN.out.mono ?_); rintro e w4 ⟨rfl, hb4⟩; have HB4 := Lib.hid (HBC.out.trans (hb4.mono HBC.out.size)); have a4 : w4.cell? ⟨ba, 4, none⟩ = some (.int .i64 xf) := (HA.out.below hb4).cell 4; have a5 : w4.cell? ⟨ba, 5, none⟩ = some (.int .u8 xs) := (HA.out.below hb4).cell 5; have a6 : w4.cell? ⟨ba, 6, none⟩ = some (.int .i64 xv) := (HA.out.below hb4).cell 6; have a7 : w4.cell? ⟨ba, 7, none⟩ = some (.int .i64 xe) := (HA.out.below hb4).cell 7; have b4 : w4.cell? ⟨bb, 4, none⟩ = some (.int .i64 xf) := (HC.out.below hb4).cell 4; have b5 : w4.cell? ⟨bb, 5, none⟩ = some (.int .u8 ys) := (HC.out.below hb4).cell 5; have b6 : w4.cell? ⟨bb, 6, none⟩ = some (.int .i64 yv) := (HC.out.below hb4).cell 6; have b7 : w4.cell? ⟨bb, 7, none⟩ = some (.int .i64 ye) := (HC.out.below hb4).cell 7; clear hb4))
                      go_ret
                      exact ⟨⟨false, rfl, ⟨fun h => absurd h (by decide), fun h => absurd h hn.out⟩⟩, HB4.out⟩
                  · have hn : Hid (¬ l = m) := Lib.hid (HNE.out (fun h => e4 (by injection h)))
                    have hb : (xf == yf) = false := by simpa using e4
                    have hs1 := str_of (a := xt) rfl
                    have hs2 := str_of (a := xp) rfl
                    have HEQN : Hid (Calls Tryz.prog 46 #[.slice pa xi.length ca, .slice pb xi.length cb] wc (EqP true wc)) := Lib.hid (by have h := req_int HVc.out HWc.out (by have := HLI.out; dsimp only at this; omega); rwa [decide_eq_true rfl] at h)
                    unfold EqP at HEQN
                    clear HEQ HNE
                    go_wp2_with (go_at_call 46; go_loud ((with_reducible refine HEQN.out.mono ?_); rintro e w4 ⟨rfl, hb4⟩; have HB4 := Lib.hid (HBC.out.trans (hb4.mono HBC.out.size)); have a4 : w4.cell? ⟨ba, 4, none⟩ = some (.int .i64 xf) := (HA.out.below hb4).cell 4; have a5 : w4.cell? ⟨ba, 5, none⟩ = some (.int .u8 xs) := (HA.out.below hb4).cell 5; have a6 : w4.cell? ⟨ba, 6, none⟩ = some (.int .i64 xv) := (HA.out.below hb4).cell 6; have a7 : w4.cell? ⟨ba, 7, none⟩ = some (.int .i64 xe) := (HA.out.below hb4).cell 7; have b4 : w4.cell? ⟨bb, 4, none⟩ = some (.int .i64 yf) := (HC.out.below hb4).cell 4; have b5 : w4.cell? ⟨bb, 5, none⟩ = some (.int .u8 ys) := (HC.out.below hb4).cell 5; have b6 : w4.cell? ⟨bb, 6, none⟩ = some (.int .i64 yv) := (HC.out.below hb4).cell 6; have b7 : w4.cell? ⟨bb, 7, none⟩ = some (.int .i64 ye) := (HC.out.below hb4).cell 7; clear hb4))
                    go_ret
                    exact ⟨⟨false, rfl, ⟨fun h => absurd h (by decide), fun h => absurd h hn.out⟩⟩, HB4.out⟩
                · have hn : Hid (¬ l = m) := Lib.hid (HNE.out (fun h => e3 (by injection h)))
                  have hs1 := str_of (a := xt) rfl
                  have hs2 := str_of (a := xp) rfl
                  have HEQN : Hid (Calls Tryz.prog 46 #[.slice pa xi.length ca, .slice pb yi.length cb] wc (EqP false wc)) := Lib.hid (by have h := req_int HVc.out HWc.out (by have := HLI.out; dsimp only at this; omega); rwa [decide_eq_false e3] at h)
                  unfold EqP at HEQN
                  clear HEQ HNE e3
                  go_wp2_with (go_at_call 46; go_loud ((with_reducible refine HEQN.out.mono ?_); rintro e w4 ⟨rfl, hb4⟩; have HB4 := Lib.hid (HBC.out.trans (hb4.mono HBC.out.size)); have a4 : w4.cell? ⟨ba, 4, none⟩ = some (.int .i64 xf) := (HA.out.below hb4).cell 4; have a5 : w4.cell? ⟨ba, 5, none⟩ = some (.int .u8 xs) := (HA.out.below hb4).cell 5; have a6 : w4.cell? ⟨ba, 6, none⟩ = some (.int .i64 xv) := (HA.out.below hb4).cell 6; have a7 : w4.cell? ⟨ba, 7, none⟩ = some (.int .i64 xe) := (HA.out.below hb4).cell 7; have b4 : w4.cell? ⟨bb, 4, none⟩ = some (.int .i64 yf) := (HC.out.below hb4).cell 4; have b5 : w4.cell? ⟨bb, 5, none⟩ = some (.int .u8 ys) := (HC.out.below hb4).cell 5; have b6 : w4.cell? ⟨bb, 6, none⟩ = some (.int .i64 yv) := (HC.out.below hb4).cell 6; have b7 : w4.cell? ⟨bb, 7, none⟩ = some (.int .i64 ye) := (HC.out.below hb4).cell 7; clear hb4))
                  go_ret
                  exact ⟨⟨false, rfl, ⟨fun h => absurd h (by decide), fun h => absurd h hn.out⟩⟩, HB4.out⟩
              · have hn : Hid (¬ l = m) := Lib.hid (HNE.out (fun h => e2 (by injection h)))
                have hb := str_ne e2
                have hs1 := str_of (a := xt) rfl
                clear HEQ HNE e2
                go_wp2_with fail
                go_ret
                exact ⟨⟨false, rfl, ⟨fun h => absurd h (by decide), fun h => absurd h hn.out⟩⟩, HBC.out⟩
            · have hn : Hid (¬ l = m) := Lib.hid (HNE.out (fun h => e1 (by injection h)))
              have hb := str_ne e1
              clear HEQ HNE e1
              go_wp2_with fail
              go_ret
              exact ⟨⟨false, rfl, ⟨fun h => absurd h (by decide), fun h => absurd h hn.out⟩⟩, HBC.out⟩
          · have hn : Hid (¬ l = m) := Lib.hid (HNE.out (fun h => e0 (by injection h)))
            have hb : (xj == yj) = false := by simpa using e0
            clear HEQ HNE
            go_wp2_with fail
            go_ret
            exact ⟨⟨false, rfl, ⟨fun h => absurd h (by decide), fun h => absurd h hn.out⟩⟩, HBC.out⟩
      · have hki : (m.length : Int) ≤ (k : Int) := by have := HLEN.out; omega
        have hki1 : (l.length : Int) ≤ (k : Int) := by omega
        have HR : Hid (l = m) := Lib.hid (eq_of_tk HLEN.out (by rw [show l.length = k from by omega]; exact htk))
        have HB := Lib.hid hb
        clear htk hb
        go_wp2
        go_ret
        exact ⟨⟨true, rfl, ⟨fun _ => HR.out, fun _ => rfl⟩⟩, HB.out⟩
  · have hlen' : ((l.length : Int) == (m.length : Int)) = false := by
      have : ¬ (l.length : Int) = (m.length : Int) := by omega
      simpa using this
    have HLEN := Lib.hid hlen
    clear hlen
    go_enter Tryz.func13, Tryz.ntmps13
    go_wp2
    go_ret
    exact ⟨⟨false, rfl, ⟨fun h => absurd h (by decide), fun h => absurd (congrArg List.length h) HLEN.out⟩⟩, Below.refl _ _⟩
end Go.Proofs.YtlahficmkfgooaaGreat
