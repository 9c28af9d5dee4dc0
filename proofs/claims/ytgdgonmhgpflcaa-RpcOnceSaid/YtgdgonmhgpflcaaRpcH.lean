import Derived.Test.YtgdgonmhgpflcaaRpcG
import Derived.BigQuiet

/- The walks of a caller's Due, Ended, Calls and Take. No condition but that the caller is one, and its rows are not too long. -/
namespace Go.Proofs.Ytgdgonmhgpflcaa
open Go.RowKit Go.Maps Wire Rp
set_option linter.unusedVariables false
set_option linter.unusedSimpArgs false
set_option maxRecDepth 100000 in
theorem taken_d {w : World} {b k n cap : Nat} {p : Option Addr} (hc : w.cell? ⟨b, k, none⟩ = some (.slice p n cap)) (hf : w.frozen? ⟨b, k, none⟩ = false) : Calls Try.prog 68 #[.pointer (some ⟨b, k, none⟩)] w fun e w' => e = .returned (.slice p n cap) ∧ w' = w.setCell ⟨b, k, none⟩ (.slice none 0 0) := by
  go_enter Try.func68, Try.ntmps68
  go_wp2_with fail
  go_ret
  exact ⟨rfl, rfl⟩
set_option maxRecDepth 100000 in
  theorem taken_o {w : World} {b k n cap : Nat} {p : Option Addr} (hc : w.cell? ⟨b, k, none⟩ = some (.slice p n cap)) (hf : w.frozen? ⟨b, k, none⟩ = false) : Calls Try.prog 69 #[.pointer (some ⟨b, k, none⟩)] w fun e w' => e = .returned (.slice p n cap) ∧ w' = w.setCell ⟨b, k, none⟩ (.slice none 0 0) := by
    go_enter Try.func69, Try.ntmps69
    go_wp2_with fail
    go_ret
    exact ⟨rfl, rfl⟩
set_option maxRecDepth 100000 in
theorem due_nil (w : World) : Calls Try.prog 31 #[.pointer none] w fun e w' => e = .returned (.slice none 0 0) ∧ w' = w := by
  go_enter Try.func31, Try.ntmps31
  go_wp2_with fail
  go_ret
  exact ⟨rfl, rfl⟩
set_option maxRecDepth 100000 in
theorem ended_nil (w : World) : Calls Try.prog 32 #[.pointer none] w fun e w' => e = .returned (.slice none 0 0) ∧ w' = w := by
  go_enter Try.func32, Try.ntmps32
  go_wp2_with fail
  go_ret
  exact ⟨rfl, rfl⟩
set_option maxRecDepth 100000 in
theorem calls_nil (w : World) : Calls Try.prog 24 #[.pointer none] w fun e w' => e = .returned (.slice none 0 0) ∧ w' = w := by
  go_enter Try.func24, Try.ntmps24
  go_wp2_with fail
  go_ret
  exact ⟨rfl, rfl⟩
section
variable {w : World} {B0 bd bo b h N : Nat} {B : Int → Nat} {s : St} {vd vo : Value}
/-- What a Due leaves: what was due is handed out, nothing is due. -/
def DuePost (w : World) (B0 bd bo b h : Nat) (B : Int → Nat) (s : St) (vd vo : Value) (N : Nat) (e : Ending) (w' : World) : Prop :=
  e = .returned vd ∧ CW w' B0 w.heap.size bo b h B { s with du := [] } (.slice none 0 0) vo N ∧ w'.ownsRow bd 101 2 vd s.du.length (rowsD s.du) ∧ Only (· = b) w w'
theorem due_end (c : CW w B0 bd bo b h B s vd vo N) : DuePost w B0 bd bo b h B s vd vo N (.returned vd) (w.setCell ⟨b, 6, none⟩ (.slice none 0 0)) := by
  have o7 : Only (· = b) w (w.setCell ⟨b, 6, none⟩ (.slice none 0 0)) := (Only.refl _ w).set1
  have hne : ∀ {k : Nat} {T : TypeId} {A : Array Value}, Blk w k T A → T ≠ 143 → ¬ k = b := fun hk ht e => by subst e; exact ht (blk_ne hk c.blk)
  have hg := c.ge
  have hz := c.sz
  refine ⟨rfl, ⟨?_, c.mp.only o7 c.hb, fun x hx => ⟨(c.cl x hx).1.only o7 (hne (c.cl x hx).1 (by decide)), (c.cl x hx).2⟩, c.inj, World.ownsRow_nil _ _ _ _, owns_only c.ov o7 fun g hg => ?_, ⟨hg.1, hg.2.1, by omega, hg.2.2.2⟩, ⟨by rw [setCell_size]; omega, by rw [setCell_size]; omega⟩, c.inv.rows [] s.ov⟩, owns_only c.du o7 fun g hg => ?_, o7⟩
  · have := c.blk.set 6 (.slice none 0 0)
    rwa [setIf6] at this
  · obtain ⟨A, hA, _⟩ := c.ov_ty hg; exact hne hA (by decide)
  · obtain ⟨A, hA, _⟩ := c.du_ty hg; exact hne hA (by decide)
set_option maxRecDepth 100000 in
theorem due_any (c : CW w B0 bd bo b h B s vd vo N) : Calls Try.prog 31 #[.pointer (some ⟨b, 0, none⟩)] w (DuePost w B0 bd bo b h B s vd vo N) := by
  obtain ⟨p, cap, rfl⟩ := c.dslice
  have HE := Lib.hid (due_end c)
  have HT := Lib.hid (taken_d c.c6 (c.fz 6))
  clear c
  go_enter Try.func31, Try.ntmps31
  go_wp2_with (go_at_call 68; ((with_reducible refine HT.out.mono ?_); rintro e w' ⟨rfl, rfl⟩))
  go_ret
  exact HE.out
/-- What an Ended leaves. -/
def EndedPost (w : World) (B0 bd bo b h : Nat) (B : Int → Nat) (s : St) (vd vo : Value) (N : Nat) (e : Ending) (w' : World) : Prop :=
  e = .returned vo ∧ CW w' B0 bd w.heap.size b h B { s with ov := [] } vd (.slice none 0 0) N ∧ w'.ownsRow bo 83 4 vo s.ov.length (rowsO s.ov) ∧ Only (· = b) w w'
theorem ended_end (c : CW w B0 bd bo b h B s vd vo N) : EndedPost w B0 bd bo b h B s vd vo N (.returned vo) (w.setCell ⟨b, 7, none⟩ (.slice none 0 0)) := by
  have o7 : Only (· = b) w (w.setCell ⟨b, 7, none⟩ (.slice none 0 0)) := (Only.refl _ w).set1
  have hne : ∀ {k : Nat} {T : TypeId} {A : Array Value}, Blk w k T A → T ≠ 143 → ¬ k = b := fun hk ht e => by subst e; exact ht (blk_ne hk c.blk)
  have hg := c.ge
  have hz := c.sz
  refine ⟨rfl, ⟨?_, c.mp.only o7 c.hb, fun x hx => ⟨(c.cl x hx).1.only o7 (hne (c.cl x hx).1 (by decide)), (c.cl x hx).2⟩, c.inj, owns_only c.du o7 fun g hg => ?_, World.ownsRow_nil _ _ _ _, ⟨hg.1, hg.2.1, hg.2.2.1, by omega⟩, ⟨by rw [setCell_size]; omega, by rw [setCell_size]; omega⟩, c.inv.rows s.du []⟩, owns_only c.ov o7 fun g hg => ?_, o7⟩
  · have := c.blk.set 7 (.slice none 0 0)
    rwa [setIf7] at this
  · obtain ⟨A, hA, _⟩ := c.du_ty hg; exact hne hA (by decide)
  · obtain ⟨A, hA, _⟩ := c.ov_ty hg; exact hne hA (by decide)
set_option maxRecDepth 100000 in
theorem ended_any (c : CW w B0 bd bo b h B s vd vo N) : Calls Try.prog 32 #[.pointer (some ⟨b, 0, none⟩)] w (EndedPost w B0 bd bo b h B s vd vo N) := by
  obtain ⟨p, cap, rfl⟩ := c.oslice
  have HE := Lib.hid (ended_end c)
  have HT := Lib.hid (taken_o c.c7 (c.fz 7))
  clear c
  go_enter Try.func32, Try.ntmps32
  go_wp2_with (go_at_call 69; ((with_reducible refine HT.out.mono ?_); rintro e w' ⟨rfl, rfl⟩))
  go_ret
  exact HE.out
/-- A call that answers the numbers of calls, in a row of its own. -/
def CallsPost (w : World) (s : St) (e : Ending) (w' : World) : Prop := ∃ v, e = .returned v ∧ w'.ownsRow w.heap.size 22 1 v s.L.length (s.L.map fun c => Value.int .u64 c.seq) ∧ Below w.heap.size w w'
set_option maxRecDepth 100000 in
theorem calls_any (c : CW w B0 bd bo b h B s vd vo N) : Calls Try.prog 24 #[.pointer (some ⟨b, 0, none⟩)] w (CallsPost w s) := by
  have c5 := c.c5
  obtain ⟨D, o, o1, o2, o3⟩ := c.mp
  have HK := Lib.hid (keys_p (some h) w)
  have HS := Lib.hid (sortedKeys_p (w := w.alloc (.cells #[.map (some h)] 140)) (Bm := w.heap.size) (by simp) ((Blk.new w 140 #[.map (some h)]).cell 0) (o.alloc _) (by rw [o3]; unfold keysC; rw [List.length_map]; have := c.inv.len; omega))
  have HID : Hid (∀ K : List Int, K.Pairwise (· < ·) → (∀ x, x ∈ K ↔ Maps.has D (.int .u64 x) = true) → K = s.L.map (·.seq)) := Lib.hid fun K h1 h2 => by
    refine sorted_eq h1 (List.pairwise_map.2 c.inv.ris) fun x => ?_
    rw [h2 x, show Maps.has D (.int .u64 x) = true ↔ _ from o2 (KR x)]
    constructor
    · rintro ⟨a, ha, e⟩
      obtain ⟨y, hy, e2⟩ := keys_has.1 ⟨a, ha, show a.1 = x by have : KR a.1 = KR x := e; unfold KR at this; injection this⟩
      exact List.mem_map.2 ⟨y, hy, e2⟩
    · intro hx
      obtain ⟨y, hy, rfl⟩ := List.mem_map.1 hx
      exact ⟨_, keys_mem hy, rfl⟩
  clear c o o1 o2 o3
  go_enter Try.func24, Try.ntmps24
  go_wp2_with (first | (go_at_call 63; ((with_reducible refine HK.out.mono ?_); rintro e w' ⟨rfl, rfl⟩)) | (go_at_call 62; ((with_reducible refine HS.out.mono ?_); rintro e w2 ⟨v, K, rfl, k1, k2, k3, k4, k5, k6⟩; obtain rfl := HID.out K k1 k2; obtain ⟨pv, cv, rfl⟩ := owns_slice k4; have HR := Lib.hid k4; have HB := Lib.hid k6; clear k1 k2 k3 k4 k5 k6)))
  go_ret
  have h7 := owns_ge HR.out (B := w.heap.size) (by simp)
  rw [List.map_map, List.length_map] at h7
  refine ⟨.slice pv s.L.length cv, ?_, h7, ((Below.refl _ w).alloc (Nat.le_refl _) _).trans (HB.out.mono (by simp))⟩
  first | rfl | (simp; done) | (rw [List.length_map])
theorem drewN_below' (w : World) (n : Nat) : Below w.heap.size w (w.drewN n) := ⟨rfl, rfl, rfl, Nat.le_refl _, fun _ _ => rfl⟩
/-! ### Take -/
def TakeP (w : World) (B0 bd bo b h : Nat) (B : Int → Nat) (vd : Value) (N : Nat) (r : Bool × Int × St) (e : Ending) (w' : World) : Prop :=
  e = .returned (.tuple #[.bool r.1, .int .i64 r.2.1]) ∧ ∃ vo', CW w' B0 bd bo b h B r.2.2 vd vo' N ∧ OnC B0 b h bd bo w w'
set_option maxRecDepth 100000 in
theorem take_nil (fr : Int) (p : Pk) (w : World) : Calls Try.prog 36 #[.pointer none, .int .i64 fr, pv p] w fun e w' => e = .returned (.tuple #[.bool false, .int .i64 1]) ∧ Below w.heap.size w w' := by
  have HB := Lib.hid ((Below.refl _ w).alloc (Nat.le_refl _) (.cells (pcells p) 24))
  obtain ⟨an, inc, sq, body⟩ := p
  unfold pv pcells at *
  dsimp only at *
  go_enter Try.func36, Try.ntmps36
  go_wp2_with (go_at_call 64; ((with_reducible refine (made_nil _).mono ?_); rintro e w' ⟨rfl, rfl⟩))
  go_ret2
  exact ⟨rfl, HB.out⟩
set_option maxRecDepth 100000 in
set_option maxHeartbeats 2000000 in
theorem take_any (c : CW w B0 bd bo b h B s vd vo N) {fr : Int} {p : Pk} (hu : U64 p.seq) (hn : s.ov.length < 2147483648) {r : Bool × Int × St} (hr : takeS s fr p = r) :
    Calls Try.prog 36 #[.pointer (some ⟨b, 0, none⟩), .int .i64 fr, pv p] w (TakeP w B0 bd bo b h B vd N r) := by
  have HR := Lib.hid hr
  have hc := c.alloc (.cells (pcells p) 24)
  have HMD := Lib.hid (made_any hc)
  have HC := Lib.hid hc
  have HX := Lib.hid (Blk.new w 24 (pcells p))
  have HPL := Lib.hid (place_any fr (w.alloc (.cells (pcells p) 24)))
  have HMY := Lib.hid (pmay_any p (w.alloc (.cells (pcells p) 24)))
  have HBW : Hid (OnC B0 b h bd bo w (w.alloc (.cells (pcells p) 24))) := Lib.hid (OnC.of_below ((Below.refl _ _).alloc (Nat.le_refl _) _))
  have HN := Lib.hid (And.intro hn hu)
  clear hr hc c hn hu
  unfold takeS at HR
  cases hpl : placeB fr with
  | false =>
    rw [hpl] at HPL HR
    simp only [Bool.false_and, if_true] at HR
    have HT := Lib.hid HR.out.symm
    clear HR hpl
    obtain ⟨an, inc, sq, body⟩ := p
    unfold pv pcells at *
    go_enter Try.func36, Try.ntmps36
    go_wp2_with (first | (go_at_call 64; ((with_reducible refine HMD.out.mono ?_); rintro e w' ⟨rfl, rfl⟩)) | (go_at_call 57; ((with_reducible refine HPL.out.mono ?_); rintro e w' ⟨rfl, rfl⟩)))
    go_ret2
    rw [HT.out]
    exact ⟨rfl, _, HC.out, HBW.out⟩
  | true =>
    cases hmy : mayP p with
    | false =>
      rw [hpl] at HPL
      rw [hmy] at HMY
      rw [hpl, hmy] at HR
      simp only [Bool.and_false, if_true] at HR
      have HT := Lib.hid HR.out.symm
      clear HR hpl hmy
      obtain ⟨an, inc, sq, body⟩ := p
      unfold pv pcells at *
      go_enter Try.func36, Try.ntmps36
      go_wp2_with (first | (go_at_call 64; ((with_reducible refine HMD.out.mono ?_); rintro e w' ⟨rfl, rfl⟩)) | (go_at_call 57; ((with_reducible refine HPL.out.mono ?_); rintro e w' ⟨rfl, rfl⟩)) | (go_at_call 41; ((with_reducible refine HMY.out.mono ?_); rintro e w1 ⟨rfl, hb1⟩; have HB1 := Lib.hid hb1; clear hb1)))
      go_ret2
      rw [HT.out]
      exact ⟨rfl, _, HC.out.below HB1.out, HBW.out.step HB1.out⟩
    | true =>
      rw [hpl] at HPL
      rw [hmy] at HMY
      rw [hpl, hmy] at HR
      simp only [Bool.and_self, Bool.true_eq_false, if_false] at HR
      clear hpl
      have HMV := Lib.hid hmy
      cases hf : s.L.find? (fun c => c.seq == p.seq) with
      | none =>
        rw [hf] at HR
        have HT := Lib.hid HR.out.symm
        dsimp only at HT
        have hno : ¬ ∃ a ∈ keysC B s.L, a.1 = p.seq := fun h => by
          obtain ⟨y, hy, e⟩ := keys_has.1 h
          have := List.find?_eq_none.1 hf y hy
          simp [e] at this
        have HNO := Lib.hid hno
        clear HR hmy hf hno
        obtain ⟨an, inc, sq, body⟩ := p
        unfold pv pcells at *
        dsimp only at HNO HN
        go_enter Try.func36, Try.ntmps36
        go_upto_region 6 with (first | (go_at_call 64; ((with_reducible refine HMD.out.mono ?_); rintro e w' ⟨rfl, rfl⟩)) | (go_at_call 57; ((with_reducible refine HPL.out.mono ?_); rintro e w' ⟨rfl, rfl⟩)) | (go_at_call 41; ((with_reducible refine HMY.out.mono ?_); rintro e w1 ⟨rfl, hb1⟩; have HB1 := Lib.hid hb1; clear hb1)))
        have HC1 := Lib.hid (HC.out.below HB1.out)
        have HX1 := Lib.hid (HX.out.below HB1.out)
        have HO1 := Lib.hid (HBW.out.step HB1.out)
        clear HC HX HBW HB1
        generalize w.heap.size = Q at *
        have c5 := HC1.out.c5
        have y2 : w1.cell? ⟨Q, 2, none⟩ = some (.int .u64 sq) := by rw [HX1.out.cell 2]; rfl
        have hlk := mp_miss HC1.out.drew.mp HNO.out HN.out.2
        go_region
        go_upto_region 7 with fail
        go_quiet (fail)
        go_wp2_with fail
        go_ret2
        rw [HT.out]
        exact ⟨rfl, _, HC1.out.drew.below (drewN_below' _ nq), HO1.out.drew.step (drewN_below' _ nq)⟩
      | some x =>
        rw [hf] at HR
        dsimp only at HR
        have hxm := List.mem_of_find?_eq_some hf
        have hxs : x.seq = p.seq := by simpa using List.find?_some hf
        have HXM := Lib.hid (And.intro hxm hxs)
        clear hmy hf hxm hxs
        obtain ⟨an, inc, sq, body⟩ := p
        unfold pv pcells at *
        dsimp only at HXM HN HR HMV
        go_enter Try.func36, Try.ntmps36
        go_upto_region 6 with (first | (go_at_call 64; ((with_reducible refine HMD.out.mono ?_); rintro e w' ⟨rfl, rfl⟩)) | (go_at_call 57; ((with_reducible refine HPL.out.mono ?_); rintro e w' ⟨rfl, rfl⟩)) | (go_at_call 41; ((with_reducible refine HMY.out.mono ?_); rintro e w1 ⟨rfl, hb1⟩; have HB1 := Lib.hid hb1; clear hb1)))
        have HC1 := Lib.hid (HC.out.below HB1.out)
        have HX1 := Lib.hid (HX.out.below HB1.out)
        have HO1 := Lib.hid (HBW.out.step HB1.out)
        clear HC HX HBW HB1
        generalize w.heap.size = Q at *
        have c5 := HC1.out.c5
        have c0 := HC1.out.c0
        have y0 : w1.cell? ⟨Q, 0, none⟩ = some (.bool an) := by rw [HX1.out.cell 0]; rfl
        have y1 : w1.cell? ⟨Q, 1, none⟩ = some (.int .u64 inc) := by rw [HX1.out.cell 1]; rfl
        have y2 : w1.cell? ⟨Q, 2, none⟩ = some (.int .u64 sq) := by rw [HX1.out.cell 2]; rfl
        have y3 : w1.cell? ⟨Q, 3, none⟩ = some (.string body) := by rw [HX1.out.cell 3]; rfl
        have hlk := mp_hit HC1.out.drew.mp (keys_mem HXM.out.1) (by show U64 x.seq; rw [HXM.out.2]; exact HN.out.2)
        have hxb := (HC1.out.cl x HXM.out.1).1
        have z1 : w1.cell? ⟨B x.seq, 1, none⟩ = some (.int .i64 x.wh) := by rw [hxb.cell 1]; rfl
        clear hxb
        rw [HXM.out.2] at hlk z1
        dsimp only at hlk
        generalize B sq = q at *
        generalize x.wh = xw at *
        generalize hsi : s.inc = si at *
        have HSI := Lib.hid hsi
        clear hsi
        by_cases hgood : an = true ∧ inc = si ∧ xw = fr
        · obtain ⟨rfl, rfl, rfl⟩ := hgood
          have HT : Hid (r = (true, 0, endsS s ⟨sq, xw, body, 0⟩)) := Lib.hid (by rw [← HR.out]; simp)
          clear HR
          go_region
          go_upto_region 7 with fail
          go_quiet (fail)
          have HC2 := Lib.hid (HC1.out.below (drewN_below' _ (1 + nq)))
          have HO2 := Lib.hid (HO1.out.step (drewN_below' _ (1 + nq)))
          have HEN := Lib.hid (ends_any HC2.out ⟨sq, xw, body, 0⟩ HN.out.2 HN.out.1)
          unfold ocells at HEN
          dsimp only at HEN
          go_wp2_with (go_loud (go_at_call 66; (with_reducible refine HEN.out.mono ?_); rintro e w5 ⟨rfl, vo', hc5, ho5⟩; have HC5 := Lib.hid hc5; have HO5 := Lib.hid ho5; clear hc5 ho5))
          go_ret2
          rw [HT.out]
          exact ⟨rfl, _, HC5.out, HO2.out.trans HO5.out⟩
        · have HT : Hid (r = (false, 0, s)) := Lib.hid (by
            rw [← HR.out, if_neg]
            intro h
            simp only [Bool.and_eq_true, beq_iff_eq] at h
            exact hgood ⟨h.1.1, h.1.2, h.2⟩)
          clear HR
          cases an with
          | false =>
            clear hgood
            go_region
            go_upto_region 7 with fail
            go_quiet (fail)
            go_wp2_with fail
            go_ret2
            rw [HT.out]
            exact ⟨rfl, _, HC1.out.drew.below (drewN_below' _ nq), HO1.out.drew.step (drewN_below' _ nq)⟩
          | true =>
            by_cases hi : inc = si
            · subst hi
              have hw : ¬ xw = fr := fun e => hgood ⟨rfl, rfl, e⟩
              have hw' : (xw == fr) = false := by simpa using hw
              clear hgood
              go_region
              go_upto_region 7 with fail
              go_quiet (fail)
              go_wp2_with fail
              go_ret2
              rw [HT.out]
              exact ⟨rfl, _, HC1.out.drew.below (drewN_below' _ nq), HO1.out.drew.step (drewN_below' _ nq)⟩
            · have hi' : (inc == si) = false := by simpa using hi
              clear hgood
              go_region
              go_upto_region 7 with fail
              go_quiet (fail)
              go_wp2_with fail
              go_ret2
              rw [HT.out]
              exact ⟨rfl, _, HC1.out.drew.below (drewN_below' _ nq), HO1.out.drew.step (drewN_below' _ nq)⟩
end
end Go.Proofs.Ytgdgonmhgpflcaa
