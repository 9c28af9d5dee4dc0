import Derived.Test.YtgdgonmhgpflcaaRpcP

/- The walk of who is called's Answer. No condition but that he is one, not beyond any bound. -/
namespace Go.Proofs.Ytgdgonmhgpflcaa
open Go.RowKit Go.Maps Wire Rp
set_option linter.unusedVariables false
set_option linter.unusedSimpArgs false
def AnsP (w : World) (B0 c h : Nat) (M : Int → Nat) (s : List Pe) (N : Nat) (r : (ByteArray × Int) × List Pe) (e : Ending) (w' : World) : Prop :=
  e = .returned (.tuple #[.string r.1.1, .int .i64 r.1.2]) ∧ DPost w B0 c h M s N r.2 w'
set_option maxRecDepth 100000 in
theorem ans_nil (a b c d : Value) (w : World) : Calls Try.prog 16 #[.pointer none, a, b, c, d] w fun e w' => e = .returned (.tuple #[.string ⟨#[]⟩, .int .i64 1]) ∧ w' = w := by
  go_enter Try.func16, Try.ntmps16
  go_wp2_with fail
  go_ret2
  exact ⟨rfl, rfl⟩
set_option maxRecDepth 100000 in
set_option maxHeartbeats 4000000 in
theorem ans_any {w : World} {B0 c h N : Nat} {B M : Int → Nat} {s : List Pe} (d : CdW w B0 c h B M s N) {fr inc sq : Int} {body : ByteArray} (hu : U64 sq ∧ I64 fr) (hN : N ≤ 900000) {r : (ByteArray × Int) × List Pe} (hr : ansD s fr inc sq body = r) :
    Calls Try.prog 16 #[.pointer (some ⟨c, 0, none⟩), .int .i64 fr, .int .u64 inc, .int .u64 sq, .string body] w (AnsP w B0 c h M s N r) := by
  have HR := Lib.hid hr
  have HD := Lib.hid d
  have HPL := Lib.hid (place_any fr w)
  have HBAD : Hid (∀ w', Below w.heap.size w w' → DPost w B0 c h M s N s w') := Lib.hid fun w' hb => ⟨B, M, N, d.below hb, by omega, OnD.of_below hb, fun k hk => .inl hk⟩
  have HN := Lib.hid (And.intro hu hN)
  have c0 := d.c0
  have hcmp := mapnilP h
  unfold ansD at HR
  clear hr hu hN
  cases hpl : placeB fr with
  | false =>
    rw [hpl] at HPL HR
    simp only [if_true] at HR
    clear hpl d
    go_enter Try.func16, Try.ntmps16
    go_wp2_with (go_at_call 57; ((with_reducible refine HPL.out.mono ?_); rintro e w9 ⟨rfl, hw9⟩; have hw9 := hw9.symm; subst hw9))
    go_ret2
    have := HR.out
    subst this
    exact ⟨rfl, HBAD.out _ (Below.refl _ _)⟩
  | true =>
    rw [hpl] at HPL HR
    simp only [Bool.true_eq_false, if_false] at HR
    clear hpl
    by_cases hbig : 8192 < body.size
    · have hbig' : (8192 : Int) < (body.size : Int) := by omega
      rw [if_pos hbig] at HR
      clear hbig d
      go_enter Try.func16, Try.ntmps16
      go_wp2_with (go_at_call 57; ((with_reducible refine HPL.out.mono ?_); rintro e w9 ⟨rfl, hw9⟩; have hw9 := hw9.symm; subst hw9))
      go_ret2
      have := HR.out
      subst this
      exact ⟨rfl, HBAD.out _ (Below.refl _ _)⟩
    · have hbig' : ¬ (8192 : Int) < (body.size : Int) := by omega
      have HBG := Lib.hid hbig
      rw [if_neg hbig] at HR
      clear hbig
      cases hl : lookP s fr with
      | none =>
        have hlk := mpP_miss d.mp (keysP_no hl) HN.out.1.2
        rw [hl] at HR
        dsimp only at HR
        clear hl d
        go_enter Try.func16, Try.ntmps16
        go_wp2_with (go_at_call 57; ((with_reducible refine HPL.out.mono ?_); rintro e w9 ⟨rfl, hw9⟩; have hw9 := hw9.symm; subst hw9))
        go_ret2
        have := HR.out
        subst this
        exact ⟨rfl, HBAD.out _ (Below.refl _ _)⟩
      | some x =>
        obtain ⟨hx, hxf⟩ := lookP_some hl
        have hlk := mpP_hit d.mp (keysP_mem hx) (by show I64 x.fr; rw [hxf]; exact HN.out.1.2)
        dsimp only at hlk
        rw [hxf] at hlk
        have hpw := (d.pe x hx).1
        rw [hxf] at hpw
        rw [hl] at HR
        dsimp only at HR
        have HXS := Lib.hid (And.intro hx hxf)
        have HPW := Lib.hid hpw
        have p0 := hpw.c0
        have p2 := hpw.c2
        obtain ⟨q, hq⟩ : ∃ q, B fr = q := ⟨_, rfl⟩
        obtain ⟨m, hm⟩ : ∃ m, M fr = m := ⟨_, rfl⟩
        rw [hq, hm] at HPW
        rw [hq] at hlk p0 p2
        rw [hm] at p2
        have HQM := Lib.hid (And.intro hq hm)
        clear hpw hq hm hl d hx hxf
        by_cases hi : x.inc = inc
        · rw [if_pos hi] at HR
          subst hi
          cases hlh : lookH x.L sq with
          | none =>
            have hlk3 := HPW.out.miss HN.out.1.1 (lookH_none hlh)
            unfold hval at hlk3
            dsimp only at hlk3
            rw [hlh] at HR
            dsimp only at HR
            clear hlh
            go_enter Try.func16, Try.ntmps16
            go_wp2_with (go_at_call 57; ((with_reducible refine HPL.out.mono ?_); rintro e w9 ⟨rfl, hw9⟩; have hw9 := hw9.symm; subst hw9))
            go_ret2
            have := HR.out
            subst this
            exact ⟨rfl, HBAD.out _ ((Below.refl _ _).alloc (Nat.le_refl _) _)⟩
          | some h0 =>
            obtain ⟨hh0, hhs⟩ := lookH_some hlh
            have hlk3 := HPW.out.hit hh0
            rw [hhs] at hlk3
            unfold hval at hlk3
            dsimp only at hlk3
            rw [hlh] at HR
            dsimp only at HR
            have HH0 := Lib.hid (And.intro hh0 hhs)
            clear hlh hh0 hhs
            cases hdn : h0.dn with
            | true =>
              rw [hdn] at HR hlk3
              simp only [if_true] at HR
              go_enter Try.func16, Try.ntmps16
              go_wp2_with (go_at_call 57; ((with_reducible refine HPL.out.mono ?_); rintro e w9 ⟨rfl, hw9⟩; have hw9 := hw9.symm; subst hw9))
              go_ret2
              have := HR.out
              subst this
              exact ⟨rfl, HBAD.out _ ((Below.refl _ _).alloc (Nat.le_refl _) _)⟩
            | false =>
              rw [hdn] at HR hlk3
              simp only [Bool.false_eq_true, if_false] at HR
              have hok : hOk ⟨sq, true, body⟩ := by
                have := HPW.out.inv.ok h0 HH0.out.1
                unfold hOk at *
                dsimp only
                rw [HH0.out.2] at this
                have := HBG.out
                omega
              have hmay : mayP ⟨true, x.inc, sq, body⟩ = true := by
                have h1 := HPW.out.inv.inc
                unfold hOk at hok
                unfold mayP
                simp only [Bool.and_eq_true, decide_eq_true_eq]
                exact ⟨h1.1, h1.2, hok.1, hok.2.1, hok.2.2⟩
              have HE := Lib.hid (fun w => penc_ok hmay w)
              have HOK := Lib.hid hok
              unfold pv pcells at HE
              dsimp only at HE
              generalize hT : pkS ⟨true, x.inc, sq, body⟩ = T at *
              have HT := Lib.hid hT
              obtain ⟨tx, htx⟩ : ∃ tx, txt x.inc h0 = tx := ⟨_, rfl⟩
              rw [htx] at hlk3
              have HBX : Hid (Below w.heap.size w (w.alloc (.cells #[.bool false, .string tx] 127))) := Lib.hid ((Below.refl _ _).alloc (Nat.le_refl _) _)
              clear hok hmay hT htx
              go_enter Try.func16, Try.ntmps16
              go_upto_region 14 with (first | (go_at_call 57; ((with_reducible refine HPL.out.mono ?_); rintro e w9 ⟨rfl, hw9⟩; have hw9 := hw9.symm; subst hw9)) | (go_at_call 10; go_loud ((with_reducible refine Calls.mono (HE.out _) ?_); rintro e w2 ⟨rfl, hb2⟩; have HB2 := Lib.hid (HBX.out.trans (hb2.mono HBX.out.size)); clear hb2)))
              have HP2 := Lib.hid (HPW.out.below HB2.out)
              have HD2 := Lib.hid (HD.out.below HB2.out)
              clear p0 p2 hlk hlk3 c0 HBX
              have p2 := HP2.out.c2
              obtain ⟨D, o, hput⟩ := HP2.out.set HOK.out ⟨h0, HH0.out.1, HH0.out.2⟩
              have HOO := Lib.hid o
              have HPU := Lib.hid hput
              have HKEY := Lib.hid (keyR HN.out.1.1)
              have HNM : Hid (N < maxLen) := Lib.hid (by have := HN.out.2; unfold maxLen; omega)
              have HTX : Hid (txt x.inc ⟨sq, true, body⟩ = T) := Lib.hid (by rw [← HT.out]; rfl)
              rw [HTX.out] at HPU
              dsimp only at HPU
              clear o hput
              go_wp2_with (first
                | (at_mapUpdate; go_loud (refine wpList_mapUpdate_own _ rfl _ _ _ 123 rfl 22 127 kdR Try.underlying123 _ m N D rfl HOO.out HNM.out _ (hval (true, T)) (KR sq) rfl rfl HKEY.out (hdat (true, T)) [] rfl ?_; intro w5 o5 g5; have H5 := Lib.hid (HPU.out w5 o5 g5); have HFG := Lib.hid (forgets_any H5.out.1 (by have := HN.out.2; omega)); clear o5 g5 p2))
                | (go_at_call 58; go_loud ((with_reducible refine HFG.out.mono ?_); rintro e w6 ⟨rfl, hp6, ho6⟩; have HP6 := Lib.hid hp6; have HO6 := Lib.hid ho6; clear hp6 ho6)))
              go_ret2
              have := HR.out
              subst this
              have hfg : (forgetP { x with L := setH x.L ⟨sq, true, body⟩ }).fr = x.fr := by unfold forgetP; split <;> rfl
              have e1 : B x.fr = q := by rw [HXS.out.2]; exact HQM.out.1
              have e2 : M x.fr = m := by rw [HXS.out.2]; exact HQM.out.2
              have hh := HD2.out.heard HXS.out.1 hfg (N' := N + 1) (Nat.le_succ _) (w' := w6) (by rw [e1, e2]; exact HP6.out) (by rw [e1, e2]; exact (H5.out.2.mono fun k _ e => .inr e).trans HO6.out)
              exact ⟨rfl, B, M, N + 1, hh.1, by omega, (OnD.of_below HB2.out).trans hh.2.1 (fun k hk => .inl hk), fun k hk => .inl (hh.2.2 k hk)⟩
        · rw [if_neg hi] at HR
          have hi' : (x.inc == inc) = false := by simpa using hi
          clear hi
          go_enter Try.func16, Try.ntmps16
          go_wp2_with (go_at_call 57; ((with_reducible refine HPL.out.mono ?_); rintro e w9 ⟨rfl, hw9⟩; have hw9 := hw9.symm; subst hw9))
          go_ret2
          have := HR.out
          subst this
          exact ⟨rfl, HBAD.out _ (Below.refl _ _)⟩
end Go.Proofs.Ytgdgonmhgpflcaa


/- A caller and who is called, side by side: what each call leaves of both. No condition but that they are not beyond any bound. -/
namespace Go.Proofs.Ytgdgonmhgpflcaa
open Go.RowKit Go.Maps Wire Rp
set_option linter.unusedVariables false
set_option linter.unusedSimpArgs false
/-- What stays behind a call of a caller's, of who is called's. -/
def KpC (bd bo : Nat) (w w' : World) : Prop := w.heap.size ≤ w'.heap.size ∧ ∀ k T A, Blk w k T A → T ≠ 143 → T ≠ 148 → (T = 101 → k < bd) → (T = 83 → k < bo) → Blk w' k T A
def KpD (w w' : World) : Prop := w.heap.size ≤ w'.heap.size ∧ ∀ k T A, Blk w k T A → T ≠ 125 → Blk w' k T A
section
variable {w0 w w' : World} {B0 bd bo b h cx hx N N' : Nat} {B Bp Mp : Int → Nat} {st : St} {s : List Pe} {vd vo : Value}
theorem mo_noblk (d : CdW w B0 cx hx Bp Mp s N) {k : Nat} (hk : MO hx Mp s k) {T : TypeId} {A : Array Value} : ¬ Blk w k T A := fun hb => by
  rcases hk with e | ⟨p, hp, e⟩
  · subst e; exact d.mp.no_cells hb
  · subst e; exact (d.pe p hp).1.mp.no_cells hb
theorem mo_lt (d : CdW w B0 cx hx Bp Mp s N) {k : Nat} (hk : MO hx Mp s k) : k < w.heap.size := by
  rcases hk with e | ⟨p, hp, e⟩
  · subst e; exact d.mp.lt
  · subst e; exact (d.pe p hp).1.mp.lt
theorem cd_onC (c : CW w B0 bd bo b h B st vd vo N) (d : CdW w B0 cx hx Bp Mp s N') (ap : ¬ MO hx Mp s h) (o : OnC B0 b h bd bo w w') : CdW w' B0 cx hx Bp Mp s N' := by
  refine d.only o (fun hs => ?_) (fun k hk hs => ?_) (fun k A hA hs => ?_)
  · rcases hs with e | e | ⟨_, A', e⟩ | ⟨_, A', e⟩ | ⟨_, A', e⟩
    · subst e; exact absurd (blk_ne d.blk c.blk) (by decide)
    · exact at_ne c.mp d.blk e.symm
    · exact absurd (blk_ne d.blk e) (by decide)
    · exact absurd (blk_ne d.blk e) (by decide)
    · exact absurd (blk_ne d.blk e) (by decide)
  · rcases hs with e | e | ⟨_, A', e⟩ | ⟨_, A', e⟩ | ⟨_, A', e⟩
    · subst e; exact mo_noblk d hk c.blk
    · subst e; exact ap hk
    · exact mo_noblk d hk e
    · exact mo_noblk d hk e
    · exact mo_noblk d hk e
  · rcases hs with e | e | ⟨_, A', e⟩ | ⟨_, A', e⟩ | ⟨_, A', e⟩
    · subst e; exact absurd (blk_ne hA c.blk) (by decide)
    · exact at_ne c.mp hA e.symm
    · exact absurd (blk_ne hA e) (by decide)
    · exact absurd (blk_ne hA e) (by decide)
    · exact absurd (blk_ne hA e) (by decide)
theorem cw_onD (c : CW w B0 bd bo b h B st vd vo N) (d : CdW w B0 cx hx Bp Mp s N') (ap : ¬ MO hx Mp s h) (o : OnD B0 (MO hx Mp s) w w') : CW w' B0 bd bo b h B st vd vo N := by
  have key : ∀ {k : Nat} {T : TypeId} {A : Array Value}, Blk w k T A → T ≠ 125 → ¬ (MO hx Mp s k ∨ (B0 ≤ k ∧ ∃ A, Blk w k 125 A)) := fun hk ht hs => by
    rcases hs with e | ⟨_, A', e⟩
    · exact mo_noblk d e hk
    · exact ht (blk_ne hk e)
  refine c.only o (key c.blk (by decide)) (fun hs => ?_) (fun x hx => key (c.cl x hx).1 (by decide)) (fun g hg => ?_) (fun g hg => ?_)
  · rcases hs with e | ⟨_, A', e⟩
    · exact ap e
    · exact at_ne c.mp e rfl
  · obtain ⟨A, hA, _⟩ := c.du_ty hg; exact key hA (by decide)
  · obtain ⟨A, hA, _⟩ := c.ov_ty hg; exact key hA (by decide)
theorem kpC_of (c : CW w B0 bd bo b h B st vd vo N) (o : OnC B0 b h bd bo w w') : KpC bd bo w w' := ⟨o.size, fun k T A hk h1 h2 h3 h4 => hk.only o fun hs => by
  rcases hs with e | e | ⟨_, A', e⟩ | ⟨g, A', e⟩ | ⟨g, A', e⟩
  · subst e; exact h1 (blk_ne hk c.blk)
  · exact at_ne c.mp hk e.symm
  · exact h2 (blk_ne hk e)
  · have := h3 (blk_ne hk e); omega
  · have := h4 (blk_ne hk e); omega⟩
theorem kpD_of (d : CdW w B0 cx hx Bp Mp s N) (o : OnD B0 (MO hx Mp s) w w') : KpD w w' := ⟨o.size, fun k T A hk h1 => hk.only o fun hs => by
  rcases hs with e | ⟨_, A', e⟩
  · exact mo_noblk d e hk
  · exact h1 (blk_ne hk e)⟩
end
/-- Both, made behind w0. -/
structure Duo (w0 w : World) (b h cx hx bd bo : Nat) (B Bp Mp : Int → Nat) (st : St) (s : List Pe) (vd vo : Value) (N : Nat) : Prop where
  cw : CW w w0.heap.size bd bo b h B st vd vo N
  cd : CdW w w0.heap.size cx hx Bp Mp s N
  bel : Below w0.heap.size w0 w
  ap : ¬ MO hx Mp s h
theorem CW.mono {w : World} {B0 bd bo b h N N' : Nat} {B : Int → Nat} {s : St} {vd vo : Value} (c : CW w B0 bd bo b h B s vd vo N) (hN : N ≤ N') : CW w B0 bd bo b h B s vd vo N' := ⟨c.blk, c.mp.mono hN, c.cl, c.inj, c.du, c.ov, c.ge, c.sz, c.inv⟩
section
variable {w0 w w' : World} {bd bo b h cx hx N N' : Nat} {B Bp Mp : Int → Nat} {st : St} {s : List Pe} {vd vo : Value}
theorem Duo.below (d : Duo w0 w b h cx hx bd bo B Bp Mp st s vd vo N) (hb : Below w.heap.size w w') : Duo w0 w' b h cx hx bd bo B Bp Mp st s vd vo N := ⟨d.cw.below hb, d.cd.below hb, d.bel.trans (hb.mono d.bel.size), d.ap⟩
theorem Duo.alloc (d : Duo w0 w b h cx hx bd bo B Bp Mp st s vd vo N) (o : Obj) : Duo w0 (w.alloc o) b h cx hx bd bo B Bp Mp st s vd vo N := d.below ((Below.refl _ _).alloc (Nat.le_refl _) o)
theorem Duo.mono (d : Duo w0 w b h cx hx bd bo B Bp Mp st s vd vo N) (hN : N ≤ N') : Duo w0 w b h cx hx bd bo B Bp Mp st s vd vo N' := ⟨d.cw.mono hN, d.cd.mono hN, d.bel, d.ap⟩
theorem Duo.onC (d : Duo w0 w b h cx hx bd bo B Bp Mp st s vd vo N) {bd' bo' : Nat} {B' : Int → Nat} {st' : St} {vd' vo' : Value} (hN : N ≤ N') (c : CW w' w0.heap.size bd' bo' b h B' st' vd' vo' N') (o : OnC w0.heap.size b h bd bo w w') :
    Duo w0 w' b h cx hx bd' bo' B' Bp Mp st' s vd' vo' N' ∧ KpC bd bo w w' :=
  ⟨⟨c, (cd_onC d.cw d.cd d.ap o).mono hN, d.bel.trans (OnC.below d.cw o d.bel.size), d.ap⟩, kpC_of d.cw o⟩
theorem Duo.onD (d : Duo w0 w b h cx hx bd bo B Bp Mp st s vd vo N) {Bp' Mp' : Int → Nat} {s' : List Pe} (hN : N ≤ N') (c : CdW w' w0.heap.size cx hx Bp' Mp' s' N') (o : OnD w0.heap.size (MO hx Mp s) w w') (hm : ∀ k, MO hx Mp' s' k → MO hx Mp s k ∨ w.heap.size ≤ k) :
    Duo w0 w' b h cx hx bd bo B Bp' Mp' st s' vd vo N' ∧ KpD w w' :=
  ⟨⟨(cw_onD d.cw d.cd d.ap o).mono hN, c, d.bel.trans (OnD.below d.cd o d.bel.size), fun hk => by
    rcases hm h hk with e | e
    · exact d.ap e
    · have := d.cw.mp.lt; omega⟩, kpD_of d.cd o⟩
def DuoC (w0 w : World) (b h cx hx bd bo : Nat) (Bp Mp : Int → Nat) (st : St) (s : List Pe) (N bd' bo' : Nat) (P : Value → Value → Prop) (w' : World) : Prop := ∃ B' vd' vo', P vd' vo' ∧ Duo w0 w' b h cx hx bd' bo' B' Bp Mp st s vd' vo' N ∧ KpC bd bo w w'
theorem duo_call (d : Duo w0 w b h cx hx bd bo B Bp Mp st s vd vo N) {wh now : Int} {body : ByteArray} (hn : st.du.length ≤ 1000000) (hN : N ≤ 900000) {r : Int × Int × St} (hr : callS st wh body now = r) :
    Calls Try.prog 30 #[.pointer (some ⟨b, 0, none⟩), .int .i64 wh, .string body, .int .i64 now] w fun e w' => e = .returned (.tuple #[.int .u64 r.1, .int .i64 r.2.1]) ∧ DuoC w0 w b h cx hx bd bo Bp Mp r.2.2 s (N + 1) bd bo (fun _ _ => True) w' := by
  refine (call_any d.cw (by omega) (by omega) hr).mono ?_
  rintro e w' ⟨rfl, B', vd', N', hc, hn', ho⟩
  have := d.onC (Nat.le_succ N) (hc.mono hn') ho
  exact ⟨rfl, _, _, _, trivial, this.1, this.2⟩
theorem duo_take (d : Duo w0 w b h cx hx bd bo B Bp Mp st s vd vo N) {fr : Int} {p : Pk} (hu : U64 p.seq) (hn : st.ov.length ≤ 1000000) {r : Bool × Int × St} (hr : takeS st fr p = r) :
    Calls Try.prog 36 #[.pointer (some ⟨b, 0, none⟩), .int .i64 fr, pv p] w fun e w' => e = .returned (.tuple #[.bool r.1, .int .i64 r.2.1]) ∧ DuoC w0 w b h cx hx bd bo Bp Mp r.2.2 s N bd bo (fun _ _ => True) w' := by
  refine (take_any d.cw hu (by omega) hr).mono ?_
  rintro e w' ⟨rfl, vo', hc, ho⟩
  have := d.onC (Nat.le_refl N) hc ho
  exact ⟨rfl, _, _, _, trivial, this.1, this.2⟩
theorem duo_tick (d : Duo w0 w b h cx hx bd bo B Bp Mp st s vd vo N) {now : Int} (hn : st.du.length ≤ 1000000 ∧ st.ov.length ≤ 1000000) {r : Int × St} (hr : tickS st now = r) :
    Calls Try.prog 28 #[.pointer (some ⟨b, 0, none⟩), .int .i64 now] w fun e w' => e = .returned (.int .i64 r.1) ∧ DuoC w0 w b h cx hx bd bo Bp Mp r.2 s N bd bo (fun _ _ => True) w' := by
  subst hr
  refine (tick_any d.cw hn).mono ?_
  rintro e w' ⟨rfl, vd', vo', hc, ho⟩
  have := d.onC (Nat.le_refl N) hc ho
  exact ⟨rfl, _, _, _, trivial, this.1, this.2⟩
theorem onC_b {B0 : Nat} (o : Only (· = b) w w') : OnC B0 b h bd bo w w' := o.mono fun k _ e => .inl e
theorem duo_due (d : Duo w0 w b h cx hx bd bo B Bp Mp st s vd vo N) :
    Calls Try.prog 31 #[.pointer (some ⟨b, 0, none⟩)] w fun e w' => e = .returned vd ∧ w'.ownsRow bd 101 2 vd st.du.length (rowsD st.du) ∧ (∀ g, vd.ownBlock = some g → g < w.heap.size) ∧ DuoC w0 w b h cx hx bd bo Bp Mp { st with du := [] } s N w.heap.size bo (fun _ v => v = vo) w' := by
  refine (due_any d.cw).mono ?_
  rintro e w' ⟨rfl, hc, hrow, ho⟩
  have := d.onC (Nat.le_refl N) hc (onC_b ho)
  exact ⟨rfl, hrow, fun g hg => by obtain ⟨A, hA, _⟩ := d.cw.du_ty hg; exact hA.lt, _, _, _, rfl, this.1, this.2⟩
theorem duo_ended (d : Duo w0 w b h cx hx bd bo B Bp Mp st s vd vo N) :
    Calls Try.prog 32 #[.pointer (some ⟨b, 0, none⟩)] w fun e w' => e = .returned vo ∧ w'.ownsRow bo 83 4 vo st.ov.length (rowsO st.ov) ∧ (∀ g, vo.ownBlock = some g → g < w.heap.size) ∧ DuoC w0 w b h cx hx bd bo Bp Mp { st with ov := [] } s N bd w.heap.size (fun v _ => v = vd) w' := by
  refine (ended_any d.cw).mono ?_
  rintro e w' ⟨rfl, hc, hrow, ho⟩
  have := d.onC (Nat.le_refl N) hc (onC_b ho)
  exact ⟨rfl, hrow, fun g hg => by obtain ⟨A, hA, _⟩ := d.cw.ov_ty hg; exact hA.lt, _, _, _, rfl, this.1, this.2⟩
def DuoD (w0 w : World) (b h cx hx bd bo : Nat) (B : Int → Nat) (st : St) (s : List Pe) (vd vo : Value) (N : Nat) (w' : World) : Prop := ∃ Bp' Mp', Duo w0 w' b h cx hx bd bo B Bp' Mp' st s vd vo N ∧ KpD w w'
theorem duo_dtake (d : Duo w0 w b h cx hx bd bo B Bp Mp st s vd vo N) {fr : Int} {p : Pk} (hu : U64 p.seq ∧ I64 fr) (hN : N ≤ 900000) {r : (Int × ByteArray × Int) × List Pe} (hr : takeD s fr p = r) :
    Calls Try.prog 18 #[.pointer (some ⟨cx, 0, none⟩), .int .i64 fr, pv p] w fun e w' => e = .returned (.tuple #[.int .u8 r.1.1, .string r.1.2.1, .int .i64 r.1.2.2]) ∧ DuoD w0 w b h cx hx bd bo B st r.2 vd vo (N + 2) w' := by
  refine (dtake_any d.cd hu hN hr).mono ?_
  rintro e w' ⟨rfl, B', M', N', hc, hn', ho, hm⟩
  have := d.onD (Nat.le_add_right N 2) (hc.mono hn') ho hm
  exact ⟨rfl, _, _, this.1, this.2⟩
theorem duo_ans (d : Duo w0 w b h cx hx bd bo B Bp Mp st s vd vo N) {fr inc sq : Int} {body : ByteArray} (hu : U64 sq ∧ I64 fr) (hN : N ≤ 900000) {r : (ByteArray × Int) × List Pe} (hr : ansD s fr inc sq body = r) :
    Calls Try.prog 16 #[.pointer (some ⟨cx, 0, none⟩), .int .i64 fr, .int .u64 inc, .int .u64 sq, .string body] w fun e w' => e = .returned (.tuple #[.string r.1.1, .int .i64 r.1.2]) ∧ DuoD w0 w b h cx hx bd bo B st r.2 vd vo (N + 2) w' := by
  refine (ans_any d.cd hu hN hr).mono ?_
  rintro e w' ⟨rfl, B', M', N', hc, hn', ho, hm⟩
  have := d.onD (Nat.le_add_right N 2) (hc.mono hn') ho hm
  exact ⟨rfl, _, _, this.1, this.2⟩
/-- Both made. -/
theorem duo_new {w1 w2 : World} {s0 : St} (h1 : NewCPost w w.heap.size s0 (.returned (.tuple #[.pointer (some ⟨b, 0, none⟩), .int .i64 0])) w1) (h2 : NewDPost w1 w.heap.size (.returned (.pointer (some ⟨cx, 0, none⟩))) w2) : ∃ h hx, Duo w w2 b h cx hx w.heap.size w.heap.size (fun _ => 0) (fun _ => 0) (fun _ => 0) s0 [] (.slice none 0 0) (.slice none 0 0) 0 := by
  obtain ⟨b', h, e, hc, hb⟩ := h1
  obtain ⟨c', hx, e2, hd, hb2, _, hxl⟩ := h2
  injection e with e
  injection e with e
  have e3 : #[Value.pointer (some ⟨b, 0, none⟩), .int .i64 0][0]? = #[Value.pointer (some ⟨b', 0, none⟩), .int .i64 0][0]? := by rw [e]
  have e4 : b = b' := by simpa using e3
  have e5 : cx = c' := by simpa using e2
  subst e4 e5
  refine ⟨h, hx, hc.below hb2, hd, hb.trans (hb2.mono hb.size), fun hk => ?_⟩
  rcases hk with e | ⟨p, hp, _⟩
  · have := hc.mp.lt; omega
  · cases hp
end
end Go.Proofs.Ytgdgonmhgpflcaa
