import Derived.Test.YtgdgonmhgpflcaaRpcP

/- The walk of who is called's Answer. No condition but that he is one, not beyond any bound. -/
namespace Go.Proofs.Ytgdgonmhgpflcaa
open Go.RowKit Go.Maps Wire Rp
set_option linter.unusedVariables false
set_option linter.unusedSimpArgs false
def AnsP (w : World) (B0 c h : Nat) (M : Int → Nat) (s : List Pe) (N : Nat) (r : (ByteArray × Int) × List Pe) (e : Ending) (w' : World) : Prop :=
  e = .returned (.tuple #[.string r.1.1, .int .i64 r.1.2]) ∧ DPost w B0 c h M s N r.2 w'
set_option maxRecDepth 100000 in
theorem ans_nil (a b c d : Value) (w : World) : Calls Try.prog 16 #[.pointer none, a, b, c, d] w fun e w' => e = .returned (.tuple #[.string ⟨#[]⟩, .int .i64 1]) ∧ w' = w := by
  go_enter Try.func16, Try.ntmps16
  go_wp2_with fail
  go_ret2
  exact ⟨rfl, rfl⟩
set_option maxRecDepth 100000 in
set_option maxHeartbeats 4000000 in
theorem ans_any {w : World} {B0 c h N : Nat} {B M : Int → Nat} {s : List Pe} (d : CdW w B0 c h B M s N) {fr inc sq : Int} {body : ByteArray} (hu : U64 sq ∧ I64 fr) (hN : N ≤ 900000) {r : (ByteArray × Int) × List Pe} (hr : ansD s fr inc sq body = r) :
    Calls Try.prog 16 #[.pointer (some ⟨c, 0, none⟩), .int .i64 fr, .int .u64 inc, .int .u64 sq, .string body] w (AnsP w B0 c h M s N r) := by
  have HR := Lib.hid hr
  have HD := Lib.hid d
  have HPL := Lib.hid (place_any fr w)
  have HBAD : Hid (∀ w', Below w.heap.size w w' → DPost w B0 c h M s N s w') := Lib.hid fun w' hb => ⟨B, M, N, d.below hb, by omega, OnD.of_below hb, fun k hk => .inl hk⟩
  have HN := Lib.hid (And.intro hu hN)
  have c0 := d.c0
  have hcmp := mapnilP h
  unfold ansD at HR
  clear hr hu hN
  cases hpl : placeB fr with
  | false =>
    rw [hpl] at HPL HR
    simp only [if_true] at HR
    clear hpl d
    go_enter Try.func16, Try.ntmps16
    go_wp2_with (go_at_call 57; ((with_reducible refine HPL.out.mono ?_); rintro e w9 ⟨rfl, hw9⟩; have hw9 := hw9.symm; subst hw9))
    go_ret2
    have := HR.out
    subst this
    exact ⟨rfl, HBAD.out _ (Below.refl _ _)⟩
  | true =>
    rw [hpl] at HPL HR
    simp only [Bool.true_eq_false, if_false] at HR
    clear hpl
    by_cases hbig : 8192 < body.size
    · have hbig' : (8192 : Int) < (body.size : Int) := by omega
      rw [if_pos hbig] at HR
      clear hbig d
      go_enter Try.func16, Try.ntmps16
      go_wp2_with (go_at_call 57; ((with_reducible refine HPL.out.mono ?_); rintro e w9 ⟨rfl, hw9⟩; have hw9 := hw9.symm; subst hw9))
      go_ret2
      have := HR.out
      subst this
      exact ⟨rfl, HBAD.out _ (Below.refl _ _)⟩
    · have hbig' : ¬ (8192 : Int) < (body.size : Int) := by omega
      have HBG := Lib.hid hbig
      rw [if_neg hbig] at HR
      clear hbig
      cases hl : lookP s fr with
      | none =>
        have hlk := mpP_miss d.mp (keysP_no hl) HN.out.1.2
        rw [hl] at HR
        dsimp only at HR
        clear hl d
        go_enter Try.func16, Try.ntmps16
        go_wp2_with (go_at_call 57; ((with_reducible refine HPL.out.mono ?_); rintro e w9 ⟨rfl, hw9⟩; have hw9 := hw9.symm; subst hw9))
        go_ret2
        have := HR.out
        subst this
        exact ⟨rfl, HBAD.out _ (Below.refl _ _)⟩
      | some x =>
        obtain ⟨hx, hxf⟩ := lookP_some hl
        have hlk := mpP_hit d.mp (keysP_mem hx) (by show I64 x.fr; rw [hxf]; exact HN.out.1.2)
        dsimp only at hlk
        rw [hxf] at hlk
        have hpw := (d.pe x hx).1
        rw [hxf] at hpw
        rw [hl] at HR
        dsimp only at HR
        have HXS := Lib.hid (And.intro hx hxf)
        have HPW := Lib.hid hpw
        have p0 := hpw.c0
        have p2 := hpw.c2
        obtain ⟨q, hq⟩ : ∃ q, B fr = q := ⟨_, rfl⟩
        obtain ⟨m, hm⟩ : ∃ m, M fr = m := ⟨_, rfl⟩
        rw [hq, hm] at HPW
        rw [hq] at hlk p0 p2
        rw [hm] at p2
        have HQM := Lib.hid (And.intro hq hm)
        clear hpw hq hm hl d hx hxf
        by_cases hi : x.inc = inc
        · rw [if_pos hi] at HR
          subst hi
          cases hlh : lookH x.L sq with
          | none =>
            have hlk3 := HPW.out.miss HN.out.1.1 (lookH_none hlh)
            unfold hval at hlk3
            dsimp only at hlk3
            rw [hlh] at HR
            dsimp only at HR
            clear hlh
            go_enter Try.func16, Try.ntmps16
            go_wp2_with (go_at_call 57; ((with_reducible refine HPL.out.mono ?_); rintro e w9 ⟨rfl, hw9⟩; have hw9 := hw9.symm; subst hw9))
            go_ret2
            have := HR.out
            subst this
            exact ⟨rfl, HBAD.out _ ((Below.refl _ _).alloc (Nat.le_refl _) _)⟩
          | some h0 =>
            obtain ⟨hh0, hhs⟩ := lookH_some hlh
            have hlk3 := HPW.out.hit hh0
            rw [hhs] at hlk3
            unfold hval at hlk3
            dsimp only at hlk3
            rw [hlh] at HR
            dsimp only at HR
            have HH0 := Lib.hid (And.intro hh0 hhs)
            clear hlh hh0 hhs
            cases hdn : h0.dn with
            | true =>
              rw [hdn] at HR hlk3
              simp only [if_true] at HR
              go_enter Try.func16, Try.ntmps16
              go_wp2_with (go_at_call 57; ((with_reducible refine HPL.out.mono ?_); rintro e w9 ⟨rfl, hw9⟩; have hw9 := hw9.symm; subst hw9))
              go_ret2
              have := HR.out
              subst this
              exact ⟨rfl, HBAD.out _ ((Below.refl _ _).alloc (Nat.le_refl _) _)⟩
            | false =>
              rw [hdn] at HR hlk3
              simp only [Bool.false_eq_true, if_false] at HR
              have hok : hOk ⟨sq, true, body⟩ := by
                have := HPW.out.inv.ok h0 HH0.out.1
                unfold hOk at *
                dsimp only
                rw [HH0.out.2] at this
                have := HBG.out
                omega
              have hmay : mayP ⟨true, x.inc, sq, body⟩ = true := by
                have h1 := HPW.out.inv.inc
                unfold hOk at hok
                unfold mayP
                simp only [Bool.and_eq_true, decide_eq_true_eq]
                exact ⟨h1.1, h1.2, hok.1, hok.2.1, hok.2.2⟩
              have HE := Lib.hid (fun w => penc_ok hmay w)
              have HOK := Lib.hid hok
              unfold pv pcells at HE
              dsimp only at HE
              generalize hT : pkS ⟨true, x.inc, sq, body⟩ = T at *
              have HT := Lib.hid hT
              obtain ⟨tx, htx⟩ : ∃ tx, txt x.inc h0 = tx := ⟨_, rfl⟩
              rw [htx] at hlk3
              have HBX : Hid (Below w.heap.size w (w.alloc (.cells #[.bool false, .string tx] 127))) := Lib.hid ((Below.refl _ _).alloc (Nat.le_refl _) _)
              clear hok hmay hT htx
              go_enter Try.func16, Try.ntmps16
              go_upto_region 14 with (first | (go_at_call 57; ((with_reducible refine HPL.out.mono ?_); rintro e w9 ⟨rfl, hw9⟩; have hw9 := hw9.symm; subst hw9)) | (go_at_call 10; go_loud ((with_reducible refine Calls.mono (HE.out _) ?_); rintro e w2 ⟨rfl, hb2⟩; have HB2 := Lib.hid (HBX.out.trans (hb2.mono HBX.out.size)); clear hb2)))
              have HP2 := Lib.hid (HPW.out.below HB2.out)
              have HD2 := Lib.hid (HD.out.below HB2.out)
              clear p0 p2 hlk hlk3 c0 HBX
              have p2 := HP2.out.c2
              obtain ⟨D, o, hput⟩ := HP2.out.set HOK.out ⟨h0, HH0.out.1, HH0.out.2⟩
              have HOO := Lib.hid o
              have HPU := Lib.hid hput
              have HKEY := Lib.hid (keyR HN.out.1.1)
              have HNM : Hid (N < maxLen) := Lib.hid (by have := HN.out.2; unfold maxLen; omega)
              have HTX : Hid (txt x.inc ⟨sq, true, body⟩ = T) := Lib.hid (by rw [← HT.out]; rfl)
              rw [HTX.out] at HPU
              dsimp only at HPU
              clear o hput
              go_wp2_with (first
                | (at_mapUpdate; go_loud (refine wpList_mapUpdate_own _ rfl _ _ _ 123 rfl 22 127 kdR Try.underlying123 _ m N D rfl HOO.out HNM.out _ (hval (true, T)) (KR sq) rfl rfl HKEY.out (hdat (true, T)) [] rfl ?_; intro w5 o5 g5; have H5 := Lib.hid (HPU.out w5 o5 g5); have HFG := Lib.hid (forgets_any H5.out.1 (by have := HN.out.2; omega)); clear o5 g5 p2))
                | (go_at_call 58; go_loud ((with_reducible refine HFG.out.mono ?_); rintro e w6 ⟨rfl, hp6, ho6⟩; have HP6 := Lib.hid hp6; have HO6 := Lib.hid ho6; clear hp6 ho6)))
              go_ret2
              have := HR.out
              subst this
              have hfg : (forgetP { x with L := setH x.L ⟨sq, true, body⟩ }).fr = x.fr := by unfold forgetP; split <;> rfl
              have e1 : B x.fr = q := by rw [HXS.out.2]; exact HQM.out.1
              have e2 : M x.fr = m := by rw [HXS.out.2]; exact HQM.out.2
              have hh := HD2.out.heard HXS.out.1 hfg (N' := N + 1) (Nat.le_succ _) (w' := w6) (by rw [e1, e2]; exact HP6.out) (by rw [e1, e2]; exact (H5.out.2.mono fun k _ e => .inr e).trans HO6.out)
              exact ⟨rfl, B, M, N + 1, hh.1, by omega, (OnD.of_below HB2.out).trans hh.2.1 (fun k hk => .inl hk), fun k hk => .inl (hh.2.2 k hk)⟩
        · rw [if_neg hi] at HR
          have hi' : (x.inc == inc) = false := by simpa using hi
          clear hi
          go_enter Try.func16, Try.ntmps16
          go_wp2_with (go_at_call 57; ((with_reducible refine HPL.out.mono ?_); rintro e w9 ⟨rfl, hw9⟩; have hw9 := hw9.symm; subst hw9))
          go_ret2
          have := HR.out
          subst this
          exact ⟨rfl, HBAD.out _ (Below.refl _ _)⟩
end Go.Proofs.Ytgdgonmhgpflcaa
