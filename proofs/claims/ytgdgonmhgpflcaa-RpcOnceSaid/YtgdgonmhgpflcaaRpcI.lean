import Derived.Test.YtgdgonmhgpflcaaRpcH
import Derived.BigRegion

/- The walk of a caller's Call. No condition but that the caller is one, not beyond any bound. -/
namespace Go.Proofs.Ytgdgonmhgpflcaa
open Go.RowKit Go.Maps Wire Rp
set_option linter.unusedVariables false
set_option linter.unusedSimpArgs false
section
variable {w w' w1 : World} {B0 bd bo b h N : Nat} {B : Int → Nat} {s : St} {vd vo : Value}
def addB (B : Int → Nat) (x : Int) (Q : Nat) : Int → Nat := fun k => if k = x then Q else B k
theorem addB_self (B : Int → Nat) (x : Int) (Q : Nat) : addB B x Q x = Q := if_pos rfl
theorem addB_ne {B : Int → Nat} {x k : Int} {Q : Nat} (h : k ≠ x) : addB B x Q k = B k := if_neg h
/-- A call more: its block, its place in the map. -/
theorem CW.add (c : CW w B0 bd bo b h B s vd vo N) {x : C0} (hx : x.seq = s.last + 1) (hok : C0ok { s with last := s.last + 1 } x) (hlen : s.L.length < 64) (hl : s.last < 4611686018427387904) {W : World}
    (hb : Blk W b 143 #[.int .u64 s.inc, .int .i64 s.wait, .int .i64 s.most, .int .i64 s.tries, .int .u64 (s.last + 1), .map (some h), vd, vo]) (ho : Only (· = b) w W) {Q : Nat} (hQ : Blk W Q 148 (ccells x)) (hQB : w.heap.size ≤ Q) :
    ∃ D, W.ownsMap Try.prog 22 ptE h N D ∧ ∀ w5, w5.ownsMap Try.prog 22 ptE h (N + 1) (D.put (KR x.seq) (.lit (.int .i64 (Q : Int)))) → W.grownBy w5 (some h) →
      CW w5 B0 bd bo b h (addB B x.seq Q) { s with last := s.last + 1, L := s.L ++ [x] } vd vo (N + 1) ∧ OnC B0 b h bd bo w w5 := by
  have hm := c.mp.only ho c.hb
  have hsz := ho.size
  have hne : ∀ {k : Nat} {T : TypeId} {A : Array Value}, Blk w k T A → T ≠ 143 → ¬ k = b := fun hk ht e => by subst e; exact ht (blk_ne hk c.blk)
  have hfr : ∀ y ∈ s.L, y.seq ≠ x.seq := fun y hy e => by have := (c.inv.ok y hy).2.1; omega
  have hlt : ∀ y ∈ s.L, B y.seq ≠ Q := fun y hy e => by have := (c.cl y hy).1.lt; omega
  obtain ⟨D, o, h1, h2, h3⟩ := hm
  refine ⟨D, o, fun w5 o5 g5 => ?_⟩
  have hoh := only_map g5
  have hmW : Ml.At layC Try.prog 22 W h (keysC B s.L) N := ⟨D, o, h1, h2, h3⟩
  have hnm : ∀ {k : Nat} {T : TypeId} {A : Array Value}, Blk W k T A → ¬ k = h := fun hk e => at_ne hmW hk e.symm
  have hkeys : keysC (addB B x.seq Q) (s.L ++ [x]) = keysC B s.L ++ [(x.seq, Q)] := by
    unfold keysC
    rw [List.map_append]
    congr 1
    · exact List.map_congr_left fun y hy => by rw [addB_ne (hfr y hy)]
    · simp [addB_self]
  have hm5 : Ml.At layC Try.prog 22 w5 h (keysC (addB B x.seq Q) (s.L ++ [x])) (N + 1) := by
    rw [hkeys]
    refine Ml.At.of_put (l := layC) (g := (x.seq, Q)) kdR o h1 h2 h3 ?_ o5
    rintro ⟨a, ha, e⟩
    have e' : KR a.1 = KR x.seq := e
    obtain ⟨y, hy, e2⟩ := keys_has.1 ⟨a, ha, rfl⟩
    unfold KR at e'
    injection e' with _ e'
    exact hfr y hy (by rw [e2, e'])
  refine ⟨⟨hb.only hoh (hnm hb), hm5, fun y hy => ?_, fun y hy z hz => ?_, ?_, ?_, c.ge, ⟨by have := c.sz; have := hoh.size; omega, by have := c.sz; have := hoh.size; omega⟩, ?_⟩, ?_⟩
  · rcases List.mem_append.1 hy with hy | hy
    · rw [addB_ne (hfr y hy)]
      have h4 := c.cl y hy
      have h5 := h4.1.only ho (hne h4.1 (by decide))
      exact ⟨h5.only hoh (hnm h5), h4.2⟩
    · simp at hy; subst hy
      rw [addB_self]
      exact ⟨hQ.only hoh (hnm hQ), by have := c.ge; have := c.blk.lt; have := c.sz; omega⟩
  · rcases List.mem_append.1 hy with h4 | h4 <;> rcases List.mem_append.1 hz with h5 | h5
    · rw [addB_ne (hfr y h4), addB_ne (hfr z h5)]; exact c.inj y h4 z h5
    · have e5 : z = x := by simpa using h5
      rw [addB_ne (hfr y h4), e5, addB_self]; intro e; exact absurd e (hlt y h4)
    · have e4 : y = x := by simpa using h4
      rw [addB_ne (hfr z h5), e4, addB_self]; intro e; exact absurd e.symm (hlt z h5)
    · have e4 : y = x := by simpa using h4
      have e5 : z = x := by simpa using h5
      intro _; rw [e4, e5]
  · exact owns_only (owns_only c.du ho fun g hg => by obtain ⟨A, hA, _⟩ := c.du_ty hg; exact hne hA (by decide)) hoh fun g hg => by
      obtain ⟨A, hA, _⟩ := c.du_ty hg
      exact hnm (hA.only ho (hne hA (by decide)))
  · exact owns_only (owns_only c.ov ho fun g hg => by obtain ⟨A, hA, _⟩ := c.ov_ty hg; exact hne hA (by decide)) hoh fun g hg => by
      obtain ⟨A, hA, _⟩ := c.ov_ty hg
      exact hnm (hA.only ho (hne hA (by decide)))
  · have hi := c.inv
    refine ⟨hi.inc, hi.wait, hi.most, hi.tries, ?_, ?_, ?_, fun y hy => ?_⟩
    · have := hi.last; dsimp only; omega
    · simp; omega
    · refine List.pairwise_append.2 ⟨hi.ris, List.pairwise_singleton _ _, fun y hy z hz => ?_⟩
      simp at hz; subst hz
      have := (hi.ok y hy).2.1; omega
    · rcases List.mem_append.1 hy with hy | hy
      · have := hi.ok y hy; unfold C0ok at *; dsimp only at *; omega
      · simp at hy; subst hy; exact hok
  · exact OnC.trans (ho.mono fun k _ e => .inl e) (hoh.mono fun k _ e => .inr (.inl e))
theorem setIf4 (a0 a1 a2 a3 a4 a5 a6 a7 v : Value) : (#[a0, a1, a2, a3, a4, a5, a6, a7] : Array Value).setIfInBounds 4 v = #[a0, a1, a2, a3, v, a5, a6, a7] := rfl
def CallP (w : World) (B0 bd bo b h : Nat) (vo : Value) (N : Nat) (r : Int × Int × St) (e : Ending) (w' : World) : Prop :=
  e = .returned (.tuple #[.int .u64 r.1, .int .i64 r.2.1]) ∧ ∃ B' vd' N', CW w' B0 bd bo b h B' r.2.2 vd' vo N' ∧ N' ≤ N + 1 ∧ OnC B0 b h bd bo w w'
set_option maxRecDepth 100000 in
theorem call_nil (x y z : Value) (w : World) : Calls Try.prog 30 #[.pointer none, x, y, z] w fun e w' => e = .returned (.tuple #[.int .u64 0, .int .i64 1]) ∧ w' = w := by
  go_enter Try.func30, Try.ntmps30
  go_wp2_with (go_at_call 64; ((with_reducible refine (made_nil _).mono ?_); rintro e w' ⟨rfl, rfl⟩))
  go_ret2
  exact ⟨rfl, rfl⟩
set_option maxRecDepth 100000 in
set_option maxHeartbeats 2000000 in
theorem call_any (c : CW w B0 bd bo b h B s vd vo N) {wh now : Int} {body : ByteArray} (hn : s.du.length < 2147483648) (hN : N ≤ 1000000) {r : Int × Int × St} (hr : callS s wh body now = r) :
    Calls Try.prog 30 #[.pointer (some ⟨b, 0, none⟩), .int .i64 wh, .string body, .int .i64 now] w (CallP w B0 bd bo b h vo N r) := by
  have HR := Lib.hid hr
  have HC := Lib.hid c
  have HMD := Lib.hid (made_any c)
  have HPL := Lib.hid (place_any wh w)
  have HTM := Lib.hid (time_any now w)
  have HN := Lib.hid (And.intro hn hN)
  unfold callS at HR
  clear hr hn hN
  cases hpl : placeB wh with
  | false =>
    rw [hpl] at HPL HR
    simp only [Bool.false_and, if_true] at HR
    clear hpl c
    go_enter Try.func30, Try.ntmps30
    go_wp2_with (first | (go_at_call 64; ((with_reducible refine HMD.out.mono ?_); rintro e w9 ⟨rfl, hw9⟩; have hw9 := hw9.symm; subst hw9)) | (go_at_call 57; ((with_reducible refine HPL.out.mono ?_); rintro e w9 ⟨rfl, hw9⟩; have hw9 := hw9.symm; subst hw9)))
    go_ret2
    have := HR.out
    subst this
    exact ⟨rfl, _, _, _, HC.out, Nat.le_succ _, OnC.refl _ _ _ _ _ _⟩
  | true =>
    cases htm : timeB now with
    | false =>
      rw [hpl] at HPL
      rw [htm] at HTM
      rw [hpl, htm] at HR
      simp only [Bool.and_false, if_true] at HR
      clear hpl htm c
      go_enter Try.func30, Try.ntmps30
      go_wp2_with (first | (go_at_call 64; ((with_reducible refine HMD.out.mono ?_); rintro e w9 ⟨rfl, hw9⟩; have hw9 := hw9.symm; subst hw9)) | (go_at_call 57; ((with_reducible refine HPL.out.mono ?_); rintro e w9 ⟨rfl, hw9⟩; have hw9 := hw9.symm; subst hw9)) | (go_at_call 65; ((with_reducible refine HTM.out.mono ?_); rintro e w9 ⟨rfl, hw9⟩; have hw9 := hw9.symm; subst hw9)))
      go_ret2
      have := HR.out
      subst this
      exact ⟨rfl, _, _, _, HC.out, Nat.le_succ _, OnC.refl _ _ _ _ _ _⟩
    | true =>
      rw [hpl] at HPL
      have HPV := Lib.hid hpl
      have HTV := Lib.hid htm
      rw [htm] at HTM
      rw [hpl, htm] at HR
      simp only [Bool.and_self, Bool.true_eq_false, if_false] at HR
      clear hpl htm
      have c5 := c.c5
      have c4 := c.c4
      obtain ⟨D, o, o1, o2, o3⟩ := c.mp
      have HO := Lib.hid o
      have hlen : Maps.size D = s.L.length := by rw [o3]; unfold keysC; rw [List.length_map]
      clear c o o1 o2 o3
      by_cases hbig : 8192 < body.size
      · have hbig' : (8192 : Int) < (body.size : Int) := by omega
        rw [if_pos hbig] at HR
        clear hbig
        go_enter Try.func30, Try.ntmps30
        go_wp2_with (first | (go_at_call 64; ((with_reducible refine HMD.out.mono ?_); rintro e w9 ⟨rfl, hw9⟩; have hw9 := hw9.symm; subst hw9)) | (go_at_call 57; ((with_reducible refine HPL.out.mono ?_); rintro e w9 ⟨rfl, hw9⟩; have hw9 := hw9.symm; subst hw9)) | (go_at_call 65; ((with_reducible refine HTM.out.mono ?_); rintro e w9 ⟨rfl, hw9⟩; have hw9 := hw9.symm; subst hw9)))
        go_ret2
        have := HR.out
        subst this
        exact ⟨rfl, _, _, _, HC.out, Nat.le_succ _, OnC.refl _ _ _ _ _ _⟩
      · have hbig' : ¬ (8192 : Int) < (body.size : Int) := by omega
        have HBG := Lib.hid hbig
        rw [if_neg hbig] at HR
        clear hbig
        by_cases hfull : 64 ≤ s.L.length
        · have hf' : (64 : Int) ≤ (s.L.length : Int) := by omega
          rw [if_pos hfull] at HR
          clear hfull
          go_enter Try.func30, Try.ntmps30
          go_wp2_with (first | (go_at_call 64; ((with_reducible refine HMD.out.mono ?_); rintro e w9 ⟨rfl, hw9⟩; have hw9 := hw9.symm; subst hw9)) | (go_at_call 57; ((with_reducible refine HPL.out.mono ?_); rintro e w9 ⟨rfl, hw9⟩; have hw9 := hw9.symm; subst hw9)) | (go_at_call 65; ((with_reducible refine HTM.out.mono ?_); rintro e w9 ⟨rfl, hw9⟩; have hw9 := hw9.symm; subst hw9)) | (at_len; refine wpList_len_own _ rfl _ 140 rfl 22 141 Try.underlying140 _ h N D rfl HO.out ?_; rw [hlen]))
          go_ret2
          have := HR.out
          subst this
          exact ⟨rfl, _, _, _, HC.out, Nat.le_succ _, OnC.refl _ _ _ _ _ _⟩
        · have hf' : ¬ (64 : Int) ≤ (s.L.length : Int) := by omega
          have HFU := Lib.hid hfull
          rw [if_neg hfull] at HR
          clear hfull
          by_cases hl : 4611686018427387904 ≤ s.last
          · rw [if_pos hl] at HR
            go_enter Try.func30, Try.ntmps30
            go_wp2_with (first | (go_at_call 64; ((with_reducible refine HMD.out.mono ?_); rintro e w9 ⟨rfl, hw9⟩; have hw9 := hw9.symm; subst hw9)) | (go_at_call 57; ((with_reducible refine HPL.out.mono ?_); rintro e w9 ⟨rfl, hw9⟩; have hw9 := hw9.symm; subst hw9)) | (go_at_call 65; ((with_reducible refine HTM.out.mono ?_); rintro e w9 ⟨rfl, hw9⟩; have hw9 := hw9.symm; subst hw9)) | (at_len; refine wpList_len_own _ rfl _ 140 rfl 22 141 Try.underlying140 _ h N D rfl HO.out ?_; rw [hlen]))
            go_ret2
            have := HR.out
            subst this
            exact ⟨rfl, _, _, _, HC.out, Nat.le_succ _, OnC.refl _ _ _ _ _ _⟩
          · rw [if_neg hl] at HR
            have e1 : IntKind.u64.wrap (s.last + 1) = s.last + 1 := by have := HC.out.inv.last; rw [IntKind.wrap_u64]; omega
            have c4f := HC.out.fz 4
            have HL := Lib.hid (show s.last < 4611686018427387904 by omega)
            go_enter Try.func30, Try.ntmps30
            go_upto_region 13 with (first | (go_at_call 64; ((with_reducible refine HMD.out.mono ?_); rintro e w9 ⟨rfl, hw9⟩; have hw9 := hw9.symm; subst hw9)) | (go_at_call 57; ((with_reducible refine HPL.out.mono ?_); rintro e w9 ⟨rfl, hw9⟩; have hw9 := hw9.symm; subst hw9)) | (go_at_call 65; ((with_reducible refine HTM.out.mono ?_); rintro e w9 ⟨rfl, hw9⟩; have hw9 := hw9.symm; subst hw9)) | (at_len; refine wpList_len_own _ rfl _ 140 rfl 22 141 Try.underlying140 _ h N D rfl HO.out ?_; rw [hlen]))
            have HO1 : Hid (Only (· = b) w (w.setCell ⟨b, 4, none⟩ (.int .u64 (s.last + 1)))) := Lib.hid (Only.refl _ w).set1
            have HB1 := Lib.hid (show Blk (w.setCell ⟨b, 4, none⟩ (.int .u64 (s.last + 1))) b 143 #[.int .u64 s.inc, .int .i64 s.wait, .int .i64 s.most, .int .i64 s.tries, .int .u64 (s.last + 1), .map (some h), vd, vo] from by
              have := HC.out.blk.set 4 (.int .u64 (s.last + 1))
              rwa [setIf4] at this)
            have e2 : wrap64 (now + s.wait) = now + s.wait := by
              have h1 := HC.out.inv.wait
              have h2 := HTV.out
              unfold timeB at h2
              simp only [Bool.and_eq_true, decide_eq_true_eq] at h2
              unfold wrap64; omega
            have HE2 := Lib.hid e2
            have HSZ := Lib.hid (setCell_size w ⟨b, 4, none⟩ (.int .u64 (s.last + 1)))
            clear c5 c4 c4f e1 HMD HPL HTM HO hlen hf' hbig' hl
            generalize w.setCell ⟨b, 4, none⟩ (.int .u64 (s.last + 1)) = W at *
            have b4 : W.cell? ⟨b, 4, none⟩ = some (.int .u64 (s.last + 1)) := by rw [HB1.out.cell 4]; rfl
            have b1 : W.cell? ⟨b, 1, none⟩ = some (.int .i64 s.wait) := by rw [HB1.out.cell 1]; rfl
            generalize hsl : s.last + 1 = la at *
            have HLA := Lib.hid hsl
            clear hsl
            go_region
            have HOK : Hid (C0ok { s with last := s.last + 1 } ⟨la, wh, body, 1, now + s.wait, s.wait⟩) := Lib.hid (by
              have h1 := HC.out.inv.wait
              have h2 := HTV.out
              have h3 := HPV.out
              have h4 := HC.out.inv.last
              have h5 := HLA.out
              have h6 := HBG.out
              unfold timeB at h2
              unfold placeB at h3
              simp only [Bool.and_eq_true, decide_eq_true_eq] at h2 h3
              unfold C0ok
              dsimp only
              omega)
            have HUL : Hid (U64 la) := Lib.hid (by have := HC.out.inv.last; have := HLA.out; have := HL.out; unfold U64; omega)
            have HKEY := Lib.hid (keyR HUL.out)
            obtain ⟨X, hX⟩ : ∃ X, X = (W.alloc (.cells (ccells ⟨la, wh, body, 1, now + s.wait, s.wait⟩) 148)).drew := ⟨_, rfl⟩
            have hbX : Blk X b 143 #[.int .u64 s.inc, .int .i64 s.wait, .int .i64 s.most, .int .i64 s.tries, .int .u64 la, .map (some h), vd, vo] := by
              rw [hX]; exact (HB1.out.alloc _).drew
            have hQX : Blk X W.heap.size 148 (ccells ⟨la, wh, body, 1, now + s.wait, s.wait⟩) := by
              rw [hX]; exact (Blk.new W _ _).drew
            have hoX : Only (· = b) w X := by
              rw [hX]; exact (HO1.out.alloc _).drew
            have hla := HLA.out
            obtain ⟨D2, o2, hadd⟩ := HC.out.add (x := ⟨la, wh, body, 1, now + s.wait, s.wait⟩) hla.symm HOK.out (by have := HFU.out; omega) HL.out (W := X.drew) (by rw [hla]; exact hbX) hoX.drew (Q := W.heap.size) hQX (by rw [HSZ.out]; exact Nat.le_refl _)
            dsimp only at hadd
            rw [hla] at hadd
            have HO2 := Lib.hid o2
            have HAD := Lib.hid hadd
            have HXX : Hid ((W.alloc (.cells #[.int .u64 la, .int .i64 wh, .string body, .int .i64 0, .int .i64 1, .int .i64 (now + s.wait), .int .i64 s.wait] 148)).drew = X) := Lib.hid hX.symm
            rw [HXX.out]
            have b4 := hbX.cell 4
            have b4 : X.cell? ⟨b, 4, none⟩ = some (.int .u64 la) := b4
            have b5 : X.cell? ⟨b, 5, none⟩ = some (.map (some h)) := hbX.cell 5
            have HNM : Hid (N < maxLen) := Lib.hid (by have := HN.out; unfold maxLen; omega)
            clear hadd o2 hX hbX hQX hoX HXX hla e2 b1
            generalize hQ : W.heap.size = Q at *
            go_upto_region 14 with fail
            refine Reg.wp_text (by kernel_rfl) (by kernel_rfl) ?_
            go_wp2_with (at_mapUpdate; refine wpList_mapUpdate_own _ rfl _ _ _ 140 rfl 22 141 kdR Try.underlying140 _ h N D2 rfl HO2.out HNM.out _ (.pointer (some ⟨Q, 0, none⟩)) (KR la) rfl rfl HKEY.out (.lit (.int .i64 (Q : Int))) [] rfl ?_; intro w5 o5 g5; have HC5 := Lib.hid (HAD.out w5 o5 g5); clear o5 g5 b4 b5)
            refine Reg.fin (by kernel_rfl) ?_
            have HC6 := Lib.hid (HC5.out.1)
            have HO6 := Lib.hid (HC5.out.2)
            clear HC5 HO2 HAD HO1 HB1
            have HSE := Lib.hid (sends_any HC6.out (x := ⟨la, wh, body, 1, now + s.wait, s.wait⟩) (by simp) HN.out.1 (q := Q) (by rw [addB_self]))
            go_wp2_with (go_loud (go_at_call 67; (with_reducible refine HSE.out.mono ?_); rintro e w7 ⟨rfl, vd7, hc7, ho7⟩; have HC7 := Lib.hid hc7; have HO7 := Lib.hid ho7; have c4 := hc7.c4; dsimp only at c4; clear hc7 ho7))
            go_ret2
            have := HR.out
            subst this
            have hh := HLA.out
            subst hh
            exact ⟨rfl, _, _, _, HC7.out, Nat.le_refl _, HO6.out.trans HO7.out⟩
end
end Go.Proofs.Ytgdgonmhgpflcaa
