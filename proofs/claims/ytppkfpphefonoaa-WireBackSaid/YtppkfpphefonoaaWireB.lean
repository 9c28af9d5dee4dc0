/- What was written is read as itself; what is cut off is short: the law's walk. No condition. -/
import Derived.Test.YtppkfpphefonoaaWireG
namespace Go.Proofs.Ytppkfpphefonoaa
open Go.RowKit Wire
set_option linter.unusedVariables false
def BkRel (W : World) (b : Nat) (L : List UInt8) (c pre : Nat) (g : Nat → ByteArray) (n : Nat) (sm u : Value) (wq : World) : Prop :=
  ∃ (i : Nat) (sB : Bool) (s : ByteArray) (e : Int), i ≤ n ∧ u = .int .i64 i ∧ sm = .bool sB ∧ PR wq b s e ∧ Below W.heap.size W wq ∧ St L c (pre + (cat g i).length) s e ∧ (L.length ≤ c → sB = true)
/-- The bytes from a place on. -/
def Ds (L : List UInt8) (pre : Nat) (g : Nat → ByteArray) (n : Nat) : Prop := ∀ i, i < n → ∃ T, L.drop (pre + (cat g i).length) = (g i).data.toList ++ T
theorem puint_max {b : Nat} {s : ByteArray} {e0 : Int} {w : World} (h : PR w b s e0) :
    Calls Try.prog 36 #[.pointer (some ⟨b, 0, none⟩), .int .u64 18446744073709551615] w (NumPost b w (numV s e0 0) (numS s e0 0) (numE s e0 0)) := by
  have := puint_any h 18446744073709551615; rw [uC_max] at this; exact this
theorem pint_max {b : Nat} {s : ByteArray} {e0 : Int} {w : World} (h : PR w b s e0) :
    Calls Try.prog 37 #[.pointer (some ⟨b, 0, none⟩), .int .i64 (-9223372036854775808), .int .i64 9223372036854775807] w (IntPost b w (Num.zag (numV s e0 0)) (numS s e0 0) (numE s e0 0)) := by
  have := pint_any h (-9223372036854775808) 9223372036854775807; rw [iC_max] at this; exact this
theorem bk_num {L : List UInt8} {c pre n k : Nat} {x : Nat → Int} {s : ByteArray} {e : Int} (h : St L c (pre + (cat (fun i => Num.lebS (x i)) k).length) s e) (hx : U64 (x k)) (hD : Ds L pre (fun i => Num.lebS (x i)) n) (hk : k < n) :
    St L c (pre + (cat (fun i => Num.lebS (x i)) (k + 1)).length) (numS s e 0) (numE s e 0) ∧ (L.length ≤ c → numV s e 0 = x k) := by
  obtain ⟨T, hT⟩ := hD k hk
  have h1 := hx.1
  have h2 := hx.2
  have := st_num (x := (x k).toNat) h (by omega) hT
  rw [cat_succ, List.length_append, ← Nat.add_assoc]
  refine ⟨this.1, fun hh => ?_⟩
  rw [this.2 hh]; omega
theorem bk_int {L : List UInt8} {c pre n k : Nat} {x : Nat → Int} {s : ByteArray} {e : Int} (h : St L c (pre + (cat (fun i => intS (x i)) k).length) s e) (hx : I64 (x k)) (hD : Ds L pre (fun i => intS (x i)) n) (hk : k < n) :
    St L c (pre + (cat (fun i => intS (x i)) (k + 1)).length) (numS s e 0) (numE s e 0) ∧ (L.length ≤ c → Num.zag (numV s e 0) = x k) := by
  obtain ⟨T, hT⟩ := hD k hk
  have hz := U64_zig hx
  have h1 := hz.1
  have h2 := hz.2
  have := st_num (x := (Num.zig (x k)).toNat) h (by omega) hT
  rw [cat_succ, List.length_append, ← Nat.add_assoc]
  refine ⟨this.1, fun hh => ?_⟩
  rw [this.2 hh, show (((Num.zig (x k)).toNat : Nat) : Int) = Num.zig (x k) from by omega, Num.zag_zig]
theorem bk_text {L : List UInt8} {c pre n k : Nat} {x : Nat → ByteArray} {s : ByteArray} {e : Int} (h : St L c (pre + (cat (fun i => textS (x i)) k).length) s e) (hx : (x k).size ≤ 1024) (hD : Ds L pre (fun i => textS (x i)) n) (hk : k < n) :
    St L c (pre + (cat (fun i => textS (x i)) (k + 1)).length) (txS s e (x k).size) (txE s e (x k).size) ∧ (L.length ≤ c → txV s e (x k).size = x k) := by
  obtain ⟨T, hT⟩ := hD k hk
  have e1 : (textS (x k)).data.toList = textL (x k).data.toList := by unfold textS textL Num.lebS; rw [ByteArray.data_append, Array.toList_append]; rfl
  rw [e1] at hT
  have := st_text (t := x k) h hx hT
  rw [cat_succ, List.length_append, ← Nat.add_assoc, e1]
  exact this
theorem ds_of {L pre R : List UInt8} {g : Nat → ByteArray} {n : Nat} (hL : L = pre ++ cat g n ++ R) : Ds L pre.length g n := fun i hi => by rw [hL]; exact drop_cat hi
theorem add_list (a b : ByteArray) : (a ++ b).data.toList = a.data.toList ++ b.data.toList := by rw [ByteArray.data_append, Array.toList_append]
def B2Rel (W : World) (u : Value) (wr : World) : Prop := ∃ p : Nat, p ≤ 2 ∧ u = .int .i64 p ∧ Below W.heap.size W wr
set_option maxRecDepth 100000 in
set_option maxHeartbeats 4000000 in
theorem wback_run (W : World) {n1 n2 n3 : Nat} {x1 x2 : Nat → Int} {x3 : Nat → ByteArray} {v1 v2 v3 : Value} (at0 : Int) (ha0 : 0 ≤ at0) (ha1 : at0 < 65536) (h1 : Slic W v1 n1 fun i => .int .u64 (x1 i)) (h2 : Slic W v2 n2 fun i => .int .i64 (x2 i)) (h3 : Slic W v3 n3 fun i => .string (x3 i))
    (k1 : ∀ i, i < n1 → U64 (x1 i)) (k2 : ∀ i, i < n2 → I64 (x2 i)) (hn1 : n1 ≤ 100) (hn2 : n2 ≤ 100) (hn3 : n3 ≤ 100) :
    Calls Try.prog 7 #[v1, v2, v3, .int .u16 at0] W fun e w' => e = .returned (.bool true) ∧ Below W.heap.size W w' := by
  have H1 := Lib.hid h1
  have H2 := Lib.hid h2
  have H3 := Lib.hid h3
  obtain ⟨p1, cap1, rfl, hS1⟩ := h1
  obtain ⟨p2, cap2, rfl, hS2⟩ := h2
  obtain ⟨p3, cap3, rfl, hS3⟩ := h3
  have HS1 := Lib.hid hS1
  have HS2 := Lib.hid hS2
  have HS3 := Lib.hid hS3
  have K1 := Lib.hid k1
  have K2 := Lib.hid k2
  have hrfl := Below.refl W.heap.size W
  clear hS1 hS2 hS3 k1 k2
  go_enter Try.func7, Try.ntmps7
  go_wp2
  go_loopw [9] (fun u wr => SzRel x3 n3 W u wr) (fun u _ => ((n3 : Int) - intOf u).toNat)
  case atStart => exact ⟨0, by omega, rfl, hrfl, fun j hj => by omega⟩
  case round =>
    obtain ⟨i, hi1, rfl, hb, hsm⟩ := hrel
    have HB := Lib.hid hb
    have HSM := Lib.hid hsm
    by_cases hi : i < n3
    · obtain ⟨g0, off, rfl, hg, hx⟩ := HS3.out (by omega)
      have x0 : wr.cell? ⟨g0, off + i, none⟩ = some (.string (x3 i)) := by rw [hb.cell hg]; exact hx i hi
      by_cases hbig : (x3 i).size ≤ 1024
      · clear hx hb hsm
        go_wp2
        go_roundw
        case rel => exact ⟨i + 1, by omega, rfl, HB.out, fun j hj => by
          by_cases e : j = i
          · subst e; exact hbig
          · exact HSM.out j (by omega)⟩
        case measure => simp [intOf]; omega
      · have hbig' : 1024 < (x3 i).size := by omega
        clear hx hb hsm hbig
        go_wp2_with (go_at_call 26; ((with_reducible refine (alive_any _).mono ?_); rintro e w9 ⟨rfl, hb9⟩))
        go_ret
        exact ⟨rfl, HB.out.trans (hb9.mono HB.out.size)⟩
    · have : n3 = i := by omega
      subst this
      have K3 := HSM
      clear HSM hsm hi hi1
      have l1 := small_cat (g := fun i => Num.lebS (x1 i)) (n := n1) (fun i hi => lebS_size (K1.out i hi).2)
      have l2 := small_cat (g := fun i => intS (x2 i)) (n := n2) (fun i hi => lebS_size (U64_zig (K2.out i hi)).2)
      have l3 := text_cat (x := x3) (n := n3) (fun i hi => by have := K3.out i hi; omega)
      rw [← catS_size] at l1 l2 l3
      have T1 := Lib.hid (alls (uints_any (H1.out.grow hb) (by omega) K1.out))
      have T2 := Lib.hid (fun (w : World) (h : Below W.heap.size W w) => alls (ints_any (H2.out.grow h) (by omega) K2.out))
      have T3 := Lib.hid (fun (w : World) (h : Below W.heap.size W w) => alls (texts_any (H3.out.grow h) (by omega) (fun i hi => by have := K3.out i hi; omega) (by rw [← catS_size]; omega)))
      clear hb
      have hll : (catS (fun i => Num.lebS (x1 i)) n1 ++ catS (fun i => intS (x2 i)) n2).size = (catS (fun i => Num.lebS (x1 i)) n1).size + (catS (fun i => intS (x2 i)) n2).size := by simp
      go_upto_region 9 with (first | (go_at_call 31; ((with_reducible refine T1.out.mono ?_); rintro e w1 ⟨rfl, b1⟩; have BB1 := Lib.hid (HB.out.trans (b1.mono HB.out.size)); have T2' := Lib.hid (T2.out _ BB1.out); clear b1)) | (go_at_call 32; ((with_reducible refine T2'.out.mono ?_); rintro e w2 ⟨rfl, b2⟩; have BB2 := Lib.hid (BB1.out.trans (b2.mono BB1.out.size)); have T3' := Lib.hid (T3.out _ BB2.out); clear b2)) | (go_at_call 33; ((with_reducible refine T3'.out.mono ?_); rintro e w3 ⟨rfl, b3⟩; have BB3 := Lib.hid (BB2.out.trans (b3.mono BB2.out.size)); clear b3)))
      have hLdef : (catS (fun i => Num.lebS (x1 i)) n1 ++ catS (fun i => intS (x2 i)) n2 ++ catS (fun i => textS (x3 i)) n3).data.toList = cat (fun i => Num.lebS (x1 i)) n1 ++ cat (fun i => intS (x2 i)) n2 ++ cat (fun i => textS (x3 i)) n3 := by
        rw [add_list, add_list]; rfl
      have hSz : (catS (fun i => Num.lebS (x1 i)) n1 ++ catS (fun i => intS (x2 i)) n2 ++ catS (fun i => textS (x3 i)) n3).size ≤ 500000 := by simp; omega
      generalize catS (fun i => Num.lebS (x1 i)) n1 ++ catS (fun i => intS (x2 i)) n2 ++ catS (fun i => textS (x3 i)) n3 = SB at *
      have D1 := Lib.hid (ds_of (L := SB.data.toList) (pre := []) (g := fun i => Num.lebS (x1 i)) (n := n1) (R := cat (fun i => intS (x2 i)) n2 ++ cat (fun i => textS (x3 i)) n3) (by rw [hLdef]; simp))
      have D2 := Lib.hid (ds_of (L := SB.data.toList) (pre := cat (fun i => Num.lebS (x1 i)) n1) (g := fun i => intS (x2 i)) (n := n2) (R := cat (fun i => textS (x3 i)) n3) (by rw [hLdef]))
      have D3 := Lib.hid (ds_of (L := SB.data.toList) (pre := cat (fun i => Num.lebS (x1 i)) n1 ++ cat (fun i => intS (x2 i)) n2) (g := fun i => textS (x3 i)) (n := n3) (R := []) (by rw [hLdef]; simp))
      have hpre1 : 0 + (cat (fun i => Num.lebS (x1 i)) n1).length = (cat (fun i => Num.lebS (x1 i)) n1).length := by omega
      have hpre2 : (cat (fun i => Num.lebS (x1 i)) n1).length + (cat (fun i => intS (x2 i)) n2).length = (cat (fun i => Num.lebS (x1 i)) n1 ++ cat (fun i => intS (x2 i)) n2).length := by simp
      have hpre3 : (cat (fun i => Num.lebS (x1 i)) n1 ++ cat (fun i => intS (x2 i)) n2).length + (cat (fun i => textS (x3 i)) n3).length = SB.data.toList.length := by rw [hLdef]; simp; omega
      have hLs : SB.data.toList.length = SB.size := toL SB
      generalize hL : SB.data.toList = L at *
      clear T1 T2 T3 T2' T3' BB1 BB2 HB l1 l2 l3 hll hLdef H1 H2 H3
      have hrfl3 := BB3.out
      go_wp2_with fail
      go_loopw [11] (fun u wr => B2Rel W u wr) (fun u _ => (2 - intOf u).toNat)
      case atStart => exact ⟨0, by omega, rfl, hrfl3⟩
      case round =>
        obtain ⟨p, hp2, rfl, hbl⟩ := hrel
        obtain ⟨wx, rfl⟩ : ∃ wx, wx = wr := ⟨_, rfl⟩
        have HBL := Lib.hid hbl
        have hb0 : W.heap.size ≤ wx.heap.size := hbl.size
        clear hbl hrfl3
        have hcase : p = 0 ∨ p = 1 ∨ p = 2 := by omega
        rcases hcase with rfl | rfl | rfl
        · as_aux_lemma =>
          obtain ⟨c, hc⟩ : ∃ c, c = L.length := ⟨_, rfl⟩
          obtain ⟨inp, hinp⟩ : ∃ inp : ByteArray, inp = SB := ⟨_, rfl⟩
          have hin : inp.data.toList = L.take c := by rw [hinp, hL, hc, List.take_length]
          have HW := Lib.hid (wnew_any inp (by rw [hinp]; unfold maxLen; omega) wx)
          go_upto_region 17 with (go_at_call 35; ((rw [← hinp]; refine HW.out.mono ?_); rintro e w5 ⟨rfl, h0, b6⟩; have P0 := h0; have B0 := HBL.out.trans (b6.mono HBL.out.size); clear h0 b6))
          have st0 : St L c (0 + (cat (fun i => Num.lebS (x1 i)) 0).length) inp 0 := .inl ⟨rfl, by simp [cat_zero], by rw [hin]; simp [cat_zero]⟩
          clear HW HBL hin
          go_wp2_with fail
          go_loopw [14, 15] (fun sm u wq => BkRel W wx.heap.size L c 0 (fun i => Num.lebS (x1 i)) n1 sm u wq) (fun _ u _ => ((n1 : Int) - intOf u).toNat)
          case atStart => exact ⟨0, true, inp, 0, by omega, rfl, rfl, P0, B0, st0, fun _ => rfl⟩
          case round =>
            obtain ⟨k, sB, s, e, hk1, rfl, rfl, hP, hb, hst, hsm⟩ := hrel
            have HP := Lib.hid hP
            have HB := Lib.hid hb
            have HST := Lib.hid hst
            have HSM := Lib.hid hsm
            by_cases hk : k < n1
            · obtain ⟨g0, off, rfl, hg, hx⟩ := HS1.out (by omega)
              have x0 : wr.cell? ⟨g0, off + k, none⟩ = some (.int .u64 (x1 k)) := by rw [hb.cell hg]; exact hx k hk
              have X1 := Lib.hid (fun (w2 : World) (h : Below W.heap.size W w2) => show w2.cell? ⟨g0, off + k, none⟩ = some (.int .u64 (x1 k)) by rw [h.cell hg]; exact hx k hk)
              have HC := Lib.hid (puint_max HP.out)
              have HT := Lib.hid (bk_num HST.out (K1.out k hk) D1.out hk)
              clear hx hP hb hst hsm
              generalize hV : numV s e 0 = V at *
              cases sB with
              | true =>
                go_wp2_with (go_at_call 36; ((with_reducible refine HC.out.mono ?_); rintro e w2 ⟨rfl, hP2, o2⟩; have B2 := Lib.hid (bonly HB.out o2 hb0); have x1 := X1.out _ B2.out; have HP2 := Lib.hid hP2; clear hP2))
                go_roundw
                case rel => exact ⟨k + 1, _, _, _, by omega, rfl, rfl, HP2.out, B2.out, HT.out.1, fun h => by have := HT.out.2 h; simp [this]⟩
                case measure => simp [intOf]; omega
              | false =>
                go_wp2_with (go_at_call 36; ((with_reducible refine HC.out.mono ?_); rintro e w2 ⟨rfl, hP2, o2⟩; have B2 := Lib.hid (bonly HB.out o2 hb0); have x1 := X1.out _ B2.out; have HP2 := Lib.hid hP2; clear hP2))
                go_roundw
                case rel => exact ⟨k + 1, _, _, _, by omega, rfl, rfl, HP2.out, B2.out, HT.out.1, fun h => by have := HSM.out h; cases this⟩
                case measure => simp [intOf]; omega
            · have : n1 = k := by omega
              subst this
              clear hP hb hst hsm HS1 hk hk1
              have ok1 := HSM.out
              have st1 : St L c ((cat (fun i => Num.lebS (x1 i)) n1).length + (cat (fun i => intS (x2 i)) 0).length) s e := by have := HST.out; rw [hpre1] at this; simpa [cat_zero] using this
              have P1 := HP.out
              have B1 := HB.out
              clear HP HB HST HSM
              go_wp2_with fail
              go_loopw [14, 17] (fun sm u wq => BkRel W wx.heap.size L c (cat (fun i => Num.lebS (x1 i)) n1).length (fun i => intS (x2 i)) n2 sm u wq) (fun _ u _ => ((n2 : Int) - intOf u).toNat)
              case atStart => exact ⟨0, sB, s, e, by omega, rfl, rfl, P1, B1, st1, ok1⟩
              case round =>
                obtain ⟨k, sB, s, e, hk1, rfl, rfl, hP, hb, hst, hsm⟩ := hrel
                have HP := Lib.hid hP
                have HB := Lib.hid hb
                have HST := Lib.hid hst
                have HSM := Lib.hid hsm
                by_cases hk : k < n2
                · obtain ⟨g0, off, rfl, hg, hx⟩ := HS2.out (by omega)
                  have x0 : wr.cell? ⟨g0, off + k, none⟩ = some (.int .i64 (x2 k)) := by rw [hb.cell hg]; exact hx k hk
                  have X1 := Lib.hid (fun (w2 : World) (h : Below W.heap.size W w2) => show w2.cell? ⟨g0, off + k, none⟩ = some (.int .i64 (x2 k)) by rw [h.cell hg]; exact hx k hk)
                  have HC := Lib.hid (pint_max HP.out)
                  have HT := Lib.hid (bk_int HST.out (K2.out k hk) D2.out hk)
                  clear hx hP hb hst hsm
                  generalize hV : Num.zag (numV s e 0) = V at *
                  cases sB with
                  | true =>
                    go_wp2_with (go_at_call 37; ((with_reducible refine HC.out.mono ?_); rintro e w2 ⟨rfl, hP2, o2⟩; have B2 := Lib.hid (bonly HB.out o2 hb0); have x1 := X1.out _ B2.out; have HP2 := Lib.hid hP2; clear hP2))
                    go_roundw
                    case rel => exact ⟨k + 1, _, _, _, by omega, rfl, rfl, HP2.out, B2.out, HT.out.1, fun h => by have := HT.out.2 h; simp [this]⟩
                    case measure => simp [intOf]; omega
                  | false =>
                    go_wp2_with (go_at_call 37; ((with_reducible refine HC.out.mono ?_); rintro e w2 ⟨rfl, hP2, o2⟩; have B2 := Lib.hid (bonly HB.out o2 hb0); have x1 := X1.out _ B2.out; have HP2 := Lib.hid hP2; clear hP2))
                    go_roundw
                    case rel => exact ⟨k + 1, _, _, _, by omega, rfl, rfl, HP2.out, B2.out, HT.out.1, fun h => by have := HSM.out h; cases this⟩
                    case measure => simp [intOf]; omega
                · have : n2 = k := by omega
                  subst this
                  clear hP hb hst hsm HS2 hk hk1
                  have ok2 := HSM.out
                  have st2 : St L c ((cat (fun i => Num.lebS (x1 i)) n1 ++ cat (fun i => intS (x2 i)) n2).length + (cat (fun i => textS (x3 i)) 0).length) s e := by have := HST.out; rw [hpre2] at this; simpa [cat_zero] using this
                  have P2 := HP.out
                  have B2 := HB.out
                  clear HP HB HST HSM
                  go_wp2_with fail
                  go_loopw [14, 19] (fun sm u wq => BkRel W wx.heap.size L c (cat (fun i => Num.lebS (x1 i)) n1 ++ cat (fun i => intS (x2 i)) n2).length (fun i => textS (x3 i)) n3 sm u wq) (fun _ u _ => ((n3 : Int) - intOf u).toNat)
                  case atStart => exact ⟨0, sB, s, e, by omega, rfl, rfl, P2, B2, st2, ok2⟩
                  case round =>
                    obtain ⟨k, sB, s, e, hk1, rfl, rfl, hP, hb, hst, hsm⟩ := hrel
                    have HP := Lib.hid hP
                    have HB := Lib.hid hb
                    have HST := Lib.hid hst
                    have HSM := Lib.hid hsm
                    by_cases hk : k < n3
                    · obtain ⟨g0, off, rfl, hg, hx⟩ := HS3.out (by omega)
                      have x0 : wr.cell? ⟨g0, off + k, none⟩ = some (.string (x3 k)) := by rw [hb.cell hg]; exact hx k hk
                      have X1 := Lib.hid (fun (w2 : World) (h : Below W.heap.size W w2) => show w2.cell? ⟨g0, off + k, none⟩ = some (.string (x3 k)) by rw [h.cell hg]; exact hx k hk)
                      have HC := Lib.hid (ptext_any HP.out ((x3 k).size : Nat) (by have := K3.out k hk; unfold I64; omega))
                      have HT := Lib.hid (bk_text HST.out (K3.out k hk) D3.out hk)
                      clear hx hP hb hst hsm
                      generalize hV : txV s e ((x3 k).size : Nat) = V at *
                      cases sB with
                      | true =>
                        go_wp2_with (go_at_call 38; ((with_reducible refine HC.out.mono ?_); rintro e w2 ⟨rfl, hP2, o2⟩; have B2 := Lib.hid (bonly HB.out o2 hb0); have x1 := X1.out _ B2.out; have HP2 := Lib.hid hP2; clear hP2))
                        go_roundw
                        case rel => exact ⟨k + 1, _, _, _, by omega, rfl, rfl, HP2.out, B2.out, HT.out.1, fun h => by have := HT.out.2 h; simp [this]⟩
                        case measure => simp [intOf]; omega
                      | false =>
                        go_wp2_with (go_at_call 38; ((with_reducible refine HC.out.mono ?_); rintro e w2 ⟨rfl, hP2, o2⟩; have B2 := Lib.hid (bonly HB.out o2 hb0); have x1 := X1.out _ B2.out; have HP2 := Lib.hid hP2; clear hP2))
                        go_roundw
                        case rel => exact ⟨k + 1, _, _, _, by omega, rfl, rfl, HP2.out, B2.out, HT.out.1, fun h => by have := HSM.out h; cases this⟩
                        case measure => simp [intOf]; omega
                    · have : n3 = k := by omega
                      subst this
                      clear hP hb hst hsm HS3 hk hk1
                      have ok3 := HSM.out
                      have st3 : St L c L.length s e := by have := HST.out; rw [hpre3] at this; exact this
                      have P3 := HP.out
                      have B3 := HB.out
                      clear HP HB HST HSM
                      have hok := ok3 (by omega)
                      subst hok
                      have hf := st_full st3 rfl (by omega)
                      have HE := Lib.hid (pend_any P3)
                      rw [hf.2] at HE
                      clear st3 P3 ok3 hf
                      go_wp2_with (go_at_call 39; ((with_reducible refine HE.out.mono ?_); rintro e w7 ⟨rfl, hP7, o7⟩))
                      go_roundw
                      case rel => exact ⟨1, by omega, rfl, bonly B3 o7 hb0⟩
                      case measure => simp [intOf]
        · as_aux_lemma =>
          by_cases hE : SB.size = 0
          · have := empty_of hE
            subst this
            clear hE
            go_wp2_with (go_at_call 26; ((with_reducible refine (alive_any _).mono ?_); rintro e w9 ⟨rfl, hb9⟩))
            go_ret
            exact ⟨rfl, HBL.out.trans (hb9.mono HBL.out.size)⟩
          · have hne := ne_empty hE
            have hne' : (SB.toList.isEmpty) = false := by simpa using hne
            have hz : ((SB.size : Int) == 0) = false := beq_false_of_ne (by omega)
            have hz1 : (0 : Int) < (SB.size : Int) := by omega
            have hm0 : 0 ≤ at0 % (SB.size : Int) := Int.emod_nonneg _ (by omega)
            have hm1 : at0 % (SB.size : Int) < (SB.size : Int) := Int.emod_lt_of_pos _ hz1
            have hlt : (at0 % (SB.size : Int)).toNat < SB.size := by omega
            have hxl : (SB.extract 0 (at0 % (SB.size : Int)).toNat).data.toList = L.take (at0 % (SB.size : Int)).toNat := by rw [← hL]; simp
            obtain ⟨c, hc⟩ : ∃ c, c = (at0 % (SB.size : Int)).toNat := ⟨_, rfl⟩
            obtain ⟨inp, hinp⟩ : ∃ inp : ByteArray, inp = SB.extract 0 (at0 % (SB.size : Int)).toNat := ⟨_, rfl⟩
            have hin : inp.data.toList = L.take c := by rw [hinp, hc]; exact hxl
            have HW := Lib.hid (wnew_any inp (by rw [hinp, ← toL, hxl, List.length_take]; refine Nat.le_trans (Nat.min_le_right _ _) ?_; unfold maxLen; omega) wx)
            go_upto_region 17 with (go_at_call 35; ((rw [← hinp]; refine HW.out.mono ?_); rintro e w5 ⟨rfl, h0, b6⟩; have P0 := h0; have B0 := HBL.out.trans (b6.mono HBL.out.size); clear h0 b6))
            have st0 : St L c (0 + (cat (fun i => Num.lebS (x1 i)) 0).length) inp 0 := .inl ⟨rfl, by simp [cat_zero], by rw [hin]; simp [cat_zero]⟩
            clear HW HBL hin
            go_wp2_with fail
            go_loopw [14, 15] (fun sm u wq => BkRel W wx.heap.size L c 0 (fun i => Num.lebS (x1 i)) n1 sm u wq) (fun _ u _ => ((n1 : Int) - intOf u).toNat)
            case atStart => exact ⟨0, true, inp, 0, by omega, rfl, rfl, P0, B0, st0, fun _ => rfl⟩
            case round =>
              obtain ⟨k, sB, s, e, hk1, rfl, rfl, hP, hb, hst, hsm⟩ := hrel
              have HP := Lib.hid hP
              have HB := Lib.hid hb
              have HST := Lib.hid hst
              have HSM := Lib.hid hsm
              by_cases hk : k < n1
              · obtain ⟨g0, off, rfl, hg, hx⟩ := HS1.out (by omega)
                have x0 : wr.cell? ⟨g0, off + k, none⟩ = some (.int .u64 (x1 k)) := by rw [hb.cell hg]; exact hx k hk
                have X1 := Lib.hid (fun (w2 : World) (h : Below W.heap.size W w2) => show w2.cell? ⟨g0, off + k, none⟩ = some (.int .u64 (x1 k)) by rw [h.cell hg]; exact hx k hk)
                have HC := Lib.hid (puint_max HP.out)
                have HT := Lib.hid (bk_num HST.out (K1.out k hk) D1.out hk)
                clear hx hP hb hst hsm
                generalize hV : numV s e 0 = V at *
                cases sB with
                | true =>
                  go_wp2_with (go_at_call 36; ((with_reducible refine HC.out.mono ?_); rintro e w2 ⟨rfl, hP2, o2⟩; have B2 := Lib.hid (bonly HB.out o2 hb0); have x1 := X1.out _ B2.out; have HP2 := Lib.hid hP2; clear hP2))
                  go_roundw
                  case rel => exact ⟨k + 1, _, _, _, by omega, rfl, rfl, HP2.out, B2.out, HT.out.1, fun h => by have := HT.out.2 h; simp [this]⟩
                  case measure => simp [intOf]; omega
                | false =>
                  go_wp2_with (go_at_call 36; ((with_reducible refine HC.out.mono ?_); rintro e w2 ⟨rfl, hP2, o2⟩; have B2 := Lib.hid (bonly HB.out o2 hb0); have x1 := X1.out _ B2.out; have HP2 := Lib.hid hP2; clear hP2))
                  go_roundw
                  case rel => exact ⟨k + 1, _, _, _, by omega, rfl, rfl, HP2.out, B2.out, HT.out.1, fun h => by have := HSM.out h; cases this⟩
                  case measure => simp [intOf]; omega
              · have : n1 = k := by omega
                subst this
                clear hP hb hst hsm HS1 hk hk1
                have ok1 := HSM.out
                have st1 : St L c ((cat (fun i => Num.lebS (x1 i)) n1).length + (cat (fun i => intS (x2 i)) 0).length) s e := by have := HST.out; rw [hpre1] at this; simpa [cat_zero] using this
                have P1 := HP.out
                have B1 := HB.out
                clear HP HB HST HSM
                go_wp2_with fail
                go_loopw [14, 17] (fun sm u wq => BkRel W wx.heap.size L c (cat (fun i => Num.lebS (x1 i)) n1).length (fun i => intS (x2 i)) n2 sm u wq) (fun _ u _ => ((n2 : Int) - intOf u).toNat)
                case atStart => exact ⟨0, sB, s, e, by omega, rfl, rfl, P1, B1, st1, ok1⟩
                case round =>
                  obtain ⟨k, sB, s, e, hk1, rfl, rfl, hP, hb, hst, hsm⟩ := hrel
                  have HP := Lib.hid hP
                  have HB := Lib.hid hb
                  have HST := Lib.hid hst
                  have HSM := Lib.hid hsm
                  by_cases hk : k < n2
                  · obtain ⟨g0, off, rfl, hg, hx⟩ := HS2.out (by omega)
                    have x0 : wr.cell? ⟨g0, off + k, none⟩ = some (.int .i64 (x2 k)) := by rw [hb.cell hg]; exact hx k hk
                    have X1 := Lib.hid (fun (w2 : World) (h : Below W.heap.size W w2) => show w2.cell? ⟨g0, off + k, none⟩ = some (.int .i64 (x2 k)) by rw [h.cell hg]; exact hx k hk)
                    have HC := Lib.hid (pint_max HP.out)
                    have HT := Lib.hid (bk_int HST.out (K2.out k hk) D2.out hk)
                    clear hx hP hb hst hsm
                    generalize hV : Num.zag (numV s e 0) = V at *
                    cases sB with
                    | true =>
                      go_wp2_with (go_at_call 37; ((with_reducible refine HC.out.mono ?_); rintro e w2 ⟨rfl, hP2, o2⟩; have B2 := Lib.hid (bonly HB.out o2 hb0); have x1 := X1.out _ B2.out; have HP2 := Lib.hid hP2; clear hP2))
                      go_roundw
                      case rel => exact ⟨k + 1, _, _, _, by omega, rfl, rfl, HP2.out, B2.out, HT.out.1, fun h => by have := HT.out.2 h; simp [this]⟩
                      case measure => simp [intOf]; omega
                    | false =>
                      go_wp2_with (go_at_call 37; ((with_reducible refine HC.out.mono ?_); rintro e w2 ⟨rfl, hP2, o2⟩; have B2 := Lib.hid (bonly HB.out o2 hb0); have x1 := X1.out _ B2.out; have HP2 := Lib.hid hP2; clear hP2))
                      go_roundw
                      case rel => exact ⟨k + 1, _, _, _, by omega, rfl, rfl, HP2.out, B2.out, HT.out.1, fun h => by have := HSM.out h; cases this⟩
                      case measure => simp [intOf]; omega
                  · have : n2 = k := by omega
                    subst this
                    clear hP hb hst hsm HS2 hk hk1
                    have ok2 := HSM.out
                    have st2 : St L c ((cat (fun i => Num.lebS (x1 i)) n1 ++ cat (fun i => intS (x2 i)) n2).length + (cat (fun i => textS (x3 i)) 0).length) s e := by have := HST.out; rw [hpre2] at this; simpa [cat_zero] using this
                    have P2 := HP.out
                    have B2 := HB.out
                    clear HP HB HST HSM
                    go_wp2_with fail
                    go_loopw [14, 19] (fun sm u wq => BkRel W wx.heap.size L c (cat (fun i => Num.lebS (x1 i)) n1 ++ cat (fun i => intS (x2 i)) n2).length (fun i => textS (x3 i)) n3 sm u wq) (fun _ u _ => ((n3 : Int) - intOf u).toNat)
                    case atStart => exact ⟨0, sB, s, e, by omega, rfl, rfl, P2, B2, st2, ok2⟩
                    case round =>
                      obtain ⟨k, sB, s, e, hk1, rfl, rfl, hP, hb, hst, hsm⟩ := hrel
                      have HP := Lib.hid hP
                      have HB := Lib.hid hb
                      have HST := Lib.hid hst
                      have HSM := Lib.hid hsm
                      by_cases hk : k < n3
                      · obtain ⟨g0, off, rfl, hg, hx⟩ := HS3.out (by omega)
                        have x0 : wr.cell? ⟨g0, off + k, none⟩ = some (.string (x3 k)) := by rw [hb.cell hg]; exact hx k hk
                        have X1 := Lib.hid (fun (w2 : World) (h : Below W.heap.size W w2) => show w2.cell? ⟨g0, off + k, none⟩ = some (.string (x3 k)) by rw [h.cell hg]; exact hx k hk)
                        have HC := Lib.hid (ptext_any HP.out ((x3 k).size : Nat) (by have := K3.out k hk; unfold I64; omega))
                        have HT := Lib.hid (bk_text HST.out (K3.out k hk) D3.out hk)
                        clear hx hP hb hst hsm
                        generalize hV : txV s e ((x3 k).size : Nat) = V at *
                        cases sB with
                        | true =>
                          go_wp2_with (go_at_call 38; ((with_reducible refine HC.out.mono ?_); rintro e w2 ⟨rfl, hP2, o2⟩; have B2 := Lib.hid (bonly HB.out o2 hb0); have x1 := X1.out _ B2.out; have HP2 := Lib.hid hP2; clear hP2))
                          go_roundw
                          case rel => exact ⟨k + 1, _, _, _, by omega, rfl, rfl, HP2.out, B2.out, HT.out.1, fun h => by have := HT.out.2 h; simp [this]⟩
                          case measure => simp [intOf]; omega
                        | false =>
                          go_wp2_with (go_at_call 38; ((with_reducible refine HC.out.mono ?_); rintro e w2 ⟨rfl, hP2, o2⟩; have B2 := Lib.hid (bonly HB.out o2 hb0); have x1 := X1.out _ B2.out; have HP2 := Lib.hid hP2; clear hP2))
                          go_roundw
                          case rel => exact ⟨k + 1, _, _, _, by omega, rfl, rfl, HP2.out, B2.out, HT.out.1, fun h => by have := HSM.out h; cases this⟩
                          case measure => simp [intOf]; omega
                      · have : n3 = k := by omega
                        subst this
                        clear hP hb hst hsm HS3 hk hk1
                        have ok3 := HSM.out
                        have st3 : St L c L.length s e := by have := HST.out; rw [hpre3] at this; exact this
                        have P3 := HP.out
                        have B3 := HB.out
                        clear HP HB HST HSM
                        have hf := st_cut st3 rfl (by omega)
                        subst hf
                        have HE := Lib.hid (perr_any P3)
                        clear st3 P3 ok3
                        go_wp2_with (go_at_call 40; ((with_reducible refine HE.out.mono ?_); rintro e w7 ⟨rfl, rfl⟩))
                        go_roundw
                        case rel => exact ⟨2, by omega, rfl, B3⟩
                        case measure => simp [intOf]
        · go_wp2_with (go_at_call 26; ((with_reducible refine (alive_any _).mono ?_); rintro e w9 ⟨rfl, hb9⟩))
          go_ret
          exact ⟨rfl, HBL.out.trans (hb9.mono HBL.out.size)⟩
end Go.Proofs.Ytppkfpphefonoaa
