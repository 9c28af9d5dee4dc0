import Derived.Test.YtgdgonmhgpflcaaMge
import Derived.Great.BuildSlice

/- Packets' bytes: the program's Encode. -/
namespace Go.Proofs.Ytgdgonmhgpflcaa
open Go.RowKit Wire Rp
set_option linter.unusedVariables false
set_option linter.unusedSimpArgs false
theorem info_rb : Info Try.prog 4 (.bool false) 1 1 := by unfold Info; kernel_rfl
theorem info_ru : Info Try.prog 22 (.int .u64 0) 1 8 := by unfold Info; kernel_rfl
theorem info_rs : Info Try.prog 9 (.string ⟨#[]⟩) 1 16 := by unfold Info; kernel_rfl
section
variable {P : Program} {ops : Array Oper} {o : Oper} {a : Act} {w : World} {K : Act → World → Prop} {Q : Exit → Act → World → Prop} {E : Prop}
/-- A slice literal of one cell, as a step of a drawn region. -/
theorem step_lit1 {t e : TypeId} {x : Operand} {v z : Value} {bytes N : Nat} (hg : o.guard = none) (ho : o.op = .buildSlice t 1 #[(0, x)]) (hx : a.eval x = v) (h1 : v.cells = #[v])
    (ht : P.underlying t = some (.slice e)) (hi : Info P e z 1 bytes) (hN : w.heap.size = N)
    (h : ∀ Y, Y = w.alloc (.cells #[v] e) → K (a.put o.dst (.slice (some ⟨N, 0, none⟩) 1 1)) Y) : if Region.wanted o (yielded ops a.tmps) = true then Oper.wp P o a w K Q else E := by
  rw [if_pos (by simp [Region.wanted, hg])]
  obtain ⟨i, hi1, hi2, hi3, hi4⟩ := info_parts hi
  refine wp_buildSlice t e 1 _ ho #[v] i z ht hi1 hi2 (by rw [hi3]; decide) (by rw [hi3]; decide) ?_ (hN ▸ h _ rfl)
  rw [hi3]
  simp [hx, Instr.fill, h1]
  apply Array.toList_inj.1
  simp [List.range, List.range.loop]
theorem step_lit2 {t e : TypeId} {x y : Operand} {v u z : Value} {bytes N : Nat} (hg : o.guard = none) (ho : o.op = .buildSlice t 2 #[(0, x), (1, y)]) (hx : a.eval x = v) (hy : a.eval y = u) (h1 : v.cells = #[v]) (h2 : u.cells = #[u])
    (ht : P.underlying t = some (.slice e)) (hi : Info P e z 1 bytes) (hN : w.heap.size = N)
    (h : ∀ Y, Y = w.alloc (.cells #[v, u] e) → K (a.put o.dst (.slice (some ⟨N, 0, none⟩) 2 2)) Y) : if Region.wanted o (yielded ops a.tmps) = true then Oper.wp P o a w K Q else E := by
  rw [if_pos (by simp [Region.wanted, hg])]
  obtain ⟨i, hi1, hi2, hi3, hi4⟩ := info_parts hi
  refine wp_buildSlice t e 2 _ ho #[v, u] i z ht hi1 hi2 (by rw [hi3]; decide) (by rw [hi3]; decide) ?_ (hN ▸ h _ rfl)
  rw [hi3]
  simp [hx, hy, Instr.fill, h1, h2]
  apply Array.toList_inj.1
  simp [List.range, List.range.loop]
end

theorem lit1S (w : World) (T : TypeId) (v : Value) (f : Nat → Value) (h : f 0 = v) : Slic (w.alloc (.cells #[v] T)) (.slice (some ⟨w.heap.size, 0, none⟩) 1 1) 1 f :=
  ⟨_, _, rfl, fun _ => ⟨_, 0, rfl, by simp, fun i hi => by
    have : i = 0 := by omega
    subst this
    rw [(Blk.new w _ _).cell, h]; rfl⟩⟩
theorem cat1 (g : Nat → ByteArray) : (⟨(cat g 1).toArray⟩ : ByteArray) = g 0 := by show catS g 1 = g 0; rw [← catS_succ, catS_zero]; apply ByteArray.ext; rw [ByteArray.data_append]; simp
theorem cat2 (g : Nat → ByteArray) : (⟨(cat g 2).toArray⟩ : ByteArray) = g 0 ++ g 1 := by show catS g 2 = _; rw [← catS_succ]; congr 1; exact cat1 g
theorem lBoolg {W : World} {v : Value} (an : Bool) (hS : Slic W v 1 (fun _ => .bool an)) : Calls Try.prog 42 #[v] W fun e w' => e = .returned (.string (boolS an)) ∧ Below W.heap.size W w' := by
  have H := bools_any (x := fun _ => an) hS (by decide)
  exact H.mono fun e w' h => ⟨by rw [h.1, cat1], h.2⟩
theorem lU64g {W : World} {v : Value} (inc sq : Int) (h1 : U64 inc) (h2 : U64 sq) (hS : Slic W v 2 (fun i => .int .u64 (if i = 0 then inc else sq))) : Calls Try.prog 43 #[v] W fun e w' => e = .returned (.string (Num.lebS inc ++ Num.lebS sq)) ∧ Below W.heap.size W w' := by
  have H := uints_any (x := fun i => if i = 0 then inc else sq) hS (by decide) (fun i _ => by split <;> assumption)
  exact H.mono fun e w' h => ⟨by rw [h.1, cat2]; rfl, h.2⟩
theorem lTextg {W : World} {v : Value} (b : ByteArray) (hb : b.size ≤ 1048576) (hS : Slic W v 1 (fun _ => .string b)) : Calls Try.prog 44 #[v] W fun e w' => e = .returned (.string (textS b)) ∧ Below W.heap.size W w' := by
  have H := texts_any (x := fun _ => b) hS (by decide) (fun _ _ => by omega) (by
    rw [← catS_size, show catS (fun _ => textS b) 1 = textS b from cat1 _]
    have := text_size hb
    omega)
  exact H.mono fun e w' h => ⟨by rw [h.1, cat1], h.2⟩
theorem below_new {w Y : World} {o : Obj} (h : Y = w.alloc o) : Below w.heap.size w Y := by subst h; exact (Below.refl _ w).alloc (Nat.le_refl _) _
def EnPost (p : Pk) (w : World) (e : Ending) (w' : World) : Prop := e = .returned (.tuple #[.string (if mayP p then pkS p else ⟨#[]⟩), .int .i64 (if mayP p then 0 else 2)]) ∧ Below w.heap.size w w'
theorem mayP_of {p : Pk} (h : mayP p = true) : U64 p.inc ∧ U64 p.seq ∧ p.body.size ≤ 1048576 := by
  unfold mayP at h
  simp only [Bool.and_eq_true, decide_eq_true_eq] at h
  refine ⟨⟨by omega, by omega⟩, ⟨by omega, by omega⟩, by omega⟩
set_option maxRecDepth 100000 in
set_option maxHeartbeats 2000000 in
theorem penc_any (p : Pk) (w : World) : Calls Try.prog 10 #[pv p] w (EnPost p w) := by
  have HM := Lib.hid (fun W => pmay_any p W)
  unfold EnPost
  cases hm : mayP p
  · simp only [hm] at HM
    clear hm
    obtain ⟨an, inc, sq, body⟩ := p
    unfold pv pcells at *
    dsimp only at *
    have HB := Lib.hid ((Below.refl _ w).alloc (Nat.le_refl _) (.cells #[.bool an, .int .u64 inc, .int .u64 sq, .string body] 24))
    go_enter Try.func10, Try.ntmps10
    go_wp2_with (go_at_call 41; ((with_reducible refine Calls.mono (HM.out _) ?_); rintro e w1 ⟨rfl, hb1⟩))
    go_ret2
    exact ⟨rfl, HB.out.trans (hb1.mono (by simp))⟩
  · have hU := mayP_of hm
    simp only [hm] at HM
    clear hm
    obtain ⟨an, inc, sq, body⟩ := p
    unfold pkS pv pcells at *
    dsimp only at *
    have s1 := bool_size an
    have s2 := lebS_size hU.1.2
    have s3 := lebS_size hU.2.1.2
    have s4 := text_size hU.2.2
    have HX := Lib.hid (Blk.new w 24 #[.bool an, .int .u64 inc, .int .u64 sq, .string body])
    have HBX := Lib.hid ((Below.refl _ w).alloc (Nat.le_refl _) (.cells #[.bool an, .int .u64 inc, .int .u64 sq, .string body] 24))
    have HC3 := Lib.hid (fun (W : World) (v : Value) (h : Slic W v 1 (fun _ => .bool an)) => lBoolg an h)
    have HC4 := Lib.hid (fun (W : World) (v : Value) (h : Slic W v 2 (fun i => .int .u64 (if i = 0 then inc else sq))) => lU64g inc sq hU.1 hU.2.1 h)
    have HC5 := Lib.hid (fun (W : World) (v : Value) (h : Slic W v 1 (fun _ => .string body)) => lTextg body hU.2.2 h)
    clear hU
    rw [ByteArray.append_assoc (a := boolS an)]
    have t2 : (Num.lebS inc ++ Num.lebS sq).size = (Num.lebS inc).size + (Num.lebS sq).size := ByteArray.size_append
    have s5 : (Num.lebS inc ++ Num.lebS sq).size ≤ 20 := by omega
    clear t2 s2 s3
    generalize boolS an = B1 at *
    generalize Num.lebS inc ++ Num.lebS sq = B2 at *
    generalize textS body = B3 at *
    have g1 : ¬ 9223372036854775807 < B1.size + B2.size := by omega
    have g2 : ¬ 9223372036854775807 < B1.size + B2.size + B3.size := by omega
    clear s1 s4 s5
    go_enter Try.func10, Try.ntmps10
    go_upto_region 3 with (go_at_call 41; ((with_reducible refine Calls.mono (HM.out _) ?_); rintro e w1 ⟨rfl, hb1⟩))
    have HX1 := Lib.hid (HX.out.below hb1)
    have HB1 := Lib.hid (HBX.out.trans (hb1.mono (by simp)))
    clear hb1
    generalize hq : w.heap.size = Q at *
    have HQ := Lib.hid hq
    clear hq
    have HXD := Lib.hid (show Blk w1.drew Q 24 #[.bool an, .int .u64 inc, .int .u64 sq, .string body] from HX1.out)
    have HBD := Lib.hid HB1.out.drew
    clear HX1 HB1
    refine Reg.wp_rely 16 (fun w => Blk w Q 24 #[.bool an, .int .u64 inc, .int .u64 sq, .string body] ∧ Below w1.drew.heap.size w1.drew w) (by kernel_rfl) (Reg.relyOk_of (by kernel_rfl)) ⟨HXD.out, Below.refl _ _⟩ (fun w w' h hI => ⟨hI.1.below h, hI.2.trans (h.mono hI.2.size)⟩) ?_
    refine Reg.rely_plain (.pointer (some ⟨Q, 0, none⟩)) rfl (fun a w hI hF => by
        have f1 : a.tmps.getD 1 undef = .pointer (some ⟨Q, 0, none⟩) := hF 1 (Reg.looksB (by kernel_rfl))
        clear hF hI
        simp only [Array.getD_eq_getD_getElem?] at f1
        simp only [execOp]; go_simp) ?_
    refine Reg.rely_plain (.bool an) rfl (fun a w hI hF => by
        have f1 : a.tmps.getD 7 undef = .pointer (some ⟨Q, 0, none⟩) := hF 7 (Reg.looksB (by kernel_rfl))
        have hc : w.cell? ⟨Q, 0, none⟩ = some (.bool an) := by rw [hI.1.cell 0]; rfl
        clear hF hI
        simp only [Array.getD_eq_getD_getElem?] at f1
        simp only [execOp]; go_simp) ?_
    refine Reg.rely_rel (fun v w => Slic w v 1 (fun _ => .bool an)) (fun v w w' h hS => hS.grow h) (fun G hG => by cases hG) rfl (fun a w hI hF => by
      have f1 : a.tmps.getD 8 undef = .bool an := hF 8 (Reg.looksB (by kernel_rfl))
      have hK := Lib.hid (lit1S w 4 (.bool an) (fun _ => .bool an) rfl)
      have hW := Lib.hid (show Reg.Grow w (w.alloc (.cells #[.bool an] 4)) from (Below.refl _ w).alloc (Nat.le_refl _) _)
      clear hF hI
      simp only [Array.getD_eq_getD_getElem?] at f1
      unfold Oper.wp
      simp only [execOp]
      go_simp
      exact ⟨_, rfl, hK.out, hW.out⟩) ?_
    refine Reg.rely_call0 (Reg.Is (.string B1)) (Reg.stab_is _ _) (fun G hG => by cases hG) rfl (fun a w hI hF => by
      have hS : Slic w (a.tmps.getD 9 undef) 1 (fun _ => .bool an) := hF 9 (Reg.looksB (by kernel_rfl))
      generalize hv : a.tmps.getD 9 undef = v at hS
      refine ⟨42, #[v], ?_, (HC3.out w v hS).mono fun e w' h => ⟨_, h.1, rfl, h.2⟩⟩
      clear hF hI hS
      simp only [Array.getD_eq_getD_getElem?] at hv
      simp only [execOp]; go_simp) ?_
    refine Reg.rely_plain (.pointer (some ⟨Q, 1, none⟩)) rfl (fun a w hI hF => by
        have f1 : a.tmps.getD 1 undef = .pointer (some ⟨Q, 0, none⟩) := hF 1 (Reg.looksB (by kernel_rfl))
        clear hF hI
        simp only [Array.getD_eq_getD_getElem?] at f1
        simp only [execOp]; go_simp) ?_
    refine Reg.rely_plain (.int .u64 inc) rfl (fun a w hI hF => by
        have f1 : a.tmps.getD 11 undef = .pointer (some ⟨Q, 1, none⟩) := hF 11 (Reg.looksB (by kernel_rfl))
        have hc : w.cell? ⟨Q, 1, none⟩ = some (.int .u64 inc) := by rw [hI.1.cell 1]; rfl
        clear hF hI
        simp only [Array.getD_eq_getD_getElem?] at f1
        simp only [execOp]; go_simp) ?_
    refine Reg.rely_plain (.pointer (some ⟨Q, 2, none⟩)) rfl (fun a w hI hF => by
        have f1 : a.tmps.getD 1 undef = .pointer (some ⟨Q, 0, none⟩) := hF 1 (Reg.looksB (by kernel_rfl))
        clear hF hI
        simp only [Array.getD_eq_getD_getElem?] at f1
        simp only [execOp]; go_simp) ?_
    refine Reg.rely_plain (.int .u64 sq) rfl (fun a w hI hF => by
        have f1 : a.tmps.getD 13 undef = .pointer (some ⟨Q, 2, none⟩) := hF 13 (Reg.looksB (by kernel_rfl))
        have hc : w.cell? ⟨Q, 2, none⟩ = some (.int .u64 sq) := by rw [hI.1.cell 2]; rfl
        clear hF hI
        simp only [Array.getD_eq_getD_getElem?] at f1
        simp only [execOp]; go_simp) ?_
    refine Reg.rely_rel (fun v w => Slic w v 2 (fun i => .int .u64 (if i = 0 then inc else sq))) (fun v w w' h hS => hS.grow h) (fun G hG => by cases hG) rfl (fun a w hI hF => by
      have f1 : a.tmps.getD 12 undef = .int .u64 inc := hF 12 (Reg.looksB (by kernel_rfl))
      have f2 : a.tmps.getD 14 undef = .int .u64 sq := hF 14 (Reg.looksB (by kernel_rfl))
      have hK := Lib.hid (slic2 w 22 (.int .u64 inc) (.int .u64 sq) (fun i => .int .u64 (if i = 0 then inc else sq)) rfl rfl)
      have hW := Lib.hid (show Reg.Grow w (w.alloc (.cells #[.int .u64 inc, .int .u64 sq] 22)) from (Below.refl _ w).alloc (Nat.le_refl _) _)
      clear hF hI
      simp only [Array.getD_eq_getD_getElem?] at f1 f2
      unfold Oper.wp
      simp only [execOp]
      go_simp
      exact ⟨_, rfl, hK.out, hW.out⟩) ?_
    refine Reg.rely_call0 (Reg.Is (.string B2)) (Reg.stab_is _ _) (fun G hG => by cases hG) rfl (fun a w hI hF => by
      have hS : Slic w (a.tmps.getD 15 undef) 2 (fun i => .int .u64 (if i = 0 then inc else sq)) := hF 15 (Reg.looksB (by kernel_rfl))
      generalize hv : a.tmps.getD 15 undef = v at hS
      refine ⟨43, #[v], ?_, (HC4.out w v hS).mono fun e w' h => ⟨_, h.1, rfl, h.2⟩⟩
      clear hF hI hS
      simp only [Array.getD_eq_getD_getElem?] at hv
      simp only [execOp]; go_simp) ?_
    refine Reg.rely_plain (.string (B1 ++ B2)) rfl (fun a w hI hF => by
        have f1 : a.tmps.getD 10 undef = .string B1 := hF 10 (Reg.looksB (by kernel_rfl))
        have f2 : a.tmps.getD 16 undef = .string B2 := hF 16 (Reg.looksB (by kernel_rfl))
        have hg := g1
        clear hF hI
        simp only [Array.getD_eq_getD_getElem?] at f1 f2
        simp only [execOp]; go_simp) ?_
    refine Reg.rely_plain (.pointer (some ⟨Q, 3, none⟩)) rfl (fun a w hI hF => by
        have f1 : a.tmps.getD 1 undef = .pointer (some ⟨Q, 0, none⟩) := hF 1 (Reg.looksB (by kernel_rfl))
        clear hF hI
        simp only [Array.getD_eq_getD_getElem?] at f1
        simp only [execOp]; go_simp) ?_
    refine Reg.rely_plain (.string body) rfl (fun a w hI hF => by
        have f1 : a.tmps.getD 18 undef = .pointer (some ⟨Q, 3, none⟩) := hF 18 (Reg.looksB (by kernel_rfl))
        have hc : w.cell? ⟨Q, 3, none⟩ = some (.string body) := by rw [hI.1.cell 3]; rfl
        clear hF hI
        simp only [Array.getD_eq_getD_getElem?] at f1
        simp only [execOp]; go_simp) ?_
    refine Reg.rely_rel (fun v w => Slic w v 1 (fun _ => .string body)) (fun v w w' h hS => hS.grow h) (fun G hG => by cases hG) rfl (fun a w hI hF => by
      have f1 : a.tmps.getD 19 undef = .string body := hF 19 (Reg.looksB (by kernel_rfl))
      have hK := Lib.hid (lit1S w 9 (.string body) (fun _ => .string body) rfl)
      have hW := Lib.hid (show Reg.Grow w (w.alloc (.cells #[.string body] 9)) from (Below.refl _ w).alloc (Nat.le_refl _) _)
      clear hF hI
      simp only [Array.getD_eq_getD_getElem?] at f1
      unfold Oper.wp
      simp only [execOp]
      go_simp
      exact ⟨_, rfl, hK.out, hW.out⟩) ?_
    refine Reg.rely_call0 (Reg.Is (.string B3)) (Reg.stab_is _ _) (fun G hG => by cases hG) rfl (fun a w hI hF => by
      have hS : Slic w (a.tmps.getD 20 undef) 1 (fun _ => .string body) := hF 20 (Reg.looksB (by kernel_rfl))
      generalize hv : a.tmps.getD 20 undef = v at hS
      refine ⟨44, #[v], ?_, (HC5.out w v hS).mono fun e w' h => ⟨_, h.1, rfl, h.2⟩⟩
      clear hF hI hS
      simp only [Array.getD_eq_getD_getElem?] at hv
      simp only [execOp]; go_simp) ?_
    refine Reg.rely_plain (.string (B1 ++ B2 ++ B3)) rfl (fun a w hI hF => by
        have f1 : a.tmps.getD 17 undef = .string (B1 ++ B2) := hF 17 (Reg.looksB (by kernel_rfl))
        have f2 : a.tmps.getD 21 undef = .string B3 := hF 21 (Reg.looksB (by kernel_rfl))
        have hg := g2
        clear hF hI
        simp only [Array.getD_eq_getD_getElem?] at f1 f2
        simp only [execOp]; go_simp) ?_
    refine Reg.rely_nil ?_
    refine Reg.final_is ?_
    refine Reg.final_is ?_
    refine Reg.final_rel (fun v13 => ?_)
    refine Reg.final_is ?_
    refine Reg.final_is ?_
    refine Reg.final_is ?_
    refine Reg.final_is ?_
    refine Reg.final_rel (fun v8 => ?_)
    refine Reg.final_is ?_
    refine Reg.final_is ?_
    refine Reg.final_is ?_
    refine Reg.final_is ?_
    refine Reg.final_is ?_
    refine Reg.final_rel (fun v2 => ?_)
    refine Reg.final_is ?_
    refine Reg.final_is ?_
    refine Reg.final_nil (fun w9 hF => ?_)
    have HB3 := Lib.hid hF.1.1.1.2
    clear hF
    simp only [List.drop_succ_cons, List.drop_zero]
    go_simp
    go_wp2_with fail
    refine Reg.fin (by kernel_rfl) ?_
    go_wp2_with fail
    go_ret2
    exact ⟨rfl, by rw [HQ.out]; exact HBD.out.trans (HB3.out.mono (HQ.out ▸ HBD.out.size))⟩
end Go.Proofs.Ytgdgonmhgpflcaa
