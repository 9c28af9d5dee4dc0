import Derived.Test.YtghbjknpffiaiaaGreatMgi
namespace Go.Proofs.YtghbjknpffiaiaaGreat
open Go.RowKit Go.Maps Wire Ms
set_option linter.unusedVariables false
set_option linter.unusedSimpArgs false
def KU8 (x : Int) : Lit := .int .u8 x
theorem kdU8 : Keyed Tryz.prog 5 := int_keyed Tryz.underlying5
theorem keyU8 {x : Int} (h : 0 ≤ x ∧ x ≤ 255) : keyOf Tryz.prog 5 (.int .u8 x) = some (KU8 x) := keyOf_int_mk Tryz.underlying5 (WalkArith.wf_u8 (by omega))
structure FE where
 k : Int
 b : Nat
 A : Array Value
def fval (a : FE) : Value := if a.A.size = 0 then .slice none 0 0 else .slice (some ⟨a.b, 0, none⟩) a.A.size a.A.size
def fdat (a : FE) : Ml.DV := if a.A.size = 0 then .agg [] else .agg [.lit (.int .i64 (a.b : Int)), .lit (.int .i64 (a.A.size : Int))]
def frd : Value → Option (Ml.DV × List MemPlace)
 | .slice none 0 0 => some (.agg [], [])
 | .slice (some ⟨b, 0, none⟩) n m => if n = m ∧ n ≠ 0 then some (.agg [.lit (.int .i64 (b : Int)), .lit (.int .i64 (n : Int))], []) else none
 | _ => none
theorem frd_ok (a : FE) : frd (fval a) = some (fdat a, []) := by
 unfold fval fdat
 by_cases h : a.A.size = 0
 ·rw [if_pos h, if_pos h]; rfl
 ·rw [if_neg h, if_neg h]
  show (if a.A.size = a.A.size ∧ a.A.size ≠ 0 then some _ else none) = _
  rw [if_pos ⟨rfl, h⟩]
theorem frd_inv (v : Value) (a : FE) (ps : List MemPlace) (h : frd v = some (fdat a, ps)) : v = fval a := by
 unfold frd at h
 split at h
 ·injection h with h
  injection h with h _
  unfold fdat at h
  unfold fval
  by_cases hz : a.A.size = 0
  ·rw [if_pos hz]
  ·rw [if_neg hz] at h; simp at h
 ·rename_i b n m
  split at h
  ·rename_i hc
   injection h with h
   injection h with h _
   unfold fdat at h
   unfold fval
   by_cases hz : a.A.size = 0
   ·rw [if_pos hz] at h; simp at h
   ·rw [if_neg hz] at h
    rw [if_neg hz]
    simp only [DataW.agg.injEq, List.cons.injEq, DataW.lit.injEq, Lit.int.injEq, and_true, true_and] at h
    obtain ⟨h1, h2⟩ := h
    have e1 : b = a.b := by omega
    have e2 : n = a.A.size := by omega
    rw [← hc.1, e1, e2]
  ·cases h
 ·cases h
def layF : Ml.Lay FE where
 key a := KU8 a.k
 val := fval
 dat := fdat
 rd := frd
 rdm := frd_ok
 inv := frd_inv
 lit _ := trivial
def fcell (f : FuncId) : Value := .func (.func f) #[] #[]
structure FX (w0 w : World) (h fb jb : Nat) (L : List FE) : Prop where
 map : Ml.At layF Tryz.prog 5 w h L L.length
 row : ∀ a ∈ L, a.A.size ≠ 0 → Blk w a.b 92 a.A
 bel : Below w0.heap.size w0 w
 fu : Blk w fb 92 #[fcell 65]
 jo : Blk w jb 92 #[fcell 66]
 ge : w0.heap.size ≤ h
section
variable {w0 w w' : World} {h fb jb : Nat} {L : List FE}
theorem FX.to (x : FX w0 w h fb jb L) (hb : Below w.heap.size w w') : FX w0 w' h fb jb L :=
 ⟨x.map.below hb, fun a ha hn => (x.row a ha hn).below hb, x.bel.trans (hb.mono x.bel.size), x.fu.below hb, x.jo.below hb, x.ge⟩
theorem FX.alloc (x : FX w0 w h fb jb L) (o : Obj) : FX w0 (w.alloc o) h fb jb L := x.to ((Below.refl _ w).alloc (Nat.le_refl _) o)
theorem FX.ins (x : FX w0 w h fb jb L) {g : FE} {D : Ml.DV} (hb : w.grownBy w' (some h)) (hm : Ml.At layF Tryz.prog 5 w' h (L ++ [g]) (L.length + 1)) (hr : g.A.size ≠ 0 → Blk w g.b 92 g.A) : FX w0 w' h fb jb (L ++ [g]) := by
 have o : Only (· = h) w w' := ⟨hb.os, hb.tape, hb.output, hb.size, fun i hi hne => hb.block i hi (fun e => hne (by injection e))⟩
 have nb : ∀ {b : Nat} {A : Array Value}, Blk w b 92 A → Blk w' b 92 A := fun {b A} hk => hk.only o (fun e => by
  have e' : b = h := e
  rw [e'] at hk
  exact x.map.no_cells hk)
 refine ⟨by rw [List.length_append]; exact hm, fun a ha hn => ?_, x.bel.trans (Only.below o x.bel.size fun k hk => by have := x.ge; have e : k = h := hk; omega), nb x.fu, nb x.jo, x.ge⟩
 rcases List.mem_append.1 ha with ha | ha
 ·exact nb (x.row a ha hn)
 ·simp at ha; subst ha; exact nb (hr hn)
end
section
variable {w0 w : World} {h fb jb : Nat} {L : List FE} {ops : Array Oper} {rest : List Oper} {o : Oper} {a : Act} {Q : Exit → Act → World → Prop}
theorem wplIns (hg : o.guard = none) (m x v : Operand) (hop : o.op = Op.insert 90 m x v) (hp : FX w0 w h fb jb L) (hm : a.eval m = .map (some h)) (g : FE) (hx : a.eval x = .int .u8 g.k) (hv : a.eval v = fval g)
  (hk : 0 ≤ g.k ∧ g.k ≤ 255) (hL : Nat.ble L.length 99 = true) (hn : ¬ ∃ b ∈ L, b.k = g.k) (hr : g.A.size ≠ 0 → Blk w g.b 92 g.A) (hK : ∀ w', FX w0 w' h fb jb (L ++ [g]) → wpList Tryz.prog ops Q rest (a.put o.dst undef) w') :
  wpList Tryz.prog ops Q (o :: rest) a w := by
 refine wpList_plain hg fun K' hK' => ?_
 have hm0 := hp.map
 obtain ⟨D, hown, h1, h2, h3⟩ := hm0
 obtain ⟨w', hrun, r1, r2⟩ := hown.update kdU8 Tryz.underlying90 (by have := Nat.le_of_ble_eq_true hL; unfold maxLen; omega) (keyU8 hk) (frd_ok g)
 unfold Oper.wp
 simp [execOp, hop, hm, hx, hv, hrun, Result.andThen]
 refine hK' _ _ (hK w' (hp.ins (D := D) r2 ?_ hr))
 exact Ml.At.of_put (l := layF) kdU8 hown h1 h2 h3 (g := g) (fun ⟨b, hb, e⟩ => hn ⟨b, hb, by have e' : KU8 b.k = KU8 g.k := e; unfold KU8 at e'; injection e'⟩) r1
theorem insNil (hg : o.guard = none) (m x v : Operand) (hop : o.op = Op.insert 90 m x v) (hv : a.eval v = .slice none 0 0) (hp : FX w0 w h fb jb L) (hm : a.eval m = .map (some h)) {k : Int} (hx : a.eval x = .int .u8 k)
  (hk : 0 ≤ k ∧ k ≤ 255) (hL : Nat.ble L.length 99 = true) (hn : L.all (fun b => !decide (b.k = k)) = true) (hK : ∀ w', FX w0 w' h fb jb (L ++ [⟨k, 0, #[]⟩]) → wpList Tryz.prog ops Q rest (a.put o.dst undef) w') :
  wpList Tryz.prog ops Q (o :: rest) a w :=
 wplIns hg m x v hop hp hm ⟨k, 0, #[]⟩ hx hv hk hL (fun ⟨b, hb, e⟩ => by have := List.all_eq_true.1 hn b hb; simp [e] at this) (fun h => absurd rfl h) hK
theorem insRow {b : Nat} {A : Array Value} (hr : Blk w b 92 A) (hg : o.guard = none) (m x v : Operand) (hop : o.op = Op.insert 90 m x v) {n : Nat} (hv : a.eval v = .slice (some ⟨b, 0, none⟩) n n) (hp : FX w0 w h fb jb L) (hm : a.eval m = .map (some h)) {k : Int} (hx : a.eval x = .int .u8 k)
  (hA : A.size = n) (hnz : n ≠ 0) (hk : 0 ≤ k ∧ k ≤ 255) (hL : Nat.ble L.length 99 = true) (hn : L.all (fun b => !decide (b.k = k)) = true) (hK : ∀ w', FX w0 w' h fb jb (L ++ [⟨k, b, A⟩]) → wpList Tryz.prog ops Q rest (a.put o.dst undef) w') :
  wpList Tryz.prog ops Q (o :: rest) a w :=
 wplIns hg m x v hop hp hm ⟨k, b, A⟩ hx (by rw [hv]; unfold fval; dsimp only; rw [hA, if_neg hnz]) hk hL (fun ⟨b, hb, e⟩ => by have := List.all_eq_true.1 hn b hb; simp [e] at this) (fun _ => hr) hK
theorem insNew {A : Array Value} (hg : o.guard = none) (m x v : Operand) (hop : o.op = Op.insert 90 m x v) {n : Nat} (hv : a.eval v = .slice (some ⟨w.heap.size, 0, none⟩) n n) (hp : FX w0 w h fb jb L) (hm : a.eval m = .map (some h)) {k : Int} (hx : a.eval x = .int .u8 k)
  (hA : A.size = n) (hnz : n ≠ 0) (hk : 0 ≤ k ∧ k ≤ 255) (hL : Nat.ble L.length 99 = true) (hn : L.all (fun b => !decide (b.k = k)) = true) (hK : ∀ w', FX w0 w' h fb jb (L ++ [⟨k, w.heap.size, A⟩]) → wpList Tryz.prog ops Q rest (a.put o.dst undef) w') :
  wpList Tryz.prog ops Q (o :: rest) a (w.alloc (.cells A 92)) :=
 insRow (Blk.new w 92 A) hg m x v hop hv (hp.alloc _) hm hx hA hnz hk hL hn hK
end
def ftable : List (Int × Array Value) :=
 [(1, #[]), (2, #[]), (5, #[]), (3, #[fcell 65]), (9, #[fcell 65]), (14, #[fcell 66]), (15, #[fcell 66]), (16, #[fcell 66]), (6, #[fcell 67]), (4, #[fcell 68, fcell 69]),
  (7, #[fcell 66, fcell 70, fcell 71, fcell 72, fcell 68, fcell 73]), (8, #[fcell 74]), (10, #[fcell 66, fcell 71, fcell 72]), (11, #[fcell 68]), (12, #[fcell 69, fcell 75]),
  (13, #[fcell 76, fcell 70, fcell 77, fcell 65]), (17, #[fcell 66, fcell 78, fcell 79])]
def HasPost (w : World) (e : Ending) (w' : World) : Prop := ∃ h fb jb L, e = .returned (.map (some h)) ∧ FX w w' h fb jb L ∧ L.map (fun a => (a.k, a.A)) = ftable
set_option maxRecDepth 100000 in
set_option maxHeartbeats 4000000 in
theorem has_any (w : World) : Calls Tryz.prog 51 #[] w (HasPost w) := by
 have hmm := @run_makeMap Tryz.prog
 have B1 := Blk.new w 92 #[fcell 65]
 have B2 := Blk.new (w.alloc (.cells #[fcell 65] 92)) 92 #[fcell 66]
 have e1 : (w.alloc (.cells #[fcell 65] 92)).heap.size = w.heap.size + 1 := by simp
 have e2 : ((w.alloc (.cells #[fcell 65] 92)).alloc (.cells #[fcell 66] 92)).heap.size = w.heap.size + 1 + 1 := by simp
 have MM := Ml.At.made ((w.alloc (.cells #[fcell 65] 92)).alloc (.cells #[fcell 66] 92)) Tryz.prog 5 layF
 rw [e2] at MM
 rw [e1] at B2
 have HP : Hid (FX w (((w.alloc (.cells #[fcell 65] 92)).alloc (.cells #[fcell 66] 92)).alloc (.map #[] 0)) (w.heap.size + 1 + 1) w.heap.size (w.heap.size + 1) []) := Lib.hid
  ⟨MM, (fun a ha => by simp at ha), (((Below.refl _ w).alloc (Nat.le_refl _) _).alloc (by simp) _).alloc (by simp; omega) _, (B1.alloc _).alloc _, B2.alloc _, by omega⟩
 clear MM e1 e2
 clear B1 B2
 go_enter Tryz.func51, Tryz.ntmps51
 go_wp2_with (first
  | (refine insNil rfl _ _ _ rfl rfl HP.out rfl rfl (by decide) rfl rfl ?_; clear HP; intro w9 hp9; have HP := Lib.hid hp9; clear hp9)
  | (refine insNew rfl _ _ _ rfl rfl HP.out rfl rfl rfl (by decide) (by decide) rfl rfl ?_; clear HP; intro w9 hp9; have HP := Lib.hid hp9; clear hp9)
  | (refine insRow HP.out.fu rfl _ _ _ rfl rfl HP.out rfl rfl rfl (by decide) (by decide) rfl rfl ?_; clear HP; intro w9 hp9; have HP := Lib.hid hp9; clear hp9)
  | (refine insRow HP.out.jo rfl _ _ _ rfl rfl HP.out rfl rfl rfl (by decide) (by decide) rfl rfl ?_; clear HP; intro w9 hp9; have HP := Lib.hid hp9; clear hp9))
 go_ret
 exact ⟨_, _, _, _, rfl, HP.out, rfl⟩
end Go.Proofs.YtghbjknpffiaiaaGreat
