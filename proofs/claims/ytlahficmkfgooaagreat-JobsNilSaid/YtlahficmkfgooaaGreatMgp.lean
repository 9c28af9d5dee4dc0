import Derived.Test.YtlahficmkfgooaaGreatMgn
import Derived.BigRegion
import Derived.StillTailTactics
import Derived.Laws.ResultCell
import Derived.Test.YtlahficmkfgooaaGreatMgc

/- The walks of New, none, row, put. No condition but that jobs are. -/
namespace Go.Proofs.YtlahficmkfgooaaGreat
open Go.RowKit Go.Maps Jb
set_option linter.unusedVariables false
set_option linter.unusedSimpArgs false
set_option maxRecDepth 100000 in
theorem newj_bad {m : Int} (h : m < 1 ∨ 256 < m) (w : World) : Calls Tryz.prog 25 #[.int .i64 m] w fun e w' => e = .returned (.tuple #[.pointer none, .int .i64 2]) ∧ w = w' := by
  by_cases h1 : m < 1
  · clear h
    go_enter Tryz.func25, Tryz.ntmps25
    go_wp2_with fail
    go_ret2
    exact ⟨rfl, rfl⟩
  · have h2 : 256 < m := by omega
    clear h
    go_enter Tryz.func25, Tryz.ntmps25
    go_wp2_with fail
    go_ret2
    exact ⟨rfl, rfl⟩
def NewJP (w : World) (B0 : Nat) (m : Int) (e : Ending) (w' : World) : Prop := ∃ b h t, e = .returned (.tuple #[.pointer (some ⟨b, 0, none⟩), .int .i64 0]) ∧ JW w' B0 b h t (fun _ => 0) (fun _ => .slice none 0 0) ⟨m, 0, []⟩ 0 ∧ Below w.heap.size w w'
set_option maxRecDepth 100000 in
set_option maxHeartbeats 1000000 in
theorem newj_any {m : Int} (h1 : 1 ≤ m) (h2 : m ≤ 256) (w : World) {B0 : Nat} (hB : B0 ≤ w.heap.size) : Calls Tryz.prog 25 #[.int .i64 m] w (NewJP w B0 m) := by
  have HV : Hid (JInv ⟨m, 0, []⟩) := Lib.hid ⟨⟨h1, h2⟩, Int.le_refl _, rfl⟩
  have HB := Lib.hid hB
  have h1' : ¬ m < 1 := by omega
  have h2' : ¬ 256 < m := by omega
  have hmm := @run_makeMap Tryz.prog
  clear hB h1 h2
  go_enter Tryz.func25, Tryz.ntmps25
  go_wp2_with fail
  go_ret2
  refine ⟨w.heap.size + 2, w.heap.size, w.heap.size + 1, rfl, ⟨?_, ?_, ?_, (fun r hr => by cases hr), (fun r hr => by cases hr), by omega, ?_, ?_, (fun r hr => by cases hr), HV.out⟩, ?_⟩
  · have := Blk.new ((w.alloc (.map #[] 0)).alloc (.map #[] 0)) 96 #[.int .i64 m, .int .u64 0, .map (some w.heap.size), .map (some (w.heap.size + 1))]
    simpa using this
  · have := Ml.At.made w Tryz.prog 37 layU
    exact this.below (((Below.refl _ _).alloc (Nat.le_refl _) _).alloc (by simp) _)
  · have := Ml.At.made (w.alloc (.map #[] 0)) Tryz.prog 9 layT
    have := this.below ((Below.refl _ _).alloc (Nat.le_refl _) (.cells #[.int .i64 m, .int .u64 0, .map (some w.heap.size), .map (some (w.heap.size + 1))] 96))
    simpa [keysT] using this
  · have := HB.out; omega
  · have := HB.out; simp; omega
  · exact (((Below.refl _ _).alloc (Nat.le_refl _) _).alloc (by simp) _).alloc (by simp; omega) _
set_option maxRecDepth 100000 in
theorem jnone_nil (w : World) : Calls Tryz.prog 47 #[.pointer none] w fun e w' => e = .returned (.bool true) ∧ w = w' := by
  go_enter Tryz.func47, Tryz.ntmps47
  go_wp2_with fail
  go_ret
  exact ⟨rfl, rfl⟩
theorem mapnil (h : Nat) (w : World) : (binOp .eql 93 (.map (some h)) (.map none)).run Tryz.prog w = .ok (.bool false) w := by kernel_rfl
section
variable {w w' w1 : World} {B0 b h t N : Nat} {B : Int → Nat} {V : Int → Value} {s : JS}
set_option maxRecDepth 100000 in
theorem jnone_any (c : JW w B0 b h t B V s N) : Calls Tryz.prog 47 #[.pointer (some ⟨b, 0, none⟩)] w fun e w' => e = .returned (.bool false) ∧ w = w' := by
  have c2 := c.c2
  have hm := mapnil h w
  clear c
  go_enter Tryz.func47, Tryz.ntmps47
  go_wp2_with fail
  go_ret
  exact ⟨rfl, rfl⟩
/-- A job's row, with numbers of its own. -/
def RowP (w : World) (r : JR) (e : Ending) (w' : World) : Prop := ∃ v, e = .returned (.agg (jcells r v).toArray) ∧ IRow w' w.heap.size v r.inp ∧ Below w.heap.size w w'
set_option maxRecDepth 100000 in
set_option maxHeartbeats 2000000 in
theorem row_any {g : Nat} {r : JR} {v : Value} (hb : Blk w g 99 (jcells r v).toArray) (hi : IntsAt w v r.inp) (hl : r.inp.length ≤ 1000) : Calls Tryz.prog 54 #[.pointer (some ⟨g, 0, none⟩)] w (RowP w r) := by
  obtain ⟨p, cap, rfl⟩ := hi.slice
  obtain ⟨n, hn⟩ : ∃ n, n = r.inp.length := ⟨_, rfl⟩
  rw [← hn] at hi hb
  have HN := Lib.hid hn
  have HL := Lib.hid hl
  have HB := Lib.hid (hb.alloc (.cells #[.int .u64 0, .string ⟨#[]⟩, .string ⟨#[]⟩, .slice none 0 0, .int .i64 0, .int .u8 0, .int .i64 0, .int .i64 0] 48))
  have HI := Lib.hid (hi.below ((Below.refl _ w).alloc (Nat.le_refl _) (.cells #[.int .u64 0, .string ⟨#[]⟩, .string ⟨#[]⟩, .slice none 0 0, .int .i64 0, .int .u8 0, .int .i64 0, .int .i64 0] 48)))
  have HZ := Lib.hid (Blk.new w 48 #[.int .u64 0, .string ⟨#[]⟩, .string ⟨#[]⟩, .slice none 0 0, .int .i64 0, .int .u8 0, .int .i64 0, .int .i64 0])
  have HW := Lib.hid ((Below.refl _ w).alloc (Nat.le_refl _) (.cells #[.int .u64 0, .string ⟨#[]⟩, .string ⟨#[]⟩, .slice none 0 0, .int .i64 0, .int .u8 0, .int .i64 0, .int .i64 0] 48))
  have hgl := hb.lt
  clear hb hi hl hn
  go_enter Tryz.func54, Tryz.ntmps54
  go_upto_region 1 with fail
  obtain ⟨w0, hw0⟩ : ∃ w0, w0 = w.alloc (.cells #[.int .u64 0, .string ⟨#[]⟩, .string ⟨#[]⟩, .slice none 0 0, .int .i64 0, .int .u8 0, .int .i64 0, .int .i64 0] 48) := ⟨_, rfl⟩
  rw [← hw0] at HB HI HZ HW ⊢
  clear hw0
  generalize hP0 : w.heap.size = P0 at *
  have HP0 := Lib.hid hP0
  clear hP0
  go_upto_region 2 with (first | (refine wpl_load_blk HB.out rfl _ _ rfl rfl Tryz.underlying48 rfl (by kernel_rfl) ?_) | (refine wpl_store_blk (c' := (jcells r (.slice p n cap)).toArray) (Blk.new _ _ _) rfl _ _ _ rfl rfl rfl (by kernel_rfl) rfl (by simp [jcells, Value.oneCell']) ?_; go_loud (intro w1 hb1 ho1; have HX1 := Lib.hid hb1; have HW1 := Lib.hid (al_step ho1); clear hb1 ho1)))
  have HQ1 : Hid (w0.heap.size < w1.heap.size ∧ P0 < w0.heap.size) := Lib.hid ⟨HX1.out.lt, HZ.out.lt⟩
  have HI1 := Lib.hid (HI.out.below HW1.out)
  have HZ1 := Lib.hid (HZ.out.below HW1.out)
  have HB1 := Lib.hid (HW.out.trans (HW1.out.mono (Nat.le_of_lt HZ.out.lt)))
  clear HB HI HZ HW HW1 hgl
  generalize w0.heap.size = P1 at *
  have y3 : w1.cell? ⟨P1, 3, none⟩ = some (.slice p n cap) := HX1.out.cell 3
  have HCL := Lib.hid (clone_ints HI1.out HN.out HL.out)
  go_upto_region 3 with (go_at_call 88; go_loud ((with_reducible refine HCL.out.mono ?_); rintro e w2 ⟨v, rfl, hq, hb2⟩; obtain ⟨p2, c2, rfl⟩ := owns_slice hq; have HQ := Lib.hid hq; have HB2 := Lib.hid (HB1.out.trans (hb2.mono (by have := HQ1.out; omega))); have HX2 := Lib.hid (HX1.out.below hb2); have HZ2 := Lib.hid (HZ1.out.below hb2); have g3 : w2.cell? ⟨P1, 3, none⟩ = some (.slice p n cap) := HX2.out.cell 3; have g3f := HX2.out.frozen 3; clear hq hb2 y3))
  have HX3 : Hid (Blk (w2.setCell ⟨P1, 3, none⟩ (.slice p2 r.inp.length c2)) P1 48 (jcells r (.slice p2 r.inp.length c2)).toArray) := Lib.hid (HX2.out.set 3 _)
  have HZ3 : Hid (Blk (w2.setCell ⟨P1, 3, none⟩ (.slice p2 r.inp.length c2)) P0 48 #[.int .u64 0, .string ⟨#[]⟩, .string ⟨#[]⟩, .slice none 0 0, .int .i64 0, .int .u8 0, .int .i64 0, .int .i64 0]) := Lib.hid (HZ2.out.set_ne _ (by have := HQ1.out; dsimp only; omega))
  have HQ3 : Hid (IRow (w2.setCell ⟨P1, 3, none⟩ (.slice p2 r.inp.length c2)) w1.heap.size (.slice p2 r.inp.length c2) r.inp) := Lib.hid (IRow.only HQ.out ((Only.refl (· = P1) w2).set1) (fun g A hg _ e => by have e' : g = P1 := e; have := HQ1.out; omega))
  have HB3 : Hid (Below P0 w (w2.setCell ⟨P1, 3, none⟩ (.slice p2 r.inp.length c2))) := Lib.hid (HB2.out.setCell (p := ⟨P1, 3, none⟩) (by have := HQ1.out; dsimp only; omega) _)
  clear g3 g3f HX2 HZ2 HQ HB2 HX1 HZ1 HI1 HCL
  generalize w2.setCell ⟨P1, 3, none⟩ (.slice p2 r.inp.length c2) = w3 at *
  go_wp2_with (first | (refine wpl_load_blk HX3.out rfl _ _ rfl rfl Tryz.underlying48 rfl (by kernel_rfl) ?_) | (refine wpl_store_blk (c' := (jcells r (.slice p2 r.inp.length c2)).toArray) HZ3.out rfl _ _ _ rfl rfl rfl (by kernel_rfl) rfl (by simp [jcells, Value.oneCell']) ?_; go_loud (intro w4 hb4 ho4; have HX4 := Lib.hid hb4; have HO4 := Lib.hid ho4; clear hb4 ho4)))
  exact ret_cell (cs := (jcells r (.slice p2 r.inp.length c2)).toArray) (T := 48) rfl rfl HX4.out Tryz.underlying48 rfl (by kernel_rfl) rfl ⟨_, rfl, by rw [HP0.out]; exact (IRow.only HQ3.out HO4.out (fun g A hg _ e => by have e' : g = P0 := e; have := HQ1.out; omega)).ge (by have := HQ1.out; omega), by rw [HP0.out]; exact HB3.out.trans (Only.below HO4.out (by have h1 := HB3.out.size; have h2 := HP0.out; omega) (fun k e => by have e' : k = P0 := e; omega))⟩
def PutP (w : World) (B0 b h t : Nat) (s : JS) (x : JR) (N : Nat) (e : Ending) (w' : World) : Prop := e = .returned (.tuple #[]) ∧ ∃ B' V', JW w' B0 b h t B' V' { s with rows := s.rows ++ [x] } (N + 1) ∧ OnJ B0 b h t w w'
set_option maxRecDepth 100000 in
set_option maxHeartbeats 2000000 in
theorem put_any (c : JW w B0 b h t B V s N) {x : JR} {vx : Value} (hi : IntsAt w vx x.inp) (hx : U64 x.job ∧ x.inp.length ≤ 100) (hv : JInv { s with rows := s.rows ++ [x] }) (hN : N < maxLen) :
    Calls Tryz.prog 51 #[.pointer (some ⟨b, 0, none⟩), .agg #[.int .u64 x.job, .string x.tok, .string x.prog, vx, .int .i64 x.fuel, .int .u8 x.st, .int .i64 x.val, .int .i64 x.err]] w (PutP w B0 b h t s x N) := by
  obtain ⟨p, cap, rfl⟩ := hi.slice
  obtain ⟨n, hn⟩ : ∃ n, n = x.inp.length := ⟨_, rfl⟩
  rw [← hn] at hi ⊢
  have HN := Lib.hid hn
  have HL := Lib.hid hx
  have HV := Lib.hid (And.intro hv hN)
  have HC := Lib.hid c
  have HI := Lib.hid (hi.below ((Below.refl _ w).alloc (Nat.le_refl _) (.cells (jcells x (.slice p n cap)).toArray 48)))
  have HX := Lib.hid (Blk.new w 48 (jcells x (.slice p n cap)).toArray)
  have HW := Lib.hid ((Below.refl _ w).alloc (Nat.le_refl _) (.cells (jcells x (.slice p n cap)).toArray 48))
  clear c hi hx hv hN hn
  go_enter Tryz.func51, Tryz.ntmps51
  go_upto_region 1 with fail
  obtain ⟨w0, hw0⟩ : ∃ w0, w0 = w.alloc (.cells (jcells x (.slice p n cap)).toArray 48) := ⟨_, rfl⟩
  have hw0' : w.alloc (.cells #[.int .u64 x.job, .string x.tok, .string x.prog, .slice p n cap, .int .i64 x.fuel, .int .u8 x.st, .int .i64 x.val, .int .i64 x.err] 48) = w0 := hw0.symm
  rw [hw0']
  rw [← hw0] at HI HX HW
  clear hw0 hw0'
  generalize hP : w.heap.size = P at *
  have HP := Lib.hid hP
  clear hP
  have HX0 := Lib.hid HX.out.lt
  have y3 : w0.cell? ⟨P, 3, none⟩ = some (.slice p n cap) := HX.out.cell 3
  have HCL := Lib.hid (clone_ints HI.out HN.out (by have := HL.out.2; omega))
  go_upto_region 2 with (go_at_call 88; go_loud ((with_reducible refine HCL.out.mono ?_); rintro e w2 ⟨v, rfl, hq, hb2⟩; obtain ⟨p2, c2, rfl⟩ := owns_slice hq; have HQ := Lib.hid hq; have HB2 := Lib.hid (HW.out.trans (hb2.mono (Nat.le_of_lt HX.out.lt))); have HX2 := Lib.hid (HX.out.below hb2); have g3 : w2.cell? ⟨P, 3, none⟩ = some (.slice p n cap) := HX2.out.cell 3; have g3f := HX2.out.frozen 3; clear hq hb2 y3))
  have HX3 : Hid (Blk (w2.setCell ⟨P, 3, none⟩ (.slice p2 x.inp.length c2)) P 48 (jcells x (.slice p2 x.inp.length c2)).toArray) := Lib.hid (HX2.out.set 3 _)
  have HQ3 : Hid (IRow (w2.setCell ⟨P, 3, none⟩ (.slice p2 x.inp.length c2)) P (.slice p2 x.inp.length c2) x.inp) := Lib.hid ((IRow.only HQ.out ((Only.refl (· = P) w2).set1) (fun g A hg hA e => by have e' : g = P := e; subst e'; exact absurd (blk_ty hA HX2.out) (by decide))).ge (Nat.le_of_lt HX0.out))
  have HB3 : Hid (Below P w (w2.setCell ⟨P, 3, none⟩ (.slice p2 x.inp.length c2))) := Lib.hid (HB2.out.setCell (p := ⟨P, 3, none⟩) (Nat.le_refl _) _)
  clear g3 g3f HX2 HQ HB2 HX HI HCL HW
  generalize w2.setCell ⟨P, 3, none⟩ (.slice p2 x.inp.length c2) = w3 at *
  have HX3L : Hid (Blk w3 P 48 #[.int .u64 x.job, .string x.tok, .string x.prog, .slice p2 x.inp.length c2, .int .i64 x.fuel, .int .u8 x.st, .int .i64 x.val, .int .i64 x.err]) := Lib.hid HX3.out
  go_upto_region 3 with (refine wpl_load_blk HX3L.out rfl _ _ rfl rfl Tryz.underlying48 rfl (by kernel_rfl) ?_)
  obtain ⟨X, hX⟩ : ∃ X, X = w3.alloc (.cells #[.int .u64 x.job, .string x.tok, .string x.prog, .slice p2 x.inp.length c2, .int .i64 x.fuel, .int .u8 x.st, .int .i64 x.val, .int .i64 x.err] 99) := ⟨_, rfl⟩
  rw [← hX]
  have HQX : Hid (Blk X w3.heap.size 99 (jcells x (.slice p2 x.inp.length c2)).toArray) := Lib.hid (by rw [hX]; exact Blk.new _ _ _)
  have HPX : Hid (Blk X P 48 (jcells x (.slice p2 x.inp.length c2)).toArray) := Lib.hid (by rw [hX]; exact HX3.out.alloc _)
  have HIX : Hid (IRow X P (.slice p2 x.inp.length c2) x.inp) := Lib.hid (by rw [hX]; exact IRow.below HQ3.out ((Below.refl _ _).alloc (Nat.le_refl _) _))
  have HBX : Hid (Below P w X) := Lib.hid (by rw [hX]; exact HB3.out.alloc (Nat.le_of_lt HX3.out.lt) _)
  have HQL : Hid (P ≤ w3.heap.size) := Lib.hid (Nat.le_of_lt HX3.out.lt)
  clear hX HX3 HX3L HQ3 HB3
  generalize w3.heap.size = Q at *
  have hBX : Below w.heap.size w X := by rw [HP.out]; exact HBX.out
  have cX := HC.out.below hBX
  obtain ⟨st1, X1, X2, st2, X3, X4, r1, r2, r3, r4, hjw, hon, hbk⟩ := HC.out.add (X := X.drew) (Q := Q) (vq := .slice p2 x.inp.length c2) hBX.drew HQX.out.drew (by rw [HP.out]; exact HQL.out) ((IRow.below HIX.out (Below.refl _ _).drew).ge (by have := HC.out.sz; rw [HP.out] at this; exact this)) HV.out.1 HL.out HV.out.2
  have HJW := Lib.hid (And.intro hjw hon)
  obtain ⟨b1, b2, b3⟩ := hbk _ _ _ cX.blk.drew
  obtain ⟨p1, p2', p3⟩ := hbk _ _ _ HPX.out.drew
  have c21 : X1.cell? ⟨b, 2, none⟩ = some (.map (some h)) := b1.cell 2
  have c22 : X2.cell? ⟨b, 2, none⟩ = some (.map (some h)) := b2.cell 2
  have c23 : X3.cell? ⟨b, 2, none⟩ = some (.map (some h)) := b3.cell 2
  have c31 : X1.cell? ⟨b, 3, none⟩ = some (.map (some t)) := b1.cell 3
  have c32 : X2.cell? ⟨b, 3, none⟩ = some (.map (some t)) := b2.cell 3
  have c33 : X3.cell? ⟨b, 3, none⟩ = some (.map (some t)) := b3.cell 3
  have e01 : X1.cell? ⟨P, 0, none⟩ = some (.int .u64 x.job) := p1.cell 0
  have e02 : X2.cell? ⟨P, 0, none⟩ = some (.int .u64 x.job) := p2'.cell 0
  have e03 : X3.cell? ⟨P, 0, none⟩ = some (.int .u64 x.job) := p3.cell 0
  have e11 : X1.cell? ⟨P, 1, none⟩ = some (.string x.tok) := p1.cell 1
  have e12 : X2.cell? ⟨P, 1, none⟩ = some (.string x.tok) := p2'.cell 1
  have e13 : X3.cell? ⟨P, 1, none⟩ = some (.string x.tok) := p3.cell 1
  have c2' : X.cell? ⟨b, 2, none⟩ = some (.map (some h)) := cX.c2
  have c3' : X.cell? ⟨b, 3, none⟩ = some (.map (some t)) := cX.c3
  have e0 : X.cell? ⟨P, 0, none⟩ = some (.int .u64 x.job) := HPX.out.cell 0
  have e1 : X.cell? ⟨P, 1, none⟩ = some (.string x.tok) := HPX.out.cell 1
  clear hbk b1 b2 b3 p1 p2' p3 hBX cX hjw hon HQX HPX HIX HBX HQL HC
  go_region
  all_goals (go_wp2_with fail)
  all_goals go_end0
  all_goals exact ⟨rfl, _, _, HJW.out.1, HJW.out.2⟩
end
end Go.Proofs.YtlahficmkfgooaaGreat


/- The walks of Cancel, Done, Find and of what they hand to 'with'. No condition but that jobs are. -/
namespace Go.Proofs.YtlahficmkfgooaaGreat
open Go.RowKit Go.Maps Jb
set_option linter.unusedVariables false
set_option linter.unusedSimpArgs false
section
variable {w w' w1 : World} {B0 b h t N : Nat} {B : Int → Nat} {V : Int → Value} {s : JS}
/-- A job turned, where it stands. -/
theorem JW.turn (c : JW w B0 b h t B V s N) {x : JR} (hx : x ∈ s.rows) {f : JR → JR} (hf : (f x).job = x.job ∧ (f x).tok = x.tok ∧ (f x).inp = x.inp) {W : World} (hW : Only (· = B x.job) w W) (hb : Blk W (B x.job) 99 (jcells (f x) (V x.job)).toArray) (hv : JInv { s with rows := setR s.rows x.job f }) :
    JW W B0 b h t B V { s with rows := setR s.rows x.job f } N ∧ OnJ B0 b h t w W := by
  obtain ⟨x1, x2, x3⟩ := c.jb x hx
  have hg := c.inv.good.1
  have key : ∀ y ∈ s.rows, (if y.job = x.job then f y else y).job = y.job ∧ (if y.job = x.job then f y else y).tok = y.tok ∧ (if y.job = x.job then f y else y).inp = y.inp := fun y hy => by
    by_cases e : y.job = x.job
    · have : y = x := hg.uniq hy hx e
      subst this
      rw [if_pos rfl]; exact hf
    · rw [if_neg e]; exact ⟨rfl, rfl, rfl⟩
  have hkU : keysU B (setR s.rows x.job f) = keysU B s.rows := by
    unfold keysU setR
    rw [List.map_map]
    exact List.map_congr_left fun y hy => by show ((if y.job = x.job then f y else y).job, B (if y.job = x.job then f y else y).job) = _; rw [(key y hy).1]
  have hkT : keysT B (setR s.rows x.job f) = keysT B s.rows := by
    unfold keysT setR
    rw [List.map_map]
    exact List.map_congr_left fun y hy => by show ((if y.job = x.job then f y else y).tok, B (if y.job = x.job then f y else y).job) = _; rw [(key y hy).1, (key y hy).2.1]
  have nb : ∀ {k : Nat} {T : TypeId} {A : Array Value}, Blk w k T A → T ≠ 99 → Blk W k T A := fun hk hT => hk.only hW (fun e => hT (by have e' : _ = B x.job := e; subst e'; exact blk_ty hk x1))
  refine ⟨⟨nb c.blk (by decide), by rw [hkU]; exact c.mp.only hW (fun e => mapk_no c.mp x1 e), by rw [hkT]; exact c.tk.only hW (fun e => mapk_no c.tk x1 e), fun r hr => ?_, fun r hr q hq => ?_, c.ne, c.ge, Nat.le_trans c.sz hW.size, fun r hr => ?_, hv⟩, hW.mono fun k _ e => .inr (.inr (.inr (by have e' : k = B x.job := e; subst e'; exact ⟨x2, _, x1⟩)))⟩
  · obtain ⟨y, hy, rfl⟩ := List.mem_map.1 hr
    obtain ⟨k1, k2, k3⟩ := key y hy
    obtain ⟨a1, a2, a3⟩ := c.jb y hy
    rw [k1, k3]
    refine ⟨?_, a2, a3.only hW (fun g A _ hA e => by have e' : g = B x.job := e; subst e'; exact absurd (blk_ty hA x1) (by decide))⟩
    by_cases e : y.job = x.job
    · have : y = x := hg.uniq hy hx e
      subst this
      rw [if_pos rfl]; exact hb
    · rw [if_neg e]
      exact a1.only hW (fun e' => e (c.inj y hy x hx e'))
  · obtain ⟨y, hy, rfl⟩ := List.mem_map.1 hr
    obtain ⟨z, hz, rfl⟩ := List.mem_map.1 hq
    rw [(key y hy).1, (key z hz).1]
    exact c.inj y hy z hz
  · obtain ⟨y, hy, rfl⟩ := List.mem_map.1 hr
    rw [(key y hy).1, (key y hy).2.2]
    exact c.ok y hy
def Can1P (w : World) (B0 b h t : Nat) (B : Int → Nat) (V : Int → Value) (s : JS) (N : Nat) (j : Int) (x : JR) (g : Nat) (e : Ending) (w' : World) : Prop :=
  e = .returned (.int .i64 0) ∧ JW w' B0 b h t B V (cancS s j).2 N ∧ Blk w' g 5 #[.int .u8 (cancS s j).1.1] ∧ Only (fun k => k = g ∨ k = B x.job) w w'
set_option maxRecDepth 100000 in
set_option maxHeartbeats 1000000 in
theorem cancel1_any (c : JW w B0 b h t B V s N) {j : Int} {x : JR} (hs : seek s.rows j = some x) {g : Nat} (hg : Blk w g 5 #[.int .u8 0]) :
    Calls Tryz.prog 55 #[.pointer (some ⟨B x.job, 0, none⟩), .pointer (some ⟨g, 0, none⟩)] w (Can1P w B0 b h t B V s N j x g) := by
  obtain ⟨hx, hxj⟩ := seek_some hs
  have hv := c.inv.canc j
  obtain ⟨x1, x2, x3⟩ := c.jb x hx
  have hgx : g ≠ B x.job := fun e => by subst e; exact absurd (blk_ty hg x1) (by decide)
  have HC := Lib.hid c
  have HG := Lib.hid hg
  have y5 : w.cell? ⟨B x.job, 5, none⟩ = some (.int .u8 x.st) := x1.cell 5
  have f5 := x1.frozen 5
  have z0 : w.cell? ⟨g, 0, none⟩ = some (.int .u8 0) := hg.cell 0
  have zf := hg.frozen 0
  by_cases h1 : x.st = 1
  · have hcs : cancS s j = ((3, 0), { s with rows := setR s.rows x.job fun x => { x with st := 3 } }) := by unfold cancS; rw [hs]; dsimp only; rw [if_pos h1, hxj]
    have h1' : (x.st == 1) = true := by simpa using h1
    rw [hcs] at hv
    have HT := Lib.hid (c.turn hx (f := fun x => { x with st := 3 }) ⟨rfl, rfl, rfl⟩ ((Only.refl (· = B x.job) w).set1 (o := 5) (v := .int .u8 3)) (x1.set 5 (.int .u8 3)) hv)
    have HG1 := Lib.hid (hg.set_ne (p := ⟨B x.job, 5, none⟩) (.int .u8 3) hgx)
    have HX1 := Lib.hid (x1.set 5 (.int .u8 3))
    have HO := Lib.hid ((Only.refl (fun k => k = g ∨ k = B x.job) w).setCell (p := ⟨B x.job, 5, none⟩) (.inl (.inr rfl)) (.int .u8 3))
    have HCS := Lib.hid hcs
    have HGX := Lib.hid hgx
    clear c hg hs hx hxj hv x1 x2 x3 hgx hcs h1
    go_enter Tryz.func55, Tryz.ntmps55
    go_upto_region 3 with fail
    clear y5 f5 z0 zf
    generalize w.setCell ⟨B x.job, 5, none⟩ (.int .u8 3) = w2 at *
    have y5 : w2.cell? ⟨B x.job, 5, none⟩ = some (.int .u8 3) := HX1.out.cell 5
    have z0 : w2.cell? ⟨g, 0, none⟩ = some (.int .u8 0) := HG1.out.cell 0
    have zf := HG1.out.frozen 0
    go_wp2_with fail
    go_ret
    refine ⟨rfl, ?_, ?_, HO.out.setCell (p := ⟨g, 0, none⟩) (.inl (.inl rfl)) _⟩
    · rw [HCS.out]
      exact HT.out.1.other ((Only.refl (· = g) w2).set1) HG1.out (by decide)
    · rw [HCS.out]
      exact HG1.out.set 0 _
  · have hcs : cancS s j = ((x.st, 0), s) := by unfold cancS; rw [hs]; dsimp only; rw [if_neg h1]
    have h1' : (x.st == 1) = false := by simpa using h1
    have HCS := Lib.hid hcs
    clear c hg hs hx hxj hv x1 x2 x3 hgx hcs h1
    go_enter Tryz.func55, Tryz.ntmps55
    go_wp2_with fail
    go_ret
    refine ⟨rfl, ?_, ?_, (Only.refl _ w).setCell (p := ⟨g, 0, none⟩) (.inl (.inl rfl)) _⟩
    · rw [HCS.out]
      exact HC.out.other ((Only.refl (· = g) w).set1) HG.out (by decide)
    · rw [HCS.out]
      exact HG.out.set 0 _
def Don1P (w : World) (B0 b h t : Nat) (B : Int → Nat) (V : Int → Value) (s : JS) (N : Nat) (j v ev : Int) (e : Ending) (w' : World) : Prop :=
  e = .returned (.int .i64 (doneS s j v ev).1) ∧ JW w' B0 b h t B V (doneS s j v ev).2 N ∧ OnJ B0 b h t w w'
set_option maxRecDepth 100000 in
set_option maxHeartbeats 1000000 in
theorem done1_any (c : JW w B0 b h t B V s N) {j v ev : Int} {x : JR} (hs : seek s.rows j = some x) {g : Nat} (hg : Blk w g 39 #[.int .i64 v, .int .i64 ev]) :
    Calls Tryz.prog 56 #[.pointer (some ⟨B x.job, 0, none⟩), .pointer (some ⟨g, 0, none⟩)] w (Don1P w B0 b h t B V s N j v ev) := by
  obtain ⟨hx, hxj⟩ := seek_some hs
  have hv := c.inv.done j v ev
  obtain ⟨x1, x2, x3⟩ := c.jb x hx
  have HC := Lib.hid c
  have HG := Lib.hid hg
  have y5 : w.cell? ⟨B x.job, 5, none⟩ = some (.int .u8 x.st) := x1.cell 5
  have z0 : w.cell? ⟨g, 0, none⟩ = some (.int .i64 v) := hg.cell 0
  have z1 : w.cell? ⟨g, 1, none⟩ = some (.int .i64 ev) := hg.cell 1
  have hd : doneS s j v ev = if x.st ≠ 1 then (3, s) else if resB v ev = false then (2, s) else (0, { s with rows := setR s.rows j fun x => { x with st := 2, val := v, err := ev } }) := by unfold doneS; rw [hs]
  by_cases h1 : x.st = 1
  · rw [if_neg (fun e => e h1)] at hd
    have h1' : (x.st != 1) = false := by simpa using h1
    have h1'' : (x.st == 1) = true := by simpa using h1
    have HR := Lib.hid (jformed_any v ev w)
    cases hr : resB v ev with
    | false =>
      rw [hr] at HR
      rw [if_pos hr] at hd
      have HD := Lib.hid hd
      clear c hg hs hx hxj hv x1 x2 x3 hd h1 hr
      go_enter Tryz.func56, Tryz.ntmps56
      go_wp2_with (go_at_call 57; go_loud ((with_reducible refine HR.out.mono ?_); rintro e w1 ⟨rfl, hb⟩; have HB := Lib.hid hb; clear hb y5 z0 z1))
      go_ret
      exact ⟨by rw [HD.out]; rfl, by rw [HD.out]; exact HC.out.below HB.out, OnJ.of_below HB.out⟩
    | true =>
      rw [hr] at HR
      rw [if_neg (by rw [hr]; decide)] at hd
      rw [hd] at hv
      have HD := Lib.hid hd
      have HV := Lib.hid (And.intro hv (And.intro hx hxj))
      have HX := Lib.hid x1
      clear c hg hs hx hxj hv x1 x2 x3 hd h1 hr
      go_enter Tryz.func56, Tryz.ntmps56
      go_upto_region 5 with (go_at_call 57; go_loud ((with_reducible refine HR.out.mono ?_); rintro e w1 ⟨rfl, hb⟩; have HB := Lib.hid hb; clear hb y5 z0 z1))
      have HX1 := Lib.hid (HX.out.below HB.out)
      have HG1 := Lib.hid (HG.out.below HB.out)
      have y5 : w1.cell? ⟨B x.job, 5, none⟩ = some (.int .u8 x.st) := HX1.out.cell 5
      have y6 : w1.cell? ⟨B x.job, 6, none⟩ = some (.int .i64 x.val) := HX1.out.cell 6
      have y7 : w1.cell? ⟨B x.job, 7, none⟩ = some (.int .i64 x.err) := HX1.out.cell 7
      have f5 := HX1.out.frozen 5
      have f6 := HX1.out.frozen 6
      have f7 := HX1.out.frozen 7
      have z0 : w1.cell? ⟨g, 0, none⟩ = some (.int .i64 v) := HG1.out.cell 0
      have z1 : w1.cell? ⟨g, 1, none⟩ = some (.int .i64 ev) := HG1.out.cell 1
      go_region
      all_goals (go_wp2_with fail)
      all_goals go_ret
      all_goals
        have HT := fun W (hW : Only (· = B x.job) w1 W) (hb : Blk W (B x.job) 99 (jcells { x with st := 2, val := v, err := ev } (V x.job)).toArray) => (HC.out.below HB.out).turn HV.out.2.1 (f := fun x => { x with st := 2, val := v, err := ev }) ⟨rfl, rfl, rfl⟩ hW hb (by rw [HV.out.2.2]; exact HV.out.1)
        have hE : ({ s with rows := setR s.rows x.job (fun x => { x with st := 2, val := v, err := ev }) } : JS) = { s with rows := setR s.rows j (fun x => { x with st := 2, val := v, err := ev }) } := by rw [HV.out.2.2]
        have HU := HT _ ((((Only.refl (· = B x.job) w1).set1 (o := 5) (v := .int .u8 2)).set1 (o := 6) (v := .int .i64 v)).set1 (o := 7) (v := .int .i64 ev)) (((HX1.out.set 5 (.int .u8 2)).set 6 (.int .i64 v)).set 7 (.int .i64 ev))
        rw [hE] at HU
        first
          | exact ⟨by rw [HD.out]; rfl, by rw [HD.out]; exact HU.1, (OnJ.of_below HB.out).trans HU.2⟩
          | exact ⟨by rw [HD.out]; rfl, by rw [HD.out]; exact HU.1.drew, ((OnJ.of_below HB.out).trans HU.2).step (Below.refl _ _).drew⟩
  · rw [if_pos h1] at hd
    have h1' : (x.st != 1) = true := by simpa using h1
    have h1'' : (x.st == 1) = false := by simpa using h1
    have HD := Lib.hid hd
    clear c hg hs hx hxj hv x1 x2 x3 hd h1
    go_enter Tryz.func56, Tryz.ntmps56
    go_wp2_with fail
    go_ret
    exact ⟨by rw [HD.out]; rfl, by rw [HD.out]; exact HC.out, OnJ.refl _ _ _ _ _⟩
end
end Go.Proofs.YtlahficmkfgooaaGreat


/- The walks of 'with', Cancel, Done, Find, Last. No condition but that jobs are. -/
namespace Go.Proofs.YtlahficmkfgooaaGreat
open Go.RowKit Go.Maps Jb
set_option linter.unusedVariables false
set_option linter.unusedSimpArgs false
def WithP (R : Int → World → Prop) (e : Ending) (w' : World) : Prop := ∃ r : Int, e = .returned (.int .i64 r) ∧ R r w'
section
variable {w w' w1 : World} {B0 b h t N : Nat} {B : Int → Nat} {V : Int → Value} {s : JS}
def Fin1P (w : World) (x : JR) (g : Nat) (e : Ending) (w' : World) : Prop := e = .returned (.int .i64 0) ∧ ∃ v, Blk w' g 48 (jcells x v).toArray ∧ IRow w' w.heap.size v x.inp ∧ Only (· = g) w w'
set_option maxRecDepth 100000 in
set_option maxHeartbeats 1000000 in
theorem find1_any (c : JW w B0 b h t B V s N) {j : Int} {x : JR} (hs : seek s.rows j = some x) {g : Nat} (hg : Blk w g 48 #[.int .u64 0, .string ⟨#[]⟩, .string ⟨#[]⟩, .slice none 0 0, .int .i64 0, .int .u8 0, .int .i64 0, .int .i64 0]) :
    Calls Tryz.prog 53 #[.pointer (some ⟨B x.job, 0, none⟩), .pointer (some ⟨g, 0, none⟩)] w (Fin1P w x g) := by
  obtain ⟨hx, hxj⟩ := seek_some hs
  obtain ⟨x1, x2, x3⟩ := c.jb x hx
  have HR := Lib.hid (row_any x1 (IRow.at x3) (by have := (c.ok x hx).2; omega))
  have HG := Lib.hid hg
  clear c hs hg hx hxj x1 x2 x3
  go_enter Tryz.func53, Tryz.ntmps53
  go_wp2_with fail
  (with_reducible refine HR.out.mono ?_)
  rintro e w1 ⟨v, rfl, hq, hb⟩
  obtain ⟨pv, cv, rfl⟩ := owns_slice hq
  have HQ := Lib.hid hq
  have HB := Lib.hid hb
  have HG1 := Lib.hid (HG.out.below hb)
  clear hq hb
  go_wp2_with (first
    | (refine wpl_store_blk (c' := (jcells x (.slice pv x.inp.length cv)).toArray) HG1.out rfl _ _ _ rfl rfl rfl (by kernel_rfl) rfl (by simp [jcells, Value.oneCell']) ?_; go_loud (intro w2 hb2 ho2; have HX2 := Lib.hid hb2; have HO2 := Lib.hid ho2; clear hb2 ho2)))
  go_ret
  exact ⟨rfl, _, HX2.out, IRow.only HQ.out HO2.out (fun k A hk hA e => by have e' : k = g := e; subst e'; exact absurd (blk_ty hA HG1.out) (by decide)), (Only.of_below HB.out).trans HO2.out⟩
def cval (f : FuncId) (g : Nat) : Value := .func (.func f) #[] #[.pointer (some ⟨g, 0, none⟩)]
set_option maxRecDepth 100000 in
set_option maxHeartbeats 1000000 in
theorem wfind_hit (c : JW w B0 b h t B V s N) {j : Int} {x : JR} (hs : seek s.rows j = some x) {g : Nat} {R : Int → World → Prop} (hc : Calls Tryz.prog 53 #[.pointer (some ⟨B x.job, 0, none⟩), .pointer (some ⟨g, 0, none⟩)] w (WithP R)) :
    Calls Tryz.prog 52 #[.pointer (some ⟨b, 0, none⟩), .int .u64 j, .func (.func 53) #[] #[.pointer (some ⟨g, 0, none⟩)]] w (WithP R) := by
  obtain ⟨hx, hxj⟩ := seek_some hs
  have hl : (Instr.lookup 93 (.map (some h)) (.int .u64 j) true).run Tryz.prog w = .ok (.tuple #[.pointer (some ⟨B x.job, 0, none⟩), .bool true]) w := by
    have := c.num_hit hx
    rw [hxj] at this ⊢
    exact this
  have HN := Lib.hid (jnone_any c)
  have c2 := c.c2
  have HCL := Lib.hid hc
  clear c hs hx hxj hc
  generalize B x.job = q at *
  go_enter Tryz.func52, Tryz.ntmps52
  go_wp2_with (first
    | (go_at_call 47; go_loud ((with_reducible refine HN.out.mono ?_); rintro e w1 ⟨rfl, rfl⟩))
    | (go_at_call 53; go_loud ((with_reducible refine HCL.out.mono ?_); rintro e w1 ⟨r, rfl, hr⟩; have HR := Lib.hid hr; clear hr)))
  go_ret
  exact ⟨r, rfl, HR.out⟩
set_option maxRecDepth 100000 in
theorem wfind_miss (c : JW w B0 b h t B V s N) {j : Int} (hj : U64 j) (hs : seek s.rows j = none) (g : Nat) :
    Calls Tryz.prog 52 #[.pointer (some ⟨b, 0, none⟩), .int .u64 j, .func (.func 53) #[] #[.pointer (some ⟨g, 0, none⟩)]] w fun e w' => e = .returned (.int .i64 5) ∧ w = w' := by
  have hl := c.num_miss hj hs
  have HN := Lib.hid (jnone_any c)
  have c2 := c.c2
  clear c hs hj
  go_enter Tryz.func52, Tryz.ntmps52
  go_wp2_with (go_at_call 47; go_loud ((with_reducible refine HN.out.mono ?_); rintro e w1 ⟨rfl, rfl⟩))
  go_ret
  exact ⟨rfl, rfl⟩
set_option maxRecDepth 100000 in
theorem wfind_nil (w : World) (j : Int) (g : Nat) :
    Calls Tryz.prog 52 #[.pointer none, .int .u64 j, .func (.func 53) #[] #[.pointer (some ⟨g, 0, none⟩)]] w fun e w' => e = .returned (.int .i64 1) ∧ w = w' := by
  go_enter Tryz.func52, Tryz.ntmps52
  go_wp2_with (go_at_call 47; go_loud ((with_reducible refine (jnone_nil _).mono ?_); rintro e w1 ⟨rfl, rfl⟩))
  go_ret
  exact ⟨rfl, rfl⟩
set_option maxRecDepth 100000 in
  set_option maxHeartbeats 1000000 in
  theorem wdone_hit (c : JW w B0 b h t B V s N) {j : Int} {x : JR} (hs : seek s.rows j = some x) {g : Nat} {R : Int → World → Prop} (hc : Calls Tryz.prog 56 #[.pointer (some ⟨B x.job, 0, none⟩), .pointer (some ⟨g, 0, none⟩)] w (WithP R)) :
      Calls Tryz.prog 52 #[.pointer (some ⟨b, 0, none⟩), .int .u64 j, .func (.func 56) #[] #[.pointer (some ⟨g, 0, none⟩)]] w (WithP R) := by
    obtain ⟨hx, hxj⟩ := seek_some hs
    have hl : (Instr.lookup 93 (.map (some h)) (.int .u64 j) true).run Tryz.prog w = .ok (.tuple #[.pointer (some ⟨B x.job, 0, none⟩), .bool true]) w := by
      have := c.num_hit hx
      rw [hxj] at this ⊢
      exact this
    have HN := Lib.hid (jnone_any c)
    have c2 := c.c2
    have HCL := Lib.hid hc
    clear c hs hx hxj hc
    generalize B x.job = q at *
    go_enter Tryz.func52, Tryz.ntmps52
    go_wp2_with (first
      | (go_at_call 47; go_loud ((with_reducible refine HN.out.mono ?_); rintro e w1 ⟨rfl, rfl⟩))
      | (go_at_call 56; go_loud ((with_reducible refine HCL.out.mono ?_); rintro e w1 ⟨r, rfl, hr⟩; have HR := Lib.hid hr; clear hr)))
    go_ret
    exact ⟨r, rfl, HR.out⟩
  set_option maxRecDepth 100000 in
  theorem wdone_miss (c : JW w B0 b h t B V s N) {j : Int} (hj : U64 j) (hs : seek s.rows j = none) (g : Nat) :
      Calls Tryz.prog 52 #[.pointer (some ⟨b, 0, none⟩), .int .u64 j, .func (.func 56) #[] #[.pointer (some ⟨g, 0, none⟩)]] w fun e w' => e = .returned (.int .i64 5) ∧ w = w' := by
    have hl := c.num_miss hj hs
    have HN := Lib.hid (jnone_any c)
    have c2 := c.c2
    clear c hs hj
    go_enter Tryz.func52, Tryz.ntmps52
    go_wp2_with (go_at_call 47; go_loud ((with_reducible refine HN.out.mono ?_); rintro e w1 ⟨rfl, rfl⟩))
    go_ret
    exact ⟨rfl, rfl⟩
  set_option maxRecDepth 100000 in
  theorem wdone_nil (w : World) (j : Int) (g : Nat) :
      Calls Tryz.prog 52 #[.pointer none, .int .u64 j, .func (.func 56) #[] #[.pointer (some ⟨g, 0, none⟩)]] w fun e w' => e = .returned (.int .i64 1) ∧ w = w' := by
    go_enter Tryz.func52, Tryz.ntmps52
    go_wp2_with (go_at_call 47; go_loud ((with_reducible refine (jnone_nil _).mono ?_); rintro e w1 ⟨rfl, rfl⟩))
    go_ret
    exact ⟨rfl, rfl⟩
set_option maxRecDepth 100000 in
    set_option maxHeartbeats 1000000 in
    theorem wcanc_hit (c : JW w B0 b h t B V s N) {j : Int} {x : JR} (hs : seek s.rows j = some x) {g : Nat} {R : Int → World → Prop} (hc : Calls Tryz.prog 55 #[.pointer (some ⟨B x.job, 0, none⟩), .pointer (some ⟨g, 0, none⟩)] w (WithP R)) :
        Calls Tryz.prog 52 #[.pointer (some ⟨b, 0, none⟩), .int .u64 j, .func (.func 55) #[] #[.pointer (some ⟨g, 0, none⟩)]] w (WithP R) := by
      obtain ⟨hx, hxj⟩ := seek_some hs
      have hl : (Instr.lookup 93 (.map (some h)) (.int .u64 j) true).run Tryz.prog w = .ok (.tuple #[.pointer (some ⟨B x.job, 0, none⟩), .bool true]) w := by
        have := c.num_hit hx
        rw [hxj] at this ⊢
        exact this
      have HN := Lib.hid (jnone_any c)
      have c2 := c.c2
      have HCL := Lib.hid hc
      clear c hs hx hxj hc
      generalize B x.job = q at *
      go_enter Tryz.func52, Tryz.ntmps52
      go_wp2_with (first
        | (go_at_call 47; go_loud ((with_reducible refine HN.out.mono ?_); rintro e w1 ⟨rfl, rfl⟩))
        | (go_at_call 55; go_loud ((with_reducible refine HCL.out.mono ?_); rintro e w1 ⟨r, rfl, hr⟩; have HR := Lib.hid hr; clear hr)))
      go_ret
      exact ⟨r, rfl, HR.out⟩
    set_option maxRecDepth 100000 in
    theorem wcanc_miss (c : JW w B0 b h t B V s N) {j : Int} (hj : U64 j) (hs : seek s.rows j = none) (g : Nat) :
        Calls Tryz.prog 52 #[.pointer (some ⟨b, 0, none⟩), .int .u64 j, .func (.func 55) #[] #[.pointer (some ⟨g, 0, none⟩)]] w fun e w' => e = .returned (.int .i64 5) ∧ w = w' := by
      have hl := c.num_miss hj hs
      have HN := Lib.hid (jnone_any c)
      have c2 := c.c2
      clear c hs hj
      go_enter Tryz.func52, Tryz.ntmps52
      go_wp2_with (go_at_call 47; go_loud ((with_reducible refine HN.out.mono ?_); rintro e w1 ⟨rfl, rfl⟩))
      go_ret
      exact ⟨rfl, rfl⟩
    set_option maxRecDepth 100000 in
    theorem wcanc_nil (w : World) (j : Int) (g : Nat) :
        Calls Tryz.prog 52 #[.pointer none, .int .u64 j, .func (.func 55) #[] #[.pointer (some ⟨g, 0, none⟩)]] w fun e w' => e = .returned (.int .i64 1) ∧ w = w' := by
      go_enter Tryz.func52, Tryz.ntmps52
      go_wp2_with (go_at_call 47; go_loud ((with_reducible refine (jnone_nil _).mono ?_); rintro e w1 ⟨rfl, rfl⟩))
      go_ret
      exact ⟨rfl, rfl⟩
set_option maxRecDepth 100000 in
theorem last_nil (w : World) : Calls Tryz.prog 21 #[.pointer none] w fun e w' => e = .returned (.int .u64 0) ∧ w = w' := by
  go_enter Tryz.func21, Tryz.ntmps21
  go_wp2_with (go_at_call 47; go_loud ((with_reducible refine (jnone_nil _).mono ?_); rintro e w1 ⟨rfl, rfl⟩))
  go_ret
  exact ⟨rfl, rfl⟩
set_option maxRecDepth 100000 in
theorem last_any (c : JW w B0 b h t B V s N) : Calls Tryz.prog 21 #[.pointer (some ⟨b, 0, none⟩)] w fun e w' => e = .returned (.int .u64 s.last) ∧ w = w' := by
  have HN := Lib.hid (jnone_any c)
  have c1 := c.c1
  clear c
  go_enter Tryz.func21, Tryz.ntmps21
  go_wp2_with (go_at_call 47; go_loud ((with_reducible refine HN.out.mono ?_); rintro e w1 ⟨rfl, rfl⟩))
  go_ret
  exact ⟨rfl, rfl⟩
theorem onj_of {w0 : World} {q : Nat} {A : Array Value} (hb : Below w.heap.size w w0) (ho : Only (fun k => k = w.heap.size ∨ k = q) w0 w1) (hq : Blk w q 99 A) (hq2 : B0 ≤ q) : OnJ B0 b h t w w1 :=
  ⟨ho.os.trans hb.os, ho.tape.trans hb.tape, ho.output.trans hb.output, Nat.le_trans hb.size ho.size, fun k hk hn => by
    rw [ho.block k (Nat.lt_of_lt_of_le hk hb.size) (fun e => e.elim (fun e => by omega) (fun e => hn (.inr (.inr (.inr (by subst e; exact ⟨hq2, _, hq⟩))))))]
    exact hb.block k hk⟩
def CanP (w : World) (B0 b h t : Nat) (B : Int → Nat) (V : Int → Value) (s : JS) (N : Nat) (j : Int) (e : Ending) (w' : World) : Prop :=
  e = .returned (.tuple #[.int .u8 (cancS s j).1.1, .int .i64 (cancS s j).1.2]) ∧ JW w' B0 b h t B V (cancS s j).2 N ∧ OnJ B0 b h t w w'
set_option maxRecDepth 100000 in
set_option maxHeartbeats 1000000 in
theorem cancel_any (c : JW w B0 b h t B V s N) {j : Int} (hj : U64 j) : Calls Tryz.prog 17 #[.pointer (some ⟨b, 0, none⟩), .int .u64 j] w (CanP w B0 b h t B V s N j) := by
  have c1 := c.below ((Below.refl _ w).alloc (Nat.le_refl _) (.cells #[.int .u8 0] 5))
  have hg := Blk.new w 5 #[.int .u8 0]
  have HW := Lib.hid ((Below.refl _ w).alloc (Nat.le_refl _) (.cells #[.int .u8 0] 5))
  have HC := Lib.hid c
  cases hs : seek s.rows j with
  | none =>
    have HM := Lib.hid (wcanc_miss c1 hj hs w.heap.size)
    have HG := Lib.hid hg
    have HCS : Hid (cancS s j = ((0, 5), s)) := Lib.hid (by unfold cancS; rw [hs])
    clear c c1 hg hj hs
    go_enter Tryz.func17, Tryz.ntmps17
    go_wp2_with fail
    go_wp2_with (go_at_call 52; go_loud ((with_reducible refine HM.out.mono ?_); rintro e w1 ⟨rfl, hw1⟩; have hw1 := hw1.symm; subst hw1))
    refine bodyPost_ret (v := .tuple #[.int .u8 0, .int .i64 5]) (by rw [results_cell_tmp rfl]; simp [go_sem]) rfl ?_
    exact ⟨by rw [HCS.out], by rw [HCS.out]; exact HC.out.below HW.out, OnJ.of_below HW.out⟩
  | some x =>
    have HM := Lib.hid (wcanc_hit c1 hs (g := w.heap.size) (R := fun r w' => r = 0 ∧ JW w' B0 b h t B V (cancS s j).2 N ∧ Blk w' w.heap.size 5 #[.int .u8 (cancS s j).1.1] ∧ Only (fun k => k = w.heap.size ∨ k = B x.job) (w.alloc (.cells #[.int .u8 0] 5)) w') ((cancel1_any c1 hs hg).mono fun e w' h => ⟨0, h.1, rfl, h.2⟩))
    have HX := Lib.hid (c.jb x (seek_some hs).1)
    have HCS : Hid ((cancS s j).1.2 = 0) := Lib.hid (by unfold cancS; rw [hs]; dsimp only; split <;> rfl)
    clear c c1 hg hj hs
    go_enter Tryz.func17, Tryz.ntmps17
    go_wp2_with fail
    (with_reducible refine HM.out.mono ?_)
    rintro e w1 ⟨r, rfl, rfl, hc1, hg1, ho1⟩
    have HC1 := Lib.hid hc1
    have HG1 := Lib.hid hg1
    have HO1 := Lib.hid ho1
    have z0 : w1.cell? ⟨w.heap.size, 0, none⟩ = some (.int .u8 (cancS s j).1.1) := hg1.cell 0
    have zf := hg1.frozen 0
    clear hc1 hg1 ho1
    generalize hgz : w.heap.size = g at *
    have HGZ := Lib.hid hgz
    clear hgz
    go_wp2_with fail
    refine bodyPost_ret (v := .tuple #[.int .u8 (cancS s j).1.1, .int .i64 0]) (by rw [results_cell_tmp rfl]; simp [go_sem, z0, zf]) rfl ?_
    have hw := HW.out
    have ho := HO1.out.setCell (p := ⟨g, 0, none⟩) (.inl (.inl rfl)) (.int .u8 (cancS s j).1.1)
    rw [← HGZ.out] at hw
    exact ⟨by rw [HCS.out], HC1.out.other ((Only.refl (· = g) w1).set1) HG1.out (by decide), onj_of hw (q := B x.job) (by rw [HGZ.out]; exact ho) HX.out.1 HX.out.2.1⟩
def DonP (w : World) (B0 b h t : Nat) (B : Int → Nat) (V : Int → Value) (s : JS) (N : Nat) (j v ev : Int) (e : Ending) (w' : World) : Prop :=
  e = .returned (.int .i64 (doneS s j v ev).1) ∧ JW w' B0 b h t B V (doneS s j v ev).2 N ∧ OnJ B0 b h t w w'
set_option maxRecDepth 100000 in
set_option maxHeartbeats 1000000 in
theorem done_any (c : JW w B0 b h t B V s N) {j v ev : Int} (hj : U64 j) : Calls Tryz.prog 18 #[.pointer (some ⟨b, 0, none⟩), .int .u64 j, .agg #[.int .i64 v, .int .i64 ev]] w (DonP w B0 b h t B V s N j v ev) := by
  have c1 := c.below ((Below.refl _ w).alloc (Nat.le_refl _) (.cells #[.int .i64 v, .int .i64 ev] 39))
  have hg := Blk.new w 39 #[.int .i64 v, .int .i64 ev]
  have HW := Lib.hid ((Below.refl _ w).alloc (Nat.le_refl _) (.cells #[.int .i64 v, .int .i64 ev] 39))
  have HC := Lib.hid c
  cases hs : seek s.rows j with
  | none =>
    have HM := Lib.hid (wdone_miss c1 hj hs w.heap.size)
    have HCS : Hid (doneS s j v ev = (5, s)) := Lib.hid (by unfold doneS; rw [hs])
    clear c c1 hg hj hs
    go_enter Tryz.func18, Tryz.ntmps18
    go_wp2_with (go_at_call 52; go_loud ((with_reducible refine HM.out.mono ?_); rintro e w1 ⟨rfl, hw1⟩; have hw1 := hw1.symm; subst hw1))
    go_ret
    exact ⟨by rw [HCS.out]; rfl, by rw [HCS.out]; exact HC.out.below HW.out, OnJ.of_below HW.out⟩
  | some x =>
    have HM := Lib.hid (wdone_hit c1 hs (g := w.heap.size) (R := fun r w' => r = (doneS s j v ev).1 ∧ JW w' B0 b h t B V (doneS s j v ev).2 N ∧ OnJ B0 b h t (w.alloc (.cells #[.int .i64 v, .int .i64 ev] 39)) w') ((done1_any c1 hs hg).mono fun e w' h => ⟨_, h.1, rfl, h.2⟩))
    clear c c1 hg hj hs
    go_enter Tryz.func18, Tryz.ntmps18
    go_wp2_with (go_at_call 52; go_loud ((with_reducible refine HM.out.mono ?_); rintro e w1 ⟨r, rfl, rfl, hc1, ho1⟩; have HC1 := Lib.hid hc1; have HO1 := Lib.hid ho1; clear hc1 ho1))
    go_ret
    exact ⟨rfl, HC1.out, (OnJ.of_below HW.out).trans HO1.out⟩
/-- A job's row, or none. -/
def FinP (w : World) (s : JS) (j : Int) (e : Ending) (w' : World) : Prop := ∃ v, e = .returned (.tuple #[.agg (jcells (findS s j).1 v).toArray, .int .i64 (findS s j).2]) ∧ IRow w' w.heap.size v (findS s j).1.inp ∧ Below w.heap.size w w'
theorem jcells_def : (jcells default (.slice none 0 0)).toArray = #[.int .u64 0, .string ⟨#[]⟩, .string ⟨#[]⟩, .slice none 0 0, .int .i64 0, .int .u8 0, .int .i64 0, .int .i64 0] := rfl
set_option maxRecDepth 100000 in
set_option maxHeartbeats 1000000 in
theorem find_any (c : JW w B0 b h t B V s N) {j : Int} (hj : U64 j) : Calls Tryz.prog 16 #[.pointer (some ⟨b, 0, none⟩), .int .u64 j] w (FinP w s j) := by
  have c1 := c.below ((Below.refl _ w).alloc (Nat.le_refl _) (.cells #[.int .u64 0, .string ⟨#[]⟩, .string ⟨#[]⟩, .slice none 0 0, .int .i64 0, .int .u8 0, .int .i64 0, .int .i64 0] 48))
  have hg := Blk.new w 48 #[.int .u64 0, .string ⟨#[]⟩, .string ⟨#[]⟩, .slice none 0 0, .int .i64 0, .int .u8 0, .int .i64 0, .int .i64 0]
  have HW := Lib.hid ((Below.refl _ w).alloc (Nat.le_refl _) (.cells #[.int .u64 0, .string ⟨#[]⟩, .string ⟨#[]⟩, .slice none 0 0, .int .i64 0, .int .u8 0, .int .i64 0, .int .i64 0] 48))
  cases hs : seek s.rows j with
  | none =>
    have HM := Lib.hid (wfind_miss c1 hj hs w.heap.size)
    have HX := Lib.hid hg
    have HCS : Hid (findS s j = (default, 5)) := Lib.hid (by unfold findS; rw [hs])
    clear c c1 hg hj hs
    go_enter Tryz.func16, Tryz.ntmps16
    go_wp2_with fail
    (with_reducible refine HM.out.mono ?_)
    rintro e w1 ⟨rfl, hw1⟩
    have hw1 := hw1.symm
    subst hw1
    go_wp2_with (first | (refine wpl_load_blk HX.out rfl _ _ rfl rfl Tryz.underlying48 rfl (by kernel_rfl) ?_) | (refine wpl_store_blk (c' := #[.int .u64 0, .string ⟨#[]⟩, .string ⟨#[]⟩, .slice none 0 0, .int .i64 0, .int .u8 0, .int .i64 0, .int .i64 0]) HX.out rfl _ _ _ rfl rfl rfl (by kernel_rfl) rfl (by simp [jcells, Value.oneCell']) ?_; go_loud (intro w2 hb2 ho2; have HX2 := Lib.hid hb2; have HO2 := Lib.hid ho2; clear hb2 ho2)))
    exact ret_pair (cs := #[.int .u64 0, .string ⟨#[]⟩, .string ⟨#[]⟩, .slice none 0 0, .int .i64 0, .int .u8 0, .int .i64 0, .int .i64 0]) (T := 48) rfl rfl rfl HX2.out Tryz.underlying48 rfl (by kernel_rfl) rfl ⟨.slice none 0 0, by rw [HCS.out]; rfl, by rw [HCS.out]; exact IRow.nil _ _, HW.out.trans (Only.below HO2.out HW.out.size (fun k e => by have e' : k = w.heap.size := e; omega))⟩
  | some x =>
    have HM := Lib.hid (wfind_hit c1 hs (g := w.heap.size) (R := fun r w' => r = 0 ∧ ∃ v, Blk w' w.heap.size 48 (jcells x v).toArray ∧ IRow w' (w.alloc (.cells #[.int .u64 0, .string ⟨#[]⟩, .string ⟨#[]⟩, .slice none 0 0, .int .i64 0, .int .u8 0, .int .i64 0, .int .i64 0] 48)).heap.size v x.inp ∧ Only (· = w.heap.size) (w.alloc (.cells #[.int .u64 0, .string ⟨#[]⟩, .string ⟨#[]⟩, .slice none 0 0, .int .i64 0, .int .u8 0, .int .i64 0, .int .i64 0] 48)) w') ((find1_any c1 hs hg).mono fun e w' h => ⟨_, h.1, rfl, h.2⟩))
    have HCS : Hid (findS s j = (x, 0)) := Lib.hid (by unfold findS; rw [hs])
    clear c c1 hg hj hs
    go_enter Tryz.func16, Tryz.ntmps16
    go_wp2_with fail
    (with_reducible refine HM.out.mono ?_)
    rintro e w1 ⟨r, rfl, rfl, v, hb1, hq1, ho1⟩
    obtain ⟨pv, cv, rfl⟩ := owns_slice hq1
    have HX := Lib.hid hb1
    have HQ := Lib.hid hq1
    have HO := Lib.hid ho1
    clear hb1 hq1 ho1
    go_wp2_with (first | (refine wpl_load_blk HX.out rfl _ _ rfl rfl Tryz.underlying48 rfl (by kernel_rfl) ?_) | (refine wpl_store_blk (c' := (jcells x (.slice pv x.inp.length cv)).toArray) HX.out rfl _ _ _ rfl rfl rfl (by kernel_rfl) rfl (by simp [jcells, Value.oneCell']) ?_; go_loud (intro w2 hb2 ho2; have HX2 := Lib.hid hb2; have HO2 := Lib.hid ho2; clear hb2 ho2)))
    have hw1 := HW.out.trans (Only.below HO.out HW.out.size (fun k e => by have e' : k = w.heap.size := e; omega))
    exact ret_pair (cs := (jcells x (.slice pv x.inp.length cv)).toArray) (T := 48) rfl rfl rfl HX2.out Tryz.underlying48 rfl (by kernel_rfl) rfl ⟨.slice pv x.inp.length cv, by rw [HCS.out]; rfl, by rw [HCS.out]; exact (IRow.only HQ.out HO2.out (fun k A hk _ e => by have e' : k = w.heap.size := e; simp at hk; omega)).ge (by simp), hw1.trans (Only.below HO2.out hw1.size (fun k e => by have e' : k = w.heap.size := e; omega))⟩
end
end Go.Proofs.YtlahficmkfgooaaGreat


/- The walks of numbers, Pending, Rows. No condition but that jobs are. -/
namespace Go.Proofs.YtlahficmkfgooaaGreat
open Go.RowKit Go.Maps Jb
set_option linter.unusedVariables false
set_option linter.unusedSimpArgs false
namespace Jb
theorem sorted_eq : ∀ {A B : List Int}, A.Pairwise (· < ·) → B.Pairwise (· < ·) → (∀ x, x ∈ A ↔ x ∈ B) → A = B := by
  intro A
  induction A with
  | nil =>
    intro B _ _ h
    cases B with
    | nil => rfl
    | cons b B => exact absurd ((h b).2 (by simp)) (by simp)
  | cons a A ih =>
    intro B ha hb h
    cases B with
    | nil => exact absurd ((h a).1 (by simp)) (by simp)
    | cons b B =>
      obtain ⟨ha1, ha2⟩ := List.pairwise_cons.1 ha
      obtain ⟨hb1, hb2⟩ := List.pairwise_cons.1 hb
      have hab : a = b := by
        have h1 := (h a).1 (by simp)
        have h2 := (h b).2 (by simp)
        rcases List.mem_cons.1 h1 with e | e
        · exact e
        · rcases List.mem_cons.1 h2 with e' | e'
          · exact e'.symm
          · have := ha1 b e'; have := hb1 a e; omega
      subst hab
      rw [ih ha2 hb2 fun x => ?_]
      constructor
      · intro hx
        rcases List.mem_cons.1 ((h x).1 (List.mem_cons_of_mem _ hx)) with e | e
        · have := ha1 x hx; omega
        · exact e
      · intro hx
        rcases List.mem_cons.1 ((h x).2 (List.mem_cons_of_mem _ hx)) with e | e
        · have := hb1 x hx; omega
        · exact e
theorem pendL_snoc (l : List JR) (x : JR) : pendL (l ++ [x]) = pendL l ++ if x.st = 1 then [x.job] else [] := by
  unfold pendL
  rw [List.filter_append, List.map_append]
  congr 1
  by_cases h : x.st = 1 <;> simp [h]
theorem pendL_len (l : List JR) : (pendL l).length ≤ l.length := by unfold pendL; rw [List.length_map]; exact List.length_filter_le _ _
end Jb
section
variable {w w' w1 : World} {B0 b h t N : Nat} {B : Int → Nat} {V : Int → Value} {s : JS}
def URow (w : World) (B0 : Nat) (v : Value) (l : List Int) : Prop := w.ownsRow B0 37 1 v l.length (l.map (Value.int .u64))
def NumsP (w : World) (l : List Int) (e : Ending) (w' : World) : Prop := ∃ v, e = .returned v ∧ URow w' w.heap.size v l ∧ Below w.heap.size w w'
set_option maxRecDepth 100000 in
theorem numbers_nil (w : World) : Calls Tryz.prog 58 #[.pointer none] w fun e w' => e = .returned (.slice none 0 0) ∧ w = w' := by
  go_enter Tryz.func58, Tryz.ntmps58
  go_wp2_with (go_at_call 47; go_loud ((with_reducible refine (jnone_nil _).mono ?_); rintro e w1 ⟨rfl, rfl⟩))
  go_ret
  exact ⟨rfl, rfl⟩
set_option maxRecDepth 100000 in
set_option maxHeartbeats 1000000 in
theorem numbers_any (c : JW w B0 b h t B V s N) : Calls Tryz.prog 58 #[.pointer (some ⟨b, 0, none⟩)] w (NumsP w (s.rows.map (·.job))) := by
  have c2 := c.c2
  have HN := Lib.hid (jnone_any c)
  have hlen := c.inv.good.2.1
  have hris := c.inv.good.1.ris
  obtain ⟨D, o, o1, o2, o3⟩ := c.mp
  have HK := Lib.hid (keys_p (some h) w)
  have HS := Lib.hid (sortedKeys_p (w := w.alloc (.cells #[.map (some h)] 93)) (Bm := w.heap.size) (by simp) ((Blk.new w 93 #[.map (some h)]).cell 0) (o.alloc _) (by rw [o3]; unfold keysU; rw [List.length_map]; omega))
  have HID : Hid (∀ K : List Int, K.Pairwise (· < ·) → (∀ x, x ∈ K ↔ Maps.has D (.int .u64 x) = true) → K = s.rows.map (·.job)) := Lib.hid fun K h1 h2 => by
    refine Jb.sorted_eq h1 (List.pairwise_map.2 hris) fun x => ?_
    rw [h2 x, show Maps.has D (.int .u64 x) = true ↔ _ from o2 (KU x)]
    constructor
    · rintro ⟨a, ha, e⟩
      obtain ⟨y, hy, rfl⟩ := List.mem_map.1 ha
      exact List.mem_map.2 ⟨y, hy, KU_inj e⟩
    · intro hx
      obtain ⟨y, hy, rfl⟩ := List.mem_map.1 hx
      exact ⟨_, List.mem_map.2 ⟨y, hy, rfl⟩, rfl⟩
  clear c o o1 o2 o3 hlen hris
  generalize s.rows.map (·.job) = M at *
  go_enter Tryz.func58, Tryz.ntmps58
  go_wp2_with (first
    | (go_at_call 47; go_loud ((with_reducible refine HN.out.mono ?_); rintro e w1 ⟨rfl, rfl⟩))
    | (go_at_call 90; ((with_reducible refine HK.out.mono ?_); rintro e w' ⟨rfl, rfl⟩))
    | (go_at_call 89; ((with_reducible refine HS.out.mono ?_); rintro e w2 ⟨v, K, rfl, k1, k2, k3, k4, k5, k6⟩; obtain rfl := HID.out K k1 k2; obtain ⟨pv, cv, rfl⟩ := owns_slice k4; have HR := Lib.hid k4; have HB := Lib.hid k6; clear k1 k2 k3 k4 k5 k6)))
  go_ret
  exact ⟨.slice pv K.length cv, rfl, owns_ge HR.out (B := w.heap.size) (by simp), ((Below.refl _ w).alloc (Nat.le_refl _) _).trans (HB.out.mono (by simp))⟩
set_option maxRecDepth 100000 in
theorem pending_nil (w : World) : Calls Tryz.prog 19 #[.pointer none] w fun e w' => e = .returned (.slice none 0 0) ∧ w = w' := by
  go_enter Tryz.func19, Tryz.ntmps19
  go_wp2_with (go_at_call 58; go_loud ((with_reducible refine (numbers_nil _).mono ?_); rintro e w1 ⟨rfl, rfl⟩))
  go_loopw [2, 8] (fun u2 u8 wr => u2 = .slice none 0 0 ∧ u8 = .int .i64 0 ∧ wr = w) (fun _ _ _ => 0)
  case atStart => exact ⟨rfl, rfl, rfl⟩
  case round =>
    obtain ⟨rfl, rfl, hwr⟩ := hrel
    have hwr := hwr.symm
    subst hwr
    go_wp2_with fail
    go_ret
    exact ⟨rfl, rfl⟩
set_option maxRecDepth 100000 in
set_option maxHeartbeats 1000000 in
theorem pending_any (c : JW w B0 b h t B V s N) : Calls Tryz.prog 19 #[.pointer (some ⟨b, 0, none⟩)] w (NumsP w (pendL s.rows)) := by
  have HNU := Lib.hid (numbers_any c)
  have HC := Lib.hid c
  clear c
  go_enter Tryz.func19, Tryz.ntmps19
  go_wp2_with (go_at_call 58; go_loud ((with_reducible refine HNU.out.mono ?_); rintro e w1 ⟨v, rfl, hr, hb⟩; obtain ⟨pk, ck, rfl⟩ := owns_slice hr; have HR := Lib.hid hr; have HB := Lib.hid hb; clear hr hb; (try rw [List.length_map])))
  obtain ⟨n, hn⟩ : ∃ n, n = s.rows.length := ⟨_, rfl⟩
  (try rw [List.length_map])
  rw [← hn]
  have HNN : Hid (n = s.rows.length ∧ n ≤ 256) := Lib.hid (by have := HC.out.inv.good.2.1; omega)
  have HR1 : Hid (w1.ownsRow w.heap.size 37 1 (.slice pk n ck) n ((s.rows.map (·.job)).map (Value.int .u64))) := Lib.hid (by have := HR.out; unfold URow at this; rw [List.length_map, ← hn] at this; exact this)
  clear hn HR HNU
  go_loopw [2, 8] (fun u2 u8 wr => ∃ i : Nat, i ≤ n ∧ u8 = .int .i64 (i : Nat) ∧ URow wr w1.heap.size u2 (pendL (s.rows.take i)) ∧ Below w1.heap.size w1 wr) (fun _ u8 _ => ((n : Int) - intOf u8).toNat)
  case atStart => exact ⟨0, Nat.zero_le _, rfl, ⟨rfl, .inl ⟨rfl, rfl⟩⟩, Below.refl _ _⟩
  case round =>
    obtain ⟨i, hi0, rfl, hrow, hbel⟩ := hrel
    obtain ⟨pv, cv, rfl⟩ := owns_slice hrow
    have HRW := Lib.hid hrow
    have HBL := Lib.hid hbel
    by_cases hi : i < n
    · have hil : i < s.rows.length := by have := HNN.out; omega
      obtain ⟨gk, capk, hpk, hgB, hgl, hfk, hcell⟩ := owns_cells HR1.out (by omega)
      injection hpk with hpk _ hck
      subst hpk hck
      have k0 : wr.cell? ⟨gk, i, none⟩ = some (.int .u64 s.rows[i].job) := by
        rw [hbel.cell (p := ⟨gk, i, none⟩) hgl, hcell i (by omega)]
        simp [hil]
      have cr := (HC.out.below HB.out).below (hbel.mono (Nat.le_refl _))
      have hmem : s.rows[i] ∈ s.rows := List.getElem_mem hil
      have hlk := cr.num_at hmem
      have c2 := cr.c2
      have y5 : wr.cell? ⟨B s.rows[i].job, 5, none⟩ = some (.int .u8 s.rows[i].st) := (cr.jb _ hmem).1.cell 5
      have HTK : Hid (s.rows.take (i + 1) = s.rows.take i ++ [s.rows[i]]) := Lib.hid (List.take_succ_eq_append_getElem hil)
      have HLE : Hid ((pendL (s.rows.take i)).length ≤ 256) := Lib.hid (by have h1 := pendL_len (s.rows.take i); have h2 := HNN.out; rw [List.length_take] at h1; omega)
      have HIN := Lib.hid hi
      have hi' : (i : Int) < (n : Int) := by omega
      have HE : Hid (wrap64 ((i : Int) + 1) = ((i + 1 : Nat) : Int)) := Lib.hid (by have := HNN.out; unfold wrap64; omega)
      clear cr hmem hcell hrow hbel hi hi0 hfk hgB hgl
      generalize s.rows[i] = x at *
      clear hil
      obtain ⟨xj, xt, xp, xi, xf, xs, xv, xe⟩ := x
      dsimp only at *
      generalize B xj = q at *
      by_cases h1 : xs = 1
      · have h1' : (xs == 1) = true := by simpa using h1
        have HPE : Hid (pendL (s.rows.take (i + 1)) = pendL (s.rows.take i) ++ [xj]) := Lib.hid (by rw [HTK.out, pendL_snoc, if_pos h1])
        clear h1
        go_wp2_with (at_builtin; go_loud (refine wpl_append_row2 (ys := [.int .u64 xj]) rfl rfl rfl rfl Tryz.underlying54 info_u64 rfl rfl rfl (by decide) (by decide) HRW.out (by have := HLE.out; omega) HBL.out.size (by first | rfl | simp) ?_; intro v6 w6 h6 o6; obtain ⟨p6, c6, rfl⟩ := owns_slice h6; have HR6 := Lib.hid h6; have HB6 := Lib.hid (HBL.out.trans (o6.below HBL.out.size (fun k hk => (owns_type HRW.out hk).choose_spec.2.1))); clear h6 o6))
        go_roundw
        case rel => exact ⟨i + 1, by have := HIN.out; omega, by first | rw [HE.out] | simp, by rw [HPE.out]; unfold URow; rw [List.length_append, List.map_append]; exact HR6.out, HB6.out⟩
        case measure => (try rw [HE.out]); simp [intOf]; have := HIN.out; omega
      · have h1' : (xs == 1) = false := by simpa using h1
        have HPE : Hid (pendL (s.rows.take (i + 1)) = pendL (s.rows.take i)) := Lib.hid (by rw [HTK.out, pendL_snoc, if_neg h1, List.append_nil])
        clear h1
        go_wp2_with fail
        go_roundw
        case rel => exact ⟨i + 1, by have := HIN.out; omega, by first | rw [HE.out] | simp, by rw [HPE.out]; exact HRW.out, HBL.out⟩
        case measure => (try rw [HE.out]); simp [intOf]; have := HIN.out; omega
    · have hi' : ¬ (i : Int) < (n : Int) := by omega
      have HIE : Hid (s.rows.take i = s.rows) := Lib.hid (List.take_of_length_le (by have := HNN.out; omega))
      clear hrow hbel hi hi0
      go_wp2_with fail
      go_ret
      have h9 := HRW.out
      rw [HIE.out] at h9 ⊢
      exact ⟨_, rfl, owns_ge h9 HB.out.size, HB.out.trans (HBL.out.mono HB.out.size)⟩
def RowsP (w : World) (l : List JR) (e : Ending) (w' : World) : Prop := ∃ v, e = .returned v ∧ JRow w' w.heap.size v l ∧ Below w.heap.size w w'
set_option maxRecDepth 100000 in
theorem rows_nil (w : World) : Calls Tryz.prog 20 #[.pointer none] w fun e w' => e = .returned (.slice none 0 0) ∧ w = w' := by
  go_enter Tryz.func20, Tryz.ntmps20
  go_wp2_with (go_at_call 58; go_loud ((with_reducible refine (numbers_nil _).mono ?_); rintro e w1 ⟨rfl, rfl⟩))
  go_loopw [2, 8] (fun u2 u8 wr => u2 = .slice none 0 0 ∧ u8 = .int .i64 0 ∧ wr = w) (fun _ _ _ => 0)
  case atStart => exact ⟨rfl, rfl, rfl⟩
  case round =>
    obtain ⟨rfl, rfl, hwr⟩ := hrel
    have hwr := hwr.symm
    subst hwr
    go_wp2_with fail
    go_ret
    exact ⟨rfl, rfl⟩
def RowP2 (w : World) (xj : Int) (xt xp : ByteArray) (xi : List Int) (xf xs xv xe : Int) (e : Ending) (w' : World) : Prop := ∃ p c, e = .returned (.agg #[.int .u64 xj, .string xt, .string xp, .slice p xi.length c, .int .i64 xf, .int .u8 xs, .int .i64 xv, .int .i64 xe]) ∧ IRow w' w.heap.size (.slice p xi.length c) xi ∧ Below w.heap.size w w'
theorem rowp2 {w w' : World} {xj : Int} {xt xp : ByteArray} {xi : List Int} {xf xs xv xe : Int} {e : Ending} (h : RowP w ⟨xj, xt, xp, xi, xf, xs, xv, xe⟩ e w') : RowP2 w xj xt xp xi xf xs xv xe e w' := by
  obtain ⟨v, h1, h2, h3⟩ := h
  obtain ⟨p, c, rfl⟩ := owns_slice h2
  exact ⟨p, c, h1, h2, h3⟩
set_option maxRecDepth 100000 in
set_option maxHeartbeats 2000000 in
theorem rows_any (c : JW w B0 b h t B V s N) : Calls Tryz.prog 20 #[.pointer (some ⟨b, 0, none⟩)] w (RowsP w s.rows) := by
  have HNU := Lib.hid (numbers_any c)
  have HC := Lib.hid c
  clear c
  go_enter Tryz.func20, Tryz.ntmps20
  go_wp2_with (go_at_call 58; go_loud ((with_reducible refine HNU.out.mono ?_); rintro e w1 ⟨v, rfl, hr, hb⟩; obtain ⟨pk, ck, rfl⟩ := owns_slice hr; have HR := Lib.hid hr; have HB := Lib.hid hb; clear hr hb; (try rw [List.length_map])))
  obtain ⟨n, hn⟩ : ∃ n, n = s.rows.length := ⟨_, rfl⟩
  (try rw [List.length_map])
  rw [← hn]
  have HNN : Hid (n = s.rows.length ∧ n ≤ 256) := Lib.hid (by have := HC.out.inv.good.2.1; omega)
  have HR1 : Hid (w1.ownsRow w.heap.size 37 1 (.slice pk n ck) n ((s.rows.map (·.job)).map (Value.int .u64))) := Lib.hid (by have := HR.out; unfold URow at this; rw [List.length_map, ← hn] at this; exact this)
  clear hn HR HNU
  go_loopw [2, 8] (fun u2 u8 wr => ∃ i : Nat, i ≤ n ∧ u8 = .int .i64 (i : Nat) ∧ JRow wr w1.heap.size u2 (s.rows.take i) ∧ Below w1.heap.size w1 wr) (fun _ u8 _ => ((n : Int) - intOf u8).toNat)
  case atStart => exact ⟨0, Nat.zero_le _, rfl, JRow.nil _ _, Below.refl _ _⟩
  case round =>
    obtain ⟨i, hi0, rfl, hrow, hbel⟩ := hrel
    obtain ⟨pv, cv, rfl⟩ := hrow.slice
    obtain ⟨m, hm⟩ : ∃ m, m = (s.rows.take i).length := ⟨_, rfl⟩
    rw [← hm] at hrow ⊢
    have HM := Lib.hid hm
    have HRW := Lib.hid hrow
    have HBL := Lib.hid hbel
    clear hm
    by_cases hi : i < n
    · have hil : i < s.rows.length := by have := HNN.out; omega
      obtain ⟨gk, capk, hpk, hgB, hgl, hfk, hcell⟩ := owns_cells HR1.out (by omega)
      injection hpk with hpk _ hck
      subst hpk hck
      have k0 : wr.cell? ⟨gk, i, none⟩ = some (.int .u64 s.rows[i].job) := by
        rw [hbel.cell (p := ⟨gk, i, none⟩) hgl, hcell i (by omega)]
        simp [hil]
      have cr := (HC.out.below HB.out).below (hbel.mono (Nat.le_refl _))
      have hmem : s.rows[i] ∈ s.rows := List.getElem_mem hil
      have hlk := cr.num_at hmem
      have c2 := cr.c2
      have hjb := cr.jb _ hmem
      have HRO := Lib.hid (row_any hjb.1 (IRow.at hjb.2.2) (by have := (cr.ok _ hmem).2; omega))
      have HTK : Hid (s.rows.take (i + 1) = s.rows.take i ++ [s.rows[i]]) := Lib.hid (List.take_succ_eq_append_getElem hil)
      have HIN := Lib.hid hi
      have hi' : (i : Int) < (n : Int) := by omega
      have HE : Hid (wrap64 ((i : Int) + 1) = ((i + 1 : Nat) : Int)) := Lib.hid (by have := HNN.out; unfold wrap64; omega)
      have HML : Hid (m ≤ 256) := Lib.hid (by have h1 := HM.out; rw [List.length_take] at h1; have := HNN.out; omega)
      clear cr hmem hcell hrow hbel hi hi0 hfk hgB hgl hjb
      generalize s.rows[i] = x at *
      clear hil
      obtain ⟨xj, xt, xp, xi, xf, xs, xv, xe⟩ := x
      dsimp only at *
      generalize B xj = q at *
      obtain ⟨L, hL, hrw, hin⟩ := HRW.out
      have HL := Lib.hid (And.intro hL (And.intro hrw hin))
      clear hL hrw hin
      go_wp2_with fail
      (with_reducible refine Calls.mono HRO.out ?_)
      intro e w2 hrp
      obtain ⟨p2, c2, rfl, hq2, hb2⟩ := rowp2 hrp
      have HQ2 := Lib.hid hq2
      have HB2 := Lib.hid hb2
      have HRW2 : Hid (w2.ownsRow w1.heap.size 48 8 (.slice pv m cv) m (rowsJ L)) := Lib.hid (owns_below (by have := HL.out.2.1; rw [← HM.out] at this; exact this) hb2)
      have HBL2 : Hid (Below w1.heap.size w1 w2) := Lib.hid (HBL.out.trans (hb2.mono HBL.out.size))
      clear hrp hq2 hb2 k0 hlk
      go_wp2_with (at_builtin; go_loud (refine wpl_append_row2 (ys := jcells ⟨xj, xt, xp, xi, xf, xs, xv, xe⟩ (.slice p2 xi.length c2)) rfl rfl rfl rfl Tryz.underlying22 info_jr rfl (by simp [jcells, Value.oneCell']) rfl (by decide) (by decide) HRW2.out (by have := HML.out; omega) HBL2.out.size (by first | rfl | simp) ?_; intro v6 w6 h6 o6; obtain ⟨p6, c6, rfl⟩ := owns_slice h6; have HR6 := Lib.hid h6; have HO6 := Lib.hid o6; have HB6 := Lib.hid (HBL2.out.trans (o6.below HBL2.out.size (fun k hk => (owns_type HRW2.out hk).choose_spec.2.1))); clear h6 o6))
      go_roundw
      case rel => exact ⟨i + 1, by have := HIN.out; omega, by first | rw [HE.out] | simp, by
          rw [HTK.out]
          have h2 := HRW2.out
          have h6 := HR6.out
          rw [HM.out] at h2 h6
          exact JRow.snoc HL.out.1 h2 (fun p hp => (HL.out.2.2 p hp).below HB2.out) (IRow.ge HQ2.out HBL.out.size) (by first | exact h6 | (rw [← HM.out]; exact HR6.out)) (by have := HO6.out; rw [HM.out] at this; exact this), HB6.out⟩
      case measure => (try rw [HE.out]); simp [intOf]; have := HIN.out; omega
    · have hi' : ¬ (i : Int) < (n : Int) := by omega
      have HIE : Hid (s.rows.take i = s.rows) := Lib.hid (List.take_of_length_le (by have := HNN.out; omega))
      clear hrow hbel hi hi0
      go_wp2_with fail
      go_ret
      have h9 := HRW.out
      rw [HIE.out] at h9
      exact ⟨_, rfl, h9.ge HB.out.size, HB.out.trans (HBL.out.mono HB.out.size)⟩
end
end Go.Proofs.YtlahficmkfgooaaGreat


/- More steps of the theorem on regions that draw their order: operations on two slots, calls that only make memory, guards. No condition. -/
namespace Go.Proofs.YtlahficmkfgooaaGreat
namespace Reg
open Go.RowKit
set_option linter.unusedVariables false
section
variable {P : Program} {ops : Array Oper} {I : World → Prop} {a0 : Act} {R : Act → World → Prop} {o : Oper} {rest : List Oper} {K : List (Option Tmp × Spec)} {Gs : List (World → World → Prop)} {Js : List (World → Prop)} {w0 : World}
/-- An operation on two slots. -/
theorem rely_two (s t : Tmp) (u v c : Value) (hg : o.guard = none) (hop : o.op.operands = #[.tmp s, .tmp t]) (hu : ∀ x w, Fact K a0 s x w → x = u) (hv : ∀ x w, Fact K a0 t x w → x = v)
    (hrun : ∀ (ρ : Operand → Value) w, ρ (.tmp s) = u → ρ (.tmp t) = v → I w → (execOp ρ o).run P w = .ok (.value c) w)
    (hr : Rely P ops I w0 a0 R rest ((o.dst, Is c) :: K) Gs Js) : Rely P ops I w0 a0 R (o :: rest) K Gs Js :=
  rely_is c (fun a w hI hF => det_plain hg (hrun _ w (hu _ w (hF s (looksN hop (by simp)))) (hv _ w (hF t (looksN hop (by simp)))) hI)) hr
/-- A call that only makes memory. -/
theorem rely_mk (c : Value) (f : FuncId) (args : Array Value) (hg : o.guard = none)
    (hrun : ∀ (a : Act) (w : World), I w → (∀ t ∈ o.looksAt ops, Fact K a0 t (a.tmps.getD t undef) w) → (execOp a.eval o).run P w = .ok (.enter f args) w)
    (hc : ∀ w, I w → Calls P f args w fun e w' => e = .returned c ∧ Below w.heap.size w w')
    (hr : Rely P ops I w0 a0 R rest ((o.dst, Is c) :: K) Gs Js) : Rely P ops I w0 a0 R (o :: rest) K Gs Js := by
  refine rely_rel (Is c) (stab_is c _) (fun G _ => stab_is c G) hg (fun a w hi hF => ?_) hr
  unfold Oper.wp
  rw [hrun a w hi hF]
  simp only [Oper.upon]
  refine (hc w hi).mono fun e w' ⟨he, hb⟩ => ?_
  subst he
  exact ⟨c, rfl, rfl, hb⟩
theorem wanted_true {a : Act} {j : Nat} {g : Tmp} (hg : o.guard = some (j, true)) (hd : ((ops[j]?).bind (·.dst)) = some g) (hv : a.tmps.getD g undef = .bool true) : Region.wanted o (yielded ops a.tmps) = true := by
  unfold Region.wanted
  rw [hg]
  simp only [yielded, hd, Option.bind_some]
  rw [Array.getD_eq_getD_getElem?] at hv
  cases h : a.tmps[g]? with
  | none => rw [h] at hv; cases hv
  | some v => rw [h] at hv; simp only [Option.getD_some] at hv; subst hv; rfl
theorem looksG {j : Nat} {b : Bool} {g : Tmp} (hg : o.guard = some (j, b)) (hd : ((ops[j]?).bind (·.dst)) = some g) : g ∈ o.looksAt ops := by
  unfold Oper.looksAt
  rw [hg]
  simp [hd]
theorem rely_plain (c : Value) (hg : o.guard = none)
    (hrun : ∀ (a : Act) (w : World), I w → (∀ t ∈ o.looksAt ops, Fact K a0 t (a.tmps.getD t undef) w) → (execOp a.eval o).run P w = .ok (.value c) w)
    (hr : Rely P ops I w0 a0 R rest ((o.dst, Is c) :: K) Gs Js) : Rely P ops I w0 a0 R (o :: rest) K Gs Js :=
  rely_is c (fun a w hI hF => det_plain hg (hrun a w hI hF)) hr
/-- One under a guard that holds. -/
theorem rely_isg (c : Value) (j : Nat) (g : Tmp) (hg : o.guard = some (j, true)) (hd : ((ops[j]?).bind (·.dst)) = some g) (hgf : ∀ v w, Fact K a0 g v w → v = .bool true)
    (hrun : ∀ (a : Act) (w : World), I w → (∀ t ∈ o.looksAt ops, Fact K a0 t (a.tmps.getD t undef) w) → (execOp a.eval o).run P w = .ok (.value c) w)
    (hr : Rely P ops I w0 a0 R rest ((o.dst, Is c) :: K) Gs Js) : Rely P ops I w0 a0 R (o :: rest) K Gs Js :=
  rely_is c (fun a w hI hF => .inl ⟨wanted_true hg hd (hgf _ w (hF g (looksG hg hd))), hrun a w hI hF⟩) hr
/-- One that makes memory, under a guard that holds. -/
theorem rely_relg (S : Spec) (hS : Stab S Grow) (hG : ∀ G ∈ Gs, Stab S G) (j : Nat) (g : Tmp) (hg : o.guard = some (j, true)) (hd : ((ops[j]?).bind (·.dst)) = some g) (hgf : ∀ v w, Fact K a0 g v w → v = .bool true)
    (h : ∀ a w, I w → (∀ t ∈ o.looksAt ops, Fact K a0 t (a.tmps.getD t undef) w) → o.wp P a w (fun a' w' => ∃ v, a' = a.put o.dst v ∧ S v w' ∧ Grow w w') (fun _ _ _ => False))
    (hr : Rely P ops I w0 a0 R rest ((o.dst, S) :: K) Gs Js) : Rely P ops I w0 a0 R (o :: rest) K Gs Js :=
  .inl ⟨S, hS, hG, fun a w hI _ hF => by rw [if_pos (wanted_true hg hd (hgf _ w (hF g (looksG hg hd))))]; exact h a w hI hF, hr⟩
/-- A call whose arguments may lie anywhere, under a guard that holds. -/
theorem rely_callg (S : Spec) (hS : Stab S Grow) (hG : ∀ G ∈ Gs, Stab S G) (j : Nat) (g : Tmp) (hg : o.guard = some (j, true)) (hd : ((ops[j]?).bind (·.dst)) = some g) (hgf : ∀ v w, Fact K a0 g v w → v = .bool true)
    (h : ∀ (a : Act) (w : World), I w → (∀ t ∈ o.looksAt ops, Fact K a0 t (a.tmps.getD t undef) w) → ∃ f args, (execOp a.eval o).run P w = .ok (.enter f args) w ∧ Calls P f args w fun e w' => ∃ v, e = .returned v ∧ S v w' ∧ Below w.heap.size w w')
    (hr : Rely P ops I w0 a0 R rest ((o.dst, S) :: K) Gs Js) : Rely P ops I w0 a0 R (o :: rest) K Gs Js := by
  refine rely_relg S hS hG j g hg hd hgf (fun a w hi hF => ?_) hr
  obtain ⟨f, args, hrun, hc⟩ := h a w hi hF
  unfold Oper.wp
  rw [hrun]
  simp only [Oper.upon]
  refine hc.mono fun e w' ⟨v, he, h1, h2⟩ => ?_
  subst he
  exact ⟨v, rfl, h1, h2⟩
end
end Reg
end Go.Proofs.YtlahficmkfgooaaGreat


/- The check of the theorem on regions that draw their order, reckoned so that great regions pass: an edge of its own is looked for first. No condition. -/
namespace Go.Proofs.YtlahficmkfgooaaGreat
namespace Reg
open Go.RowKit
set_option linter.unusedVariables false
def near (md : Region.Mode) (ops : Array Oper) (j i : Nat) : Bool :=
  match ops[i]? with
  | some o => o.after.any fun e => Region.binds md e && e.on == j
  | none => false
def aheadQ (md : Region.Mode) (ops : Array Oper) (j i : Nat) : Bool := near md ops j i || ahead md ops ops.size j i
theorem aheadQ_imp {md : Region.Mode} {ops : Array Oper} {j i : Nat} (h : aheadQ md ops j i = true) : ahead md ops ops.size j i = true := by
  unfold aheadQ at h
  rw [Bool.or_eq_true] at h
  rcases h with h | h
  · unfold near at h
    cases ho : ops[i]? with
    | none => rw [ho] at h; cases h
    | some o =>
      rw [ho] at h
      simp only at h
      have hlt : i < ops.size := (Array.getElem?_eq_some_iff.1 ho).1
      obtain ⟨k, hk⟩ : ∃ k, ops.size = k + 1 := ⟨ops.size - 1, by omega⟩
      rw [hk]
      unfold ahead
      rw [ho]
      simp only
      rw [Array.any_eq_true] at h ⊢
      obtain ⟨x, hx, h2⟩ := h
      refine ⟨x, hx, ?_⟩
      rw [Bool.and_eq_true] at h2 ⊢
      exact ⟨h2.1, by rw [h2.2]; rfl⟩
  · exact h
def readsOkQ (md : Region.Mode) (ops : Array Oper) (n : Nat) (i : Nat) : Bool :=
  match ops[i]? with
  | some oi => (oi.looksAt ops).all fun t => (List.range n).all fun j =>
    (match ops[j]? with | some oj => oj.dst != some t || (decide (j < i) && aheadQ md ops j i) || (decide (i < j) && aheadQ md ops i j) | none => true)
  | none => false
def relyOkQ (P : Program) (md : Region.Mode) (ops : Array Oper) (n m : Nat) : Bool :=
  textOk P md ops n && decide (n ≤ ops.size) && (List.range n).all fun i => readsOkQ md ops n i && distOk ops n i &&
    ((List.range ops.size).all fun t => decide (t < n) || aheadQ md ops i t) &&
    (match (ops[i]?).bind (·.dst) with | some d => decide (d < m) | none => true)
theorem relyOk_of {P : Program} {md : Region.Mode} {ops : Array Oper} {n m : Nat} (h : relyOkQ P md ops n m = true) : relyOk P md ops n m = true := by
  unfold relyOkQ at h
  unfold relyOk
  rw [Bool.and_eq_true] at h ⊢
  refine ⟨h.1, ?_⟩
  have h2 := h.2
  rw [List.all_eq_true] at h2 ⊢
  intro i hi
  have h3 := h2 i hi
  rw [Bool.and_eq_true, Bool.and_eq_true, Bool.and_eq_true] at h3 ⊢
  obtain ⟨⟨⟨a, b⟩, c⟩, d⟩ := h3
  refine ⟨⟨⟨?_, b⟩, ?_⟩, d⟩
  · unfold readsOkQ at a
    unfold readsOk
    cases ho : ops[i]? with
    | none => rw [ho] at a; cases a
    | some oi =>
      rw [ho] at a
      simp only at a ⊢
      rw [List.all_eq_true] at a ⊢
      intro t ht
      have a1 := a t ht
      rw [List.all_eq_true] at a1 ⊢
      intro j hj
      have a2 := a1 j hj
      cases hj2 : ops[j]? with
      | none => rfl
      | some oj =>
        rw [hj2] at a2
        simp only [Bool.or_eq_true, Bool.and_eq_true] at a2 ⊢
        rcases a2 with (a2 | a2) | a2
        · exact .inl (.inl a2)
        · exact .inl (.inr ⟨a2.1, aheadQ_imp a2.2⟩)
        · exact .inr ⟨a2.1, aheadQ_imp a2.2⟩
  · rw [List.all_eq_true] at c ⊢
    intro t ht
    have c1 := c t ht
    rw [Bool.or_eq_true] at c1 ⊢
    exact c1.imp id aheadQ_imp
end Reg
end Go.Proofs.YtlahficmkfgooaaGreat
