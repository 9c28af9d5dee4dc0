import Derived.Test.YtgdgonmhgpflcaaRpcK
import Derived.Maps.RangeWalk
import Derived.Deep.RegionLaw

/- Who is called, in the world: what was heard of each caller; the walk of a peer's count. No condition. -/
namespace Go.Proofs.Ytgdgonmhgpflcaa
open Go.RowKit Go.Maps Wire Rp
set_option linter.unusedVariables false
set_option linter.unusedSimpArgs false
namespace Rp
structure He where
  seq : Int
  dn : Bool
  body : ByteArray
structure Pe where
  fr : Int
  inc : Int
  floor : Int
  L : List He
/-- The text that is kept of a call that is done. -/
def txt (inc : Int) (h : He) : ByteArray := if h.dn then pkS ⟨true, inc, h.seq, h.body⟩ else ⟨#[]⟩
abbrev Hv := Int × Bool × ByteArray
def hrow (inc : Int) (h : He) : Hv := (h.seq, h.dn, txt inc h)
def hrows (inc : Int) (L : List He) : List Hv := L.map (hrow inc)
def hval (a : Bool × ByteArray) : Value := .agg #[.bool a.1, .string a.2]
def hdat (a : Bool × ByteArray) : Ml.DV := .agg [.lit (.bool a.1), .lit (.string a.2.data.toList)]
def hdE : Value → Option (Ml.DV × List MemPlace)
  | .agg cs => match cs.toList with
    | [.bool a, .string s] => some (hdat (a, s), [])
    | _ => none
  | _ => none
theorem hdE_some {v : Value} {y : Ml.DV × List MemPlace} (h : hdE v = some y) : ∃ a, v = hval a ∧ y = (hdat a, []) := by
  unfold hdE at h
  split at h
  · rename_i cs
    split at h
    · rename_i a s e
      injection h with h
      refine ⟨(a, s), ?_, h.symm⟩
      have hc : cs = #[.bool a, .string s] := by rw [← Array.toArray_toList (xs := cs), e]
      rw [hc]; rfl
    · cases h
  · cases h
theorem hdat_inj {a b : Bool × ByteArray} (h : hdat a = hdat b) : a = b := by
  obtain ⟨a1, a2⟩ := a
  obtain ⟨b1, b2⟩ := b
  unfold hdat at h
  simp only [DataW.agg.injEq, List.cons.injEq, DataW.lit.injEq, Lit.bool.injEq, Lit.string.injEq, and_true] at h
  exact Prod.ext h.1 (ByteArray.ext (Array.toList_inj.1 h.2))
theorem hdE_inv {v : Value} {a : Bool × ByteArray} {ps : List MemPlace} (h : hdE v = some (hdat a, ps)) : v = hval a := by
  obtain ⟨b, rfl, e⟩ := hdE_some h
  injection e with e _
  rw [hdat_inj e]
def layH : Ml.Lay Hv where
  key a := KR a.1
  val a := hval a.2
  dat a := hdat a.2
  rd := hdE
  rdm _ := rfl
  inv _ _ _ h := hdE_inv h
  lit _ := trivial
def KI (x : Int) : Lit := .int .i64 x
theorem ki_ne {x y : Int} (h : ¬ x = y) : KI x ≠ KI y := fun e => h (by unfold KI at e; injection e)
def layP : Ml.Lay (Int × Nat) where
  key a := KI a.1
  val a := .pointer (some ⟨a.2, 0, none⟩)
  dat a := .lit (.int .i64 (a.2 : Int))
  rd := ptE
  rdm _ := rfl
  inv _ _ _ h := ptE_inv h
  lit _ := trivial
def hOk (h : He) : Prop := 1 ≤ h.seq ∧ h.seq ≤ 4611686018427387904 ∧ h.body.size ≤ 8192
structure PInv (p : Pe) : Prop where
  inc : 1 ≤ p.inc ∧ p.inc ≤ 4611686018427387904
  floor : 0 ≤ p.floor ∧ p.floor ≤ 4611686018427387905
  dis : p.L.Pairwise (fun a b => a.seq ≠ b.seq)
  ok : ∀ h ∈ p.L, hOk h
def cntD (d : Bool) (L : List He) : Nat := L.countP fun h => h.dn == d
theorem kr_same (x y : Int) : (KR x).sameKey (KR y) = (x == y) := by
  unfold KR; rw [Bool.eq_iff_iff]; simp [Lit.sameKey]
end Rp
theorem kdIn : Keyed Try.prog 3 := int_keyed Try.underlying3
theorem keyIn {x : Int} (h : I64 x) : keyOf Try.prog 3 (.int .i64 x) = some (KI x) := keyOf_int_mk Try.underlying3 (WalkArith.wf_i64 (by unfold I64 at h; omega))
theorem zP (w : World) : (zeroValue 122).run Try.prog w = .ok (.pointer none) w := Try.zeroValue122 w
theorem zH (w : World) : (zeroValue 127).run Try.prog w = .ok (hval (false, ⟨#[]⟩)) w := Try.zeroValue127 w
/-- A peer: its struct in block q, what was heard in the map m. -/
structure PW (w : World) (q m : Nat) (p : Pe) (N : Nat) : Prop where
  blk : Blk w q 125 #[.int .u64 p.inc, .int .u64 p.floor, .map (some m)]
  mp : Ml.At layH Try.prog 22 w m (hrows p.inc p.L) N
  inv : PInv p
section
variable {w w' w1 : World} {q m N : Nat} {p : Pe}
theorem PW.ne (c : PW w q m p N) : m ≠ q := fun e => by have h := c.blk; rw [← e] at h; exact c.mp.no_cells h
theorem PW.only {S : Nat → Prop} (c : PW w q m p N) (o : Only S w w') (h1 : ¬ S q) (h2 : ¬ S m) : PW w' q m p N := ⟨c.blk.only o h1, c.mp.only o h2, c.inv⟩
theorem PW.below (c : PW w q m p N) (hb : Below w.heap.size w w') : PW w' q m p N := c.only (S := fun _ => False) (.of_below hb) id id
theorem PW.mono (c : PW w q m p N) {M : Nat} (h : N ≤ M) : PW w q m p M := ⟨c.blk, c.mp.mono h, c.inv⟩
theorem PW.c0 (c : PW w q m p N) : w.cell? ⟨q, 0, none⟩ = some (.int .u64 p.inc) := by rw [c.blk.cell 0]; rfl
theorem PW.c1 (c : PW w q m p N) : w.cell? ⟨q, 1, none⟩ = some (.int .u64 p.floor) := by rw [c.blk.cell 1]; rfl
theorem PW.c2 (c : PW w q m p N) : w.cell? ⟨q, 2, none⟩ = some (.map (some m)) := by rw [c.blk.cell 2]; rfl
theorem PW.fz (c : PW w q m p N) : ∀ o, w.frozen? ⟨q, o, none⟩ = false := c.blk.frozen
theorem PW.len (c : PW w q m p N) : p.L.length ≤ N := by
  obtain ⟨D, o, _, _, h3⟩ := c.mp
  have := o.size_le
  rw [h3] at this
  unfold hrows at this
  rwa [List.length_map] at this
end
namespace Rp
/-- How many were counted, of those that are not left. -/
def cntL (d : Bool) (L : List He) (left : Lit → Bool) : Nat := L.countP fun h => !left (KR h.seq) && (h.dn == d)
theorem cntL_step {d : Bool} {left : Lit → Bool} {x : Int} (hx : left (KR x) = true) : ∀ {L : List He}, L.Pairwise (fun a b => a.seq ≠ b.seq) → ∀ {h0 : He}, h0 ∈ L → h0.seq = x →
    cntL d L (fun z => left z && !z.sameKey (KR x)) = cntL d L left + (if h0.dn == d then 1 else 0) := by
  intro L
  induction L with
  | nil => intro _ h0 h; cases h
  | cons a L ih =>
    intro hp h0 hm he
    obtain ⟨h1, h2⟩ := List.pairwise_cons.1 hp
    unfold cntL at *
    rw [List.countP_cons, List.countP_cons]
    rcases List.mem_cons.1 hm with e | e
    · have hrest : L.countP (fun h => !(left (KR h.seq) && !(KR h.seq).sameKey (KR x)) && (h.dn == d)) = L.countP (fun h => !left (KR h.seq) && (h.dn == d)) := by
        refine List.countP_congr fun h hh => ?_
        have : h.seq ≠ x := fun e2 => h1 h hh (by rw [← e, he, e2])
        rw [kr_same]; simp [this]
      rw [hrest, ← e, he]
      simp [kr_same, hx]
    · have hne : a.seq ≠ x := by rw [← he]; exact h1 h0 e
      rw [ih h2 e he]
      simp only [kr_same, beq_eq_false_iff_ne.2 hne, Bool.not_false, Bool.and_true]
      omega
theorem cntL_end {d : Bool} {L : List He} {left : Lit → Bool} (h : ∀ k, left k = false) : cntL d L left = cntD d L := by
  unfold cntL cntD; refine List.countP_congr fun x _ => ?_; simp [h]
theorem cntL_start {d : Bool} {L : List He} {left : Lit → Bool} (h : ∀ x ∈ L, left (KR x.seq) = true) : cntL d L left = 0 := by
  unfold cntL; rw [List.countP_eq_zero]; intro x hx; simp [h x hx]
/-- What an entry that comes is. -/
theorem entry_of {D : Ml.DV} {inc : Int} {L : List He} (h1 : ∀ a ∈ hrows inc L, ∀ zd, D.atKey (layH.key a) zd = layH.dat a) (h2 : ∀ k, Maps.has D k = true ↔ ∃ a ∈ hrows inc L, layH.key a = k) {x : Int} {c : Bool × ByteArray}
    (hk : Maps.has D (KR x) = true) (hat : ∀ zd, D.atKey (KR x) zd = hdat c) : ∃ h0 ∈ L, h0.seq = x ∧ c = (h0.dn, txt inc h0) := by
  obtain ⟨a, ha, e⟩ := (h2 _).1 hk
  have h3 := h1 a ha (.lit (.int .i64 0))
  rw [e, hat] at h3
  obtain ⟨h0, hm, rfl⟩ := List.mem_map.1 ha
  refine ⟨h0, hm, ?_, hdat_inj h3⟩
  have : KR h0.seq = KR x := e
  unfold KR at this; injection this
end Rp
/-- The iteration over what was heard stands: what is left is in the map. -/
def RgH (w0 : World) (p : Pe) (m r N : Nat) (D : Ml.DV) (left : Lit → Bool) (cn : Nat) (wr : World) : Prop :=
  wr.ranges Try.prog 22 hdE m r N D left cn ∧ (∀ k, left k = true → Maps.has D k = true) ∧ Below w0.heap.size w0 wr
def CtR (w0 : World) (p : Pe) (d : Bool) (m r N : Nat) (D : Ml.DV) (u : Value) (wr : World) : Prop :=
  ∃ left cn, RgH w0 p m r N D left cn wr ∧ u = .int .i64 (cntL d p.L left)
theorem below_it {r : Nat} {w wr w4 : World} (h : Below w.heap.size w wr) (g : wr.grownBy w4 (some r)) (hr : w.heap.size ≤ r) : Below w.heap.size w w4 := h.trans ((only_map g).below h.size fun k e => by rw [show k = r from e]; exact hr)
theorem HST2 {dn d : Bool} {a b : Nat} (h : a = b + (if (dn == d) = true then 1 else 0)) (hd : (dn == d) = false) : a = b := by rw [h, hd]; simp
theorem HST3 {dn d : Bool} {a b : Nat} (h : a = b + (if (dn == d) = true then 1 else 0)) (hd : (dn == d) = true) (hb : b ≤ 1000000) : Value.int .i64 (wrap64 ((b : Int) + 1)) = Value.int .i64 (a : Int) := by rw [h, hd]; simp; unfold wrap64; omega
set_option maxRecDepth 100000 in
set_option maxHeartbeats 2000000 in
theorem count_any {w : World} {q m N : Nat} {p : Pe} (c : PW w q m p N) (hN : N ≤ 1000000) (d : Bool) :
    Calls Try.prog 61 #[.pointer (some ⟨q, 0, none⟩), .bool d] w fun e w' => e = .returned (.int .i64 (cntD d p.L)) ∧ Below w.heap.size w w' := by
  have HC := Lib.hid c
  have HN := Lib.hid hN
  have c2 := c.c2
  obtain ⟨D, o, o1, o2, o3⟩ := c.mp
  have HO := Lib.hid o
  have HD := Lib.hid (And.intro o1 o2)
  have HM := Lib.hid (And.intro o.lt (by have := c.len; omega : p.L.length ≤ 1000000))
  clear c hN o o1 o2 o3
  go_enter Try.func61, Try.ntmps61
  go_wp2_with (at_range; refine wpList_range_own _ rfl _ 123 rfl 22 127 kdR Try.underlying123 _ m N D rfl HO.out ?_; intro w3 hR gR szR; have HZ : Hid (CtR w p d m w.heap.size N D (.int .i64 0) w3) := Lib.hid ⟨_, _, ⟨hR, fun k h => h, ⟨gR.os, gR.tape, gR.output, gR.size, fun i hi => gR.block i hi (by intro e; cases e)⟩⟩, by rw [cntL_start (fun x hx => (HD.out.2 _).2 ⟨_, List.mem_map.2 ⟨x, hx, rfl⟩, rfl⟩)]; rfl⟩; clear hR gR szR c2)
  simp only [Act.put, List.setIfInBounds_toArray, List.set_cons_succ, List.set_cons_zero]
  have HW := Lib.hid (Nat.le_refl w.heap.size)
  generalize hr : w.heap.size = r at *
  have HRR := Lib.hid hr
  clear hr
  go_loopw [4] (fun u wr => CtR w p d m r N D u wr) (fun _ wr => wr.rangeLeft m r)
  case atStart => exact HZ.out
  case round =>
    obtain ⟨left, cn, ⟨hR, hleft, hb⟩, rfl⟩ := hrel
    have HLE := Lib.hid hR.left_eq
    have HR := Lib.hid hR
    have HLF := Lib.hid hleft
    have HB := Lib.hid hb
    have HCB : Hid (cntL d p.L left ≤ 1000000) := Lib.hid (Nat.le_trans List.countP_le_length HM.out.2)
    clear hR hleft hb HZ
    go_wp2_with (at_next; go_loud (refine wpList_next_ranges _ rfl _ rfl 22 kdR hdE (Value.int .u64) hval (fun key kl hk => by obtain ⟨x, hx, _⟩ := Maps.keyOf_int_inv Try.underlying22 hk; exact ⟨x, hx⟩) (fun v y hv => by obtain ⟨a, ha, _⟩ := hdE_some hv; exact ⟨a, ha⟩) m r N D left cn rfl HR.out (fun h0 hl0 => ?done) (fun x c kl y w4 cnt2 hk hlx hy hat hr2 hlt2 gr2 szr2 hen => ?more); case' more => (
      obtain ⟨x', hx', hkl, _⟩ := Maps.keyOf_int_inv Try.underlying22 hk; injection hx' with _ hx'; subst hx'; subst hkl; have hy' := hy; injection hy' with hy'; subst hy';
      obtain ⟨h0, hm0, hx0, hc0⟩ := entry_of HD.out.1 HD.out.2 (HLF.out _ hlx) hat;
      have HST := Lib.hid (cntL_step (d := d) hlx HC.out.inv.dis hm0 hx0);
      have HR2 := Lib.hid hr2; have HLT := Lib.hid hlt2; have HG := Lib.hid gr2; clear hk hlx hy hat hr2 hlt2 gr2 szr2 hm0 hx0; have hc1 : c = (h0.dn, txt p.inc h0) := hc0; clear hc0; subst hc1; generalize h0.dn = dn at *; generalize txt p.inc h0 = tx at *; unfold hval at *; dsimp only at hen; cases hdd : (dn == d))))
    · have HB4 := Lib.hid (below_it HB.out HG.out (by have := HRR.out; omega))
      refine ⟨⟨_, cnt2, ⟨HR2.out.alloc _, fun k hk => HLF.out k (by simp only [Bool.and_eq_true] at hk; exact hk.1), HB4.out.alloc HB4.out.size _⟩, congrArg (fun n : Nat => Value.int .i64 (n : Int)) (HST2 HST.out hdd).symm⟩, by rw [(HR2.out.alloc _).left_eq, HLE.out]; exact HLT.out⟩
    · have HB4 := Lib.hid (below_it HB.out HG.out (by have := HRR.out; omega))
      refine ⟨⟨_, cnt2, ⟨HR2.out.alloc _, fun k hk => HLF.out k (by simp only [Bool.and_eq_true] at hk; exact hk.1), HB4.out.alloc HB4.out.size _⟩, HST3 HST.out hdd HCB.out⟩, by rw [(HR2.out.alloc _).left_eq, HLE.out]; exact HLT.out⟩
    · have he := cntL_end (d := d) (L := p.L) hl0
      go_ret
      exact ⟨congrArg (fun n : Nat => Ending.returned (Value.int .i64 (n : Int))) he, HB.out⟩
end Go.Proofs.Ytgdgonmhgpflcaa


/- The walk of a peer's forgets. No condition but that the peer is one. -/
namespace Go.Proofs.Ytgdgonmhgpflcaa
open Go.RowKit Go.Maps Wire Rp
set_option linter.unusedVariables false
set_option linter.unusedSimpArgs false
namespace Rp
/-- The least number of those that are done. -/
def leastD (L : List He) : Int := ((L.filter fun h => h.dn).map fun h => h.seq).foldr min 4611686018427387905
def IsLeast (L : List He) (m : Int) : Prop := (∀ h ∈ L, h.dn = true → m ≤ h.seq) ∧ (m = 4611686018427387905 ∨ ∃ h ∈ L, h.dn = true ∧ h.seq = m) ∧ m ≤ 4611686018427387905
theorem fold_min : ∀ (l : List Int), (∀ x ∈ l, l.foldr min 4611686018427387905 ≤ x) ∧ (l.foldr min 4611686018427387905 = 4611686018427387905 ∨ l.foldr min 4611686018427387905 ∈ l) ∧ l.foldr min 4611686018427387905 ≤ 4611686018427387905 := by
  intro l
  induction l with
  | nil => exact ⟨fun x h => (by cases h), .inl rfl, Int.le_refl _⟩
  | cons a l ih =>
    obtain ⟨h1, h2, h3⟩ := ih
    rw [List.foldr_cons]
    refine ⟨fun x hx => ?_, ?_, by omega⟩
    · rcases List.mem_cons.1 hx with e | e
      · omega
      · have := h1 x e; omega
    · rcases Int.le_total a (l.foldr min 4611686018427387905) with h | h
      · right; rw [Int.min_eq_left h]; exact List.mem_cons_self
      · rw [Int.min_eq_right h]
        rcases h2 with e | e
        · exact .inl e
        · exact .inr (List.mem_cons_of_mem _ e)
theorem leastD_is (L : List He) : IsLeast L (leastD L) := by
  obtain ⟨h1, h2, h3⟩ := fold_min ((L.filter fun h => h.dn).map fun h => h.seq)
  refine ⟨fun h hm hd => h1 _ (List.mem_map.2 ⟨h, List.mem_filter.2 ⟨hm, hd⟩, rfl⟩), ?_, h3⟩
  rcases h2 with e | e
  · exact .inl e
  · obtain ⟨h, hm, e2⟩ := List.mem_map.1 e
    exact .inr ⟨h, (List.mem_filter.1 hm).1, (List.mem_filter.1 hm).2, e2⟩
theorem least_uniq {L : List He} {m : Int} (h : IsLeast L m) : m = leastD L := by
  have key : ∀ {a b : Int}, IsLeast L a → IsLeast L b → a ≤ b := fun {a b} ha hb => by
    rcases hb.2.1 with e | ⟨x, hx, hd, e⟩
    · rw [e]; exact ha.2.2
    · rw [← e]; exact ha.1 x hx hd
  have h1 := key h (leastD_is L)
  have h2 := key (leastD_is L) h
  omega
def delH (L : List He) (x : Int) : List He := L.filter fun h => !(h.seq == x)
def forgetP (p : Pe) : Pe := if cntD true p.L ≤ 64 then p else { p with L := delH p.L (leastD p.L), floor := max p.floor (leastD p.L) }
/-- .. among those that came. -/
def IsL (L : List He) (left : Lit → Bool) (m : Int) : Prop := (∀ h ∈ L, left (KR h.seq) = false → h.dn = true → m ≤ h.seq) ∧ (m = 4611686018427387905 ∨ ∃ h ∈ L, h.dn = true ∧ h.seq = m) ∧ m ≤ 4611686018427387905
theorem isL_start {L : List He} {left : Lit → Bool} (h : ∀ x ∈ L, left (KR x.seq) = true) : IsL L left 4611686018427387905 :=
  ⟨fun x hx hl _ => (by rw [h x hx] at hl; cases hl), .inl rfl, Int.le_refl _⟩
theorem isL_end {L : List He} {left : Lit → Bool} (h : ∀ k, left k = false) {m : Int} (hm : IsL L left m) : IsLeast L m :=
  ⟨fun x hx hd => hm.1 x hx (h _) hd, hm.2.1, hm.2.2⟩
theorem isL_step {L : List He} {left : Lit → Bool} {m x : Int} (hd : L.Pairwise (fun a b => a.seq ≠ b.seq)) (hm : IsL L left m) {h0 : He} (h1 : h0 ∈ L) (h2 : h0.seq = x) :
    IsL L (fun z => left z && !z.sameKey (KR x)) (if h0.dn then min m x else m) := by
  obtain ⟨a, b, c⟩ := hm
  have hin : ∀ h ∈ L, h.seq = x → h = h0 := fun h hh e => by
    rcases List.mem_iff_getElem.1 hh with ⟨i, hi, e1⟩
    rcases List.mem_iff_getElem.1 h1 with ⟨j, hj, e2⟩
    rw [List.pairwise_iff_getElem] at hd
    rcases Nat.lt_trichotomy i j with h3 | h3 | h3
    · exact absurd (by rw [e1, e2, e, h2]) (hd i j hi hj h3)
    · subst h3; rw [← e1, ← e2]
    · exact absurd (by rw [e1, e2, e, h2]) (hd j i hj hi h3)
  cases hdn : h0.dn with
  | false =>
    simp only [Bool.false_eq_true, if_false]
    refine ⟨fun h hh hl hd2 => ?_, b, c⟩
    dsimp only at hl
    rw [kr_same] at hl
    by_cases e : h.seq = x
    · rw [hin h hh e, hdn] at hd2; cases hd2
    · exact a h hh (by simpa [e] using hl) hd2
  | true =>
    simp only [if_true]
    refine ⟨fun h hh hl hd2 => ?_, ?_, by omega⟩
    · dsimp only at hl
      rw [kr_same] at hl
      by_cases e : h.seq = x
      · omega
      · have := a h hh (by simpa [e] using hl) hd2; omega
    · rcases Int.le_total m x with h3 | h3
      · rw [Int.min_eq_left h3]; exact b
      · rw [Int.min_eq_right h3]; exact .inr ⟨h0, h1, hdn, h2⟩
theorem hrows_filter [DecidableEq Lit] {inc : Int} {L : List He} {x : Int} : (hrows inc L).filter (fun g => !(decide (layH.key g = KR x))) = hrows inc (delH L x) := by
  unfold hrows delH
  rw [List.filter_map]
  congr 1
  refine List.filter_congr fun c _ => ?_
  have : (decide (layH.key (hrow inc c) = KR x)) = (c.seq == x) := by
    show decide (KR c.seq = KR x) = _
    by_cases h : c.seq = x
    · simp [h]
    · rw [decide_eq_false (kr_ne h)]; simp [h]
  simp [this]
theorem hrows_dis {inc : Int} {L : List He} (h : L.Pairwise (fun a b => a.seq ≠ b.seq)) : (hrows inc L).Pairwise (fun a b => layH.key a ≠ layH.key b) := by
  unfold hrows
  rw [List.pairwise_map]
  exact h.imp fun {a b} hab => kr_ne (by show ¬ a.seq = b.seq; exact hab)
theorem PInv.forget {p : Pe} (h : PInv p) : PInv { p with L := delH p.L (leastD p.L), floor := max p.floor (leastD p.L) } :=
  ⟨h.inc, by have h1 := h.floor; have h2 := (leastD_is p.L).2.2; dsimp only; omega, h.dis.filter _, fun x hx => h.ok x (List.mem_filter.1 hx).1⟩
end Rp
section
variable {w w' : World} {q m N : Nat} {p : Pe}
/-- Behind the deletion and the store. -/
theorem PW.forget (c : PW w q m p N) : ∃ D, w.ownsMap Try.prog 22 hdE m N D ∧ ∀ w5, w5.ownsMap Try.prog 22 hdE m N (D.del (KR (leastD p.L))) → w.mapTurned w5 m →
    w5.cell? ⟨q, 1, none⟩ = some (.int .u64 p.floor) ∧ (∀ o, w5.frozen? ⟨q, o, none⟩ = false) ∧
    PW (w5.setCell ⟨q, 1, none⟩ (.int .u64 (max p.floor (leastD p.L)))) q m { p with L := delH p.L (leastD p.L), floor := max p.floor (leastD p.L) } N ∧ Only (fun k => k = q ∨ k = m) w (w5.setCell ⟨q, 1, none⟩ (.int .u64 (max p.floor (leastD p.L)))) := by
  haveI : DecidableEq Lit := Classical.typeDecidableEq _
  obtain ⟨D, o, h1, h2, h3⟩ := c.mp
  refine ⟨D, o, fun w5 o5 t5 => ?_⟩
  have hoh := only_map t5.grown
  have hm := Ml.At.of_del (l := layH) kdR o h1 h2 h3 (hrows_dis c.inv.dis) o5
  rw [hrows_filter] at hm
  have hb := c.blk.only hoh (fun e => c.ne (by rw [show q = m from e]))
  have o7 : Only (· = q) w5 (w5.setCell ⟨q, 1, none⟩ (.int .u64 (max p.floor (leastD p.L)))) := (Only.refl _ w5).set1
  refine ⟨by rw [hb.cell 1]; rfl, hb.frozen, ⟨?_, hm.only o7 c.ne, c.inv.forget⟩, (hoh.mono fun k _ e => .inr e).trans (o7.mono fun k _ e => .inl e)⟩
  exact hb.set 1 _
end
def ForgP (w : World) (q m : Nat) (p : Pe) (N : Nat) (e : Ending) (w' : World) : Prop := e = .returned (.tuple #[]) ∧ PW w' q m (forgetP p) N ∧ Only (fun k => k = q ∨ k = m) w w'
def FgR (w0 : World) (p : Pe) (m r N : Nat) (D : Ml.DV) (u : Value) (wr : World) : Prop :=
  ∃ left cn ml, RgH w0 p m r N D left cn wr ∧ u = .int .u64 ml ∧ IsL p.L left ml
set_option maxRecDepth 100000 in
set_option maxHeartbeats 2000000 in
theorem forgets_any {w : World} {q m N : Nat} {p : Pe} (c : PW w q m p N) (hN : N ≤ 1000000) :
    Calls Try.prog 58 #[.pointer (some ⟨q, 0, none⟩)] w (ForgP w q m p N) := by
  have HCT := Lib.hid (count_any c hN true)
  have HC := Lib.hid c
  have HCB : Hid (cntD true p.L ≤ 1000000) := Lib.hid (Nat.le_trans List.countP_le_length (Nat.le_trans c.len hN))
  unfold ForgP forgetP
  clear c hN
  by_cases h64 : cntD true p.L ≤ 64
  · have h64' : ((cntD true p.L : Nat) : Int) ≤ 64 := by omega
    rw [if_pos h64]
    clear h64
    go_enter Try.func58, Try.ntmps58
    go_wp2_with (go_at_call 61; ((with_reducible refine HCT.out.mono ?_); rintro e w1 ⟨rfl, hb1⟩; have HB1 := Lib.hid hb1; clear hb1))
    refine bodyPost_ret (results_none rfl _ _ _) rfl ?_
    exact ⟨rfl, HC.out.below HB1.out, Only.of_below HB1.out⟩
  · have h64' : ¬ ((cntD true p.L : Nat) : Int) ≤ 64 := by omega
    rw [if_neg h64]
    clear h64
    go_enter Try.func58, Try.ntmps58
    go_upto_region 2 with (go_at_call 61; ((with_reducible refine HCT.out.mono ?_); rintro e w1 ⟨rfl, hb1⟩; have HB1 := Lib.hid hb1; clear hb1))
    have HC1 := Lib.hid (HC.out.below HB1.out)
    clear HC HCT
    have c2 := HC1.out.c2
    obtain ⟨D, o, o1, o2, o3⟩ := HC1.out.mp
    have HO := Lib.hid o
    have HD := Lib.hid (And.intro o1 o2)
    clear o o1 o2 o3
    go_wp2_with (at_range; refine wpList_range_own _ rfl _ 123 rfl 22 127 kdR Try.underlying123 _ m N D rfl HO.out ?_; intro w3 hR gR szR; have HZ : Hid (FgR w1 p m w1.heap.size N D (.int .u64 4611686018427387905) w3) := Lib.hid ⟨_, _, _, ⟨hR, fun k h => h, ⟨gR.os, gR.tape, gR.output, gR.size, fun i hi => gR.block i hi (by intro e; cases e)⟩⟩, rfl, isL_start (fun x hx => (HD.out.2 _).2 ⟨_, List.mem_map.2 ⟨x, hx, rfl⟩, rfl⟩)⟩; clear hR gR szR c2)
    simp only [Act.put, List.setIfInBounds_toArray, List.set_cons_succ, List.set_cons_zero]
    generalize hr : w1.heap.size = r at *
    have HRR := Lib.hid hr
    clear hr
    go_loopw [2] (fun u wr => FgR w1 p m r N D u wr) (fun _ wr => wr.rangeLeft m r)
    case atStart => exact HZ.out
    case round =>
      obtain ⟨left, cn, ml, ⟨hR, hleft, hb⟩, rfl, hml⟩ := hrel
      have HLE := Lib.hid hR.left_eq
      have HR := Lib.hid hR
      have HLF := Lib.hid hleft
      have HB := Lib.hid hb
      have HML := Lib.hid hml
      clear hR hleft hb HZ hml
      go_upto_region 7 with (at_next; go_loud (refine wpList_next_ranges _ rfl _ rfl 22 kdR hdE (Value.int .u64) hval (fun key kl hk => by obtain ⟨x, hx, _⟩ := Maps.keyOf_int_inv Try.underlying22 hk; exact ⟨x, hx⟩) (fun v y hv => by obtain ⟨a, ha, _⟩ := hdE_some hv; exact ⟨a, ha⟩) m r N D left cn rfl HR.out (fun h0 hl0 => ?done) (fun x c kl y w4 cnt2 hk hlx hy hat hr2 hlt2 gr2 szr2 hen => ?more); case' more => (
        obtain ⟨x', hx', hkl, _⟩ := Maps.keyOf_int_inv Try.underlying22 hk; injection hx' with _ hx'; subst hx'; subst hkl; have hy' := hy; injection hy' with hy'; subst hy';
        obtain ⟨h0, hm0, hx0, hc0⟩ := entry_of HD.out.1 HD.out.2 (HLF.out _ hlx) hat;
        have HST := Lib.hid (isL_step HC1.out.inv.dis HML.out hm0 hx0);
        have HR2 := Lib.hid hr2; have HLT := Lib.hid hlt2; have HG := Lib.hid gr2; clear hk hlx hy hat hr2 hlt2 gr2 szr2 hm0 hx0; have hc1 : c = (h0.dn, txt p.inc h0) := hc0; clear hc0; subst hc1; generalize h0.dn = dn at *; generalize txt p.inc h0 = tx at *; unfold hval at *; dsimp only at hen; cases dn)))
      · have HB4 := Lib.hid (below_it HB.out HG.out (by have := HRR.out; omega))
        refine ⟨⟨_, cnt2, _, ⟨HR2.out.alloc _, fun k hk => HLF.out k (by simp only [Bool.and_eq_true] at hk; exact hk.1), HB4.out.alloc HB4.out.size _⟩, rfl, HST.out⟩, by rw [(HR2.out.alloc _).left_eq, HLE.out]; exact HLT.out⟩
      · have HB4 := Lib.hid (below_it HB.out HG.out (by have := HRR.out; omega))
        refine ⟨⟨_, cnt2, _, ⟨HR2.out.alloc _, fun k hk => HLF.out k (by simp only [Bool.and_eq_true] at hk; exact hk.1), HB4.out.alloc HB4.out.size _⟩, rfl, HST.out⟩, by rw [(HR2.out.alloc _).left_eq, HLE.out]; exact HLT.out⟩
      · obtain rfl := least_uniq (isL_end hl0 HML.out)
        have HC7 := Lib.hid (HC1.out.below HB.out)
        obtain ⟨D7, o7, hd7⟩ := HC7.out.forget
        have HO7 := Lib.hid o7
        have HD7 := Lib.hid hd7
        have c2 := HC7.out.c2
        have HKEY := Lib.hid (keyR (x := leastD p.L) (by
          have h1 := leastD_is p.L
          unfold U64
          rcases h1.2.1 with e | ⟨y, hy, _, e⟩
          · omega
          · have := (HC7.out.inv.ok y hy); unfold hOk at this; omega))
        have HWB := Lib.hid (HB1.out.trans (HB.out.mono (by have := HB1.out.size; omega)))
        clear o7 hd7
        generalize hld : leastD p.L = ld at *
        go_wp2_with (at_delete; refine wpList_delete_own _ rfl _ _ 123 22 rfl 127 kdR Try.underlying123 _ m N D7 rfl HO7.out _ (KR ld) rfl HKEY.out ?_; intro w5 o5 t5; have H5 := Lib.hid (HD7.out w5 o5 t5); have y1 := H5.out.1; have y1f := H5.out.2.1; clear o5 t5 c2)
        go_end0
        subst hld
        exact ⟨rfl, H5.out.2.2.1, (Only.of_below HWB.out).trans H5.out.2.2.2⟩
end Go.Proofs.Ytgdgonmhgpflcaa


/- Who is called, whole: the peers; the walks of NewCalled and Inc. No condition. -/
namespace Go.Proofs.Ytgdgonmhgpflcaa
open Go.RowKit Go.Maps Wire Rp
set_option linter.unusedVariables false
set_option linter.unusedSimpArgs false
namespace Rp
def lookP (s : List Pe) (fr : Int) : Option Pe := s.find? fun p => p.fr == fr
def setPe (s : List Pe) (pe : Pe) : List Pe := if (lookP s pe.fr).isSome then s.map (fun p => if p.fr = pe.fr then pe else p) else s ++ [pe]
def incD (s : List Pe) (fr : Int) : Int := match lookP s fr with | none => 0 | some x => x.inc
theorem lookP_some {s : List Pe} {fr : Int} {x : Pe} (h : lookP s fr = some x) : x ∈ s ∧ x.fr = fr := ⟨List.mem_of_find?_eq_some h, by simpa using List.find?_some h⟩
theorem lookP_none {s : List Pe} {fr : Int} (h : lookP s fr = none) : ∀ x ∈ s, x.fr ≠ fr := fun x hx e => by
  have := List.find?_eq_none.1 h x hx; simp [e] at this
theorem lookP_set (s : List Pe) (pe : Pe) (fr : Int) : lookP (setPe s pe) fr = if fr = pe.fr then some pe else lookP s fr := by
  unfold setPe
  split
  · rename_i h
    unfold lookP at *
    rw [List.find?_map]
    by_cases hf : fr = pe.fr
    · subst hf
      rw [if_pos rfl]
      obtain ⟨x, hx⟩ := Option.isSome_iff_exists.1 h
      have hcong : s.find? ((fun p : Pe => p.fr == pe.fr) ∘ fun p => if p.fr = pe.fr then pe else p) = s.find? (fun p => p.fr == pe.fr) := by
        congr 1; funext p; dsimp only [Function.comp]; split <;> simp_all
      rw [hcong, hx]
      have : x.fr = pe.fr := by simpa using List.find?_some hx
      simp [this]
    · rw [if_neg hf]
      have hcong : s.find? ((fun p : Pe => p.fr == fr) ∘ fun p => if p.fr = pe.fr then pe else p) = s.find? (fun p => p.fr == fr) := by
        congr 1; funext p; dsimp only [Function.comp]; split
        · rename_i e
          rw [e]
        · rfl
      rw [hcong]
      cases hx : s.find? (fun p => p.fr == fr) with
      | none => rfl
      | some x =>
        have : x.fr = fr := by simpa using List.find?_some hx
        simp [this, hf]
  · rename_i h
    unfold lookP at *
    rw [List.find?_append]
    by_cases hf : fr = pe.fr
    · subst hf
      rw [if_pos rfl]
      simp only [Bool.not_eq_true, Option.isSome_eq_false_iff, Option.isNone_iff_eq_none] at h
      rw [h]; simp
    · rw [if_neg hf]
      have : ¬ pe.fr = fr := fun e => hf e.symm
      simp [this]
theorem setPe_self {s : List Pe} {x : Pe} (hd : s.Pairwise (fun a b => a.fr ≠ b.fr)) (h : lookP s x.fr = some x) : setPe s x = s := by
  unfold setPe
  rw [h]
  simp only [Option.isSome_some, if_true]
  have hx := (lookP_some h).1
  have : ∀ p ∈ s, (if p.fr = x.fr then x else p) = p := fun p hp => by
    split
    · rename_i e
      rcases List.mem_iff_getElem.1 hp with ⟨i, hi, e1⟩
      rcases List.mem_iff_getElem.1 hx with ⟨j, hj, e2⟩
      rw [List.pairwise_iff_getElem] at hd
      rcases Nat.lt_trichotomy i j with h3 | h3 | h3
      · exact absurd (by rw [e1, e2, e]) (hd i j hi hj h3)
      · subst h3; rw [← e1, ← e2]
      · exact absurd (by rw [e1, e2, e]) (hd j i hj hi h3)
    · rfl
  conv => rhs; rw [← List.map_id s]
  exact List.map_congr_left this
theorem mem_setPe {s : List Pe} {pe x : Pe} (h : x ∈ setPe s pe) : x = pe ∨ (x ∈ s ∧ x.fr ≠ pe.fr) := by
  unfold setPe at h
  split at h
  · obtain ⟨y, hy, rfl⟩ := List.mem_map.1 h
    split
    · exact .inl rfl
    · rename_i e; exact .inr ⟨hy, e⟩
  · rename_i hn
    rcases List.mem_append.1 h with h | h
    · simp only [Bool.not_eq_true, Option.isSome_eq_false_iff, Option.isNone_iff_eq_none] at hn
      exact .inr ⟨h, lookP_none hn x h⟩
    · simp at h; exact .inl h
theorem setPe_dis {s : List Pe} {pe : Pe} (hd : s.Pairwise (fun a b => a.fr ≠ b.fr)) : (setPe s pe).Pairwise (fun a b => a.fr ≠ b.fr) := by
  unfold setPe
  split
  · rw [List.pairwise_map]
    refine hd.imp fun {a b} hab => ?_
    have e1 : (if a.fr = pe.fr then pe else a).fr = a.fr := by split <;> simp_all
    have e2 : (if b.fr = pe.fr then pe else b).fr = b.fr := by split <;> simp_all
    rw [e1, e2]; exact hab
  · rename_i hn
    simp only [Bool.not_eq_true, Option.isSome_eq_false_iff, Option.isNone_iff_eq_none] at hn
    exact List.pairwise_append.2 ⟨hd, List.pairwise_singleton _ _, fun a ha b hb => by simp at hb; subst hb; exact lookP_none hn a ha⟩
end Rp
def keysP (B : Int → Nat) (L : List Pe) : List (Int × Nat) := L.map fun c => (c.fr, B c.fr)
/-- The maps of who is called. -/
def MO (h : Nat) (M : Int → Nat) (s : List Pe) : Nat → Prop := fun k => k = h ∨ ∃ p ∈ s, k = M p.fr
/-- What a call may turn: the maps, and the peers' blocks. -/
def OnD (B0 : Nat) (M : Nat → Prop) (w w' : World) : Prop := Only (fun k => M k ∨ (B0 ≤ k ∧ ∃ A, Blk w k 125 A)) w w'
structure CdW (w : World) (B0 c h : Nat) (B M : Int → Nat) (s : List Pe) (N : Nat) : Prop where
  blk : Blk w c 120 #[.map (some h)]
  mp : Ml.At layP Try.prog 3 w h (keysP B s) N
  pe : ∀ p ∈ s, PW w (B p.fr) (M p.fr) p N ∧ B0 ≤ B p.fr ∧ B0 ≤ M p.fr ∧ M p.fr ≠ h
  dis : s.Pairwise (fun a b => a.fr ≠ b.fr)
  inj : ∀ p ∈ s, ∀ r ∈ s, p.fr ≠ r.fr → B p.fr ≠ B r.fr ∧ M p.fr ≠ M r.fr
  fr : ∀ p ∈ s, 0 ≤ p.fr ∧ p.fr < 1024
  ge : B0 ≤ c ∧ B0 ≤ h
section
variable {w w' w1 : World} {B0 c h N : Nat} {B M : Int → Nat} {s : List Pe} {S S' : Nat → Prop}
theorem OnD.refl (B0 : Nat) (S : Nat → Prop) (w : World) : OnD B0 S w w := Only.refl _ _
theorem OnD.of_below (hb : Below w.heap.size w w') : OnD B0 S w w' := Only.of_below hb
theorem OnD.trans (h1 : OnD B0 S w w1) (h2 : OnD B0 S' w1 w') (hs : ∀ k, S' k → S k ∨ w.heap.size ≤ k) : OnD B0 S w w' :=
  ⟨h2.os.trans h1.os, h2.tape.trans h1.tape, h2.output.trans h1.output, Nat.le_trans h1.size h2.size, fun k hk hne => by
    have e1 := h1.block k hk hne
    rw [← e1]
    refine h2.block k (Nat.lt_of_lt_of_le hk h1.size) fun hs' => hne ?_
    rcases hs' with e | ⟨h0, A, e⟩
    · rcases hs k e with e | e
      · exact .inl e
      · omega
    · unfold Blk at e ⊢
      rw [e1] at e
      exact .inr ⟨h0, A, e⟩⟩
theorem OnD.step (h1 : OnD B0 S w w1) (h2 : Below w1.heap.size w1 w') : OnD B0 S w w' := h1.trans (S' := fun _ => False) (.of_below h2) (fun _ h => h.elim)
theorem OnD.undrew (o : OnD B0 S w.drew w') : OnD B0 S w w' := ⟨o.os, o.tape, o.output, o.size, o.block⟩
theorem OnD.drew (o : OnD B0 S w w') : OnD B0 S w w'.drew := Only.drew o
theorem OnD.below (d : CdW w B0 c h B M s N) (o : OnD B0 (MO h M s) w w') (hB : B0 ≤ w.heap.size) : Below B0 w w' := Only.below o hB fun k hs => by
  rcases hs with (e | ⟨p, hp, e⟩) | e
  · have := d.ge; omega
  · have := (d.pe p hp).2.2.1; omega
  · exact e.1
theorem CdW.c0 (d : CdW w B0 c h B M s N) : w.cell? ⟨c, 0, none⟩ = some (.map (some h)) := by rw [d.blk.cell 0]; rfl
theorem at_neP {L : List (Int × Nat)} (m : Ml.At layP Try.prog 3 w h L N) {k : Nat} {T : TypeId} {A : Array Value} (hk : Blk w k T A) : h ≠ k := fun e => by subst e; exact m.no_cells hk
/-- What leaves the blocks of who is called leaves him. -/
theorem CdW.only (d : CdW w B0 c h B M s N) (o : Only S w w') (h1 : ¬ S c) (h2 : ∀ k, MO h M s k → ¬ S k) (h3 : ∀ k A, Blk w k 125 A → ¬ S k) : CdW w' B0 c h B M s N :=
  ⟨d.blk.only o h1, d.mp.only o (h2 h (.inl rfl)), fun p hp => ⟨(d.pe p hp).1.only o (h3 _ _ (d.pe p hp).1.blk) (h2 _ (.inr ⟨p, hp, rfl⟩)), (d.pe p hp).2⟩, d.dis, d.inj, d.fr, d.ge⟩
theorem CdW.below (d : CdW w B0 c h B M s N) (hb : Below w.heap.size w w') : CdW w' B0 c h B M s N := d.only (S := fun _ => False) (.of_below hb) id (fun _ _ => id) (fun _ _ _ => id)
theorem CdW.alloc (d : CdW w B0 c h B M s N) (o : Obj) : CdW (w.alloc o) B0 c h B M s N := d.below ((Below.refl _ _).alloc (Nat.le_refl _) o)
theorem CdW.drew (d : CdW w B0 c h B M s N) : CdW w.drew B0 c h B M s N := d.below (Below.refl _ w).drew
theorem CdW.mono (d : CdW w B0 c h B M s N) {N' : Nat} (hN : N ≤ N') : CdW w B0 c h B M s N' := ⟨d.blk, d.mp.mono hN, fun p hp => ⟨(d.pe p hp).1.mono hN, (d.pe p hp).2⟩, d.dis, d.inj, d.fr, d.ge⟩
theorem keysP_mem {L : List Pe} {p : Pe} (hp : p ∈ L) : (p.fr, B p.fr) ∈ keysP B L := List.mem_map.2 ⟨p, hp, rfl⟩
theorem mpP_hit {L : List (Int × Nat)} (m : Ml.At layP Try.prog 3 w h L N) {a : Int × Nat} (ha : a ∈ L) (hx : I64 a.1) :
    (Instr.lookup 118 (.map (some h)) (.int .i64 a.1) false).run Try.prog w = .ok (.pointer (some ⟨a.2, 0, none⟩)) w :=
  m.at kdIn Try.underlying118 (zP w) (zd := .lit (.int .i64 (-1))) rfl ha (keyIn hx)
theorem mpP_miss {L : List (Int × Nat)} (m : Ml.At layP Try.prog 3 w h L N) {x : Int} (ha : ¬ ∃ a ∈ L, a.1 = x) (hx : I64 x) :
    (Instr.lookup 118 (.map (some h)) (.int .i64 x) false).run Try.prog w = .ok (.pointer none) w := by
  obtain ⟨D, o, h1, h2, h3⟩ := m
  obtain ⟨v, ps, hr, hv⟩ := World.ownsMap.lookup o kdIn Try.underlying118 (zP w) (zd := .lit (.int .i64 (-1))) rfl (keyIn hx)
  have hf : Maps.has D (KI x) = false := by
    cases hh : Maps.has D (KI x) with
    | false => rfl
    | true =>
      obtain ⟨a, h4, h5⟩ := (h2 _).1 hh
      exact absurd ⟨a, h4, by have : KI a.1 = KI x := h5; unfold KI at this; injection this⟩ ha
  rw [atKey_of_not_has hf] at hv
  rw [hr, ptE_none hv]
theorem keysP_no {s : List Pe} {fr : Int} (h : lookP s fr = none) : ¬ ∃ a ∈ keysP B s, a.1 = fr := by
  rintro ⟨a, ha, e⟩
  obtain ⟨p, hp, rfl⟩ := List.mem_map.1 ha
  exact lookP_none h p hp e
end
/-! ### NewCalled, Inc -/
def NewDPost (w : World) (B0 : Nat) (e : Ending) (w' : World) : Prop := ∃ c h, e = .returned (.pointer (some ⟨c, 0, none⟩)) ∧ CdW w' B0 c h (fun _ => 0) (fun _ => 0) [] 0 ∧ Below w.heap.size w w' ∧ w.heap.size ≤ c ∧ w.heap.size ≤ h
set_option maxRecDepth 100000 in
theorem newd_any (w : World) {B0 : Nat} (hB : B0 ≤ w.heap.size) : Calls Try.prog 15 #[] w (NewDPost w B0) := by
  have HB := Lib.hid hB
  clear hB
  have hmm := @run_makeMap Try.prog
  go_enter Try.func15, Try.ntmps15
  go_wp2_with fail
  go_ret
  refine ⟨w.heap.size + 1, w.heap.size, rfl, ⟨?_, ?_, (fun p hp => by cases hp), List.Pairwise.nil, (fun p hp => by cases hp), (fun p hp => by cases hp), ?_⟩, ?_, by omega, Nat.le_refl _⟩
  · have := Blk.new (w.alloc (.map #[] 0)) 120 #[.map (some w.heap.size)]
    simpa using this
  · have := (Ml.At.made w Try.prog 3 layP).below ((Below.refl _ _).alloc (Nat.le_refl _) (.cells #[.map (some w.heap.size)] 120))
    simpa [keysP] using this
  · have := HB.out; omega
  · exact ((Below.refl _ _).alloc (Nat.le_refl _) _).alloc (by simp) _
set_option maxRecDepth 100000 in
theorem inc_nil (x : Value) (w : World) : Calls Try.prog 20 #[.pointer none, x] w fun e w' => e = .returned (.int .u64 0) ∧ w' = w := by
  go_enter Try.func20, Try.ntmps20
  go_wp2_with fail
  go_ret
  exact ⟨rfl, rfl⟩
set_option maxRecDepth 100000 in
theorem inc_any {w : World} {B0 c h N : Nat} {B M : Int → Nat} {s : List Pe} (d : CdW w B0 c h B M s N) {fr : Int} (hf : I64 fr) : Calls Try.prog 20 #[.pointer (some ⟨c, 0, none⟩), .int .i64 fr] w fun e w' => e = .returned (.int .u64 (incD s fr)) ∧ w' = w := by
  have c0 := d.c0
  unfold incD
  cases hl : lookP s fr with
  | none =>
    have hlk := mpP_miss d.mp (keysP_no hl) hf
    clear d hl
    dsimp only
    go_enter Try.func20, Try.ntmps20
    go_wp2_with fail
    go_ret
    exact ⟨rfl, rfl⟩
  | some x =>
    obtain ⟨hx, he⟩ := lookP_some hl
    have hlk := mpP_hit d.mp (keysP_mem hx) (by show I64 x.fr; rw [he]; exact hf)
    dsimp only at hlk ⊢
    rw [he] at hlk
    have y0 := (d.pe x hx).1.c0
    rw [he] at y0
    generalize B fr = q at *
    generalize x.inc = ic at *
    clear d hl hx he
    go_enter Try.func20, Try.ntmps20
    go_wp2_with fail
    go_ret
    exact ⟨rfl, rfl⟩
end Go.Proofs.Ytgdgonmhgpflcaa


/- Who is called: what a new peer, and what was heard, leave of him. No condition. -/
namespace Go.Proofs.Ytgdgonmhgpflcaa
open Go.RowKit Go.Maps Wire Rp
set_option linter.unusedVariables false
set_option linter.unusedSimpArgs false
namespace Rp
def curPe (x : Option Pe) (fr : Int) (p : Pk) : Pe := match x with
  | none => ⟨fr, p.inc, 0, []⟩
  | some x => if x.inc < p.inc then ⟨fr, p.inc, 0, []⟩ else x
def lookH (L : List He) (x : Int) : Option He := L.find? fun h => h.seq == x
def hear (x : Pe) (p : Pk) : (Int × ByteArray) × Pe :=
  if p.inc < x.inc ∨ p.seq ≤ x.floor then ((4, ⟨#[]⟩), x) else match lookH x.L p.seq with
  | some h => if h.dn then ((2, pkS ⟨true, x.inc, h.seq, h.body⟩), x) else ((3, ⟨#[]⟩), x)
  | none => if 64 ≤ cntD false x.L then ((3, ⟨#[]⟩), x) else ((1, ⟨#[]⟩), { x with L := x.L ++ [⟨p.seq, false, ⟨#[]⟩⟩] })
def takeD (s : List Pe) (fr : Int) (p : Pk) : (Int × ByteArray × Int) × List Pe :=
  if (placeB fr && mayP p && !p.an) = false then ((0, ⟨#[]⟩, 2), s) else
    (((hear (curPe (lookP s fr) fr p) p).1.1, (hear (curPe (lookP s fr) fr p) p).1.2, 0), setPe s (hear (curPe (lookP s fr) fr p) p).2)
def setH (L : List He) (h : He) : List He := L.map fun g => if g.seq = h.seq then h else g
def ansD (s : List Pe) (fr inc seq : Int) (body : ByteArray) : (ByteArray × Int) × List Pe :=
  if placeB fr = false then ((⟨#[]⟩, 2), s) else if 8192 < body.size then ((⟨#[]⟩, 4), s) else match lookP s fr with
  | none => ((⟨#[]⟩, 5), s)
  | some x => if x.inc = inc then (match lookH x.L seq with
    | none => ((⟨#[]⟩, 5), s)
    | some h => if h.dn then ((⟨#[]⟩, 5), s) else ((pkS ⟨true, inc, seq, body⟩, 0), setPe s (forgetP { x with L := setH x.L ⟨seq, true, body⟩ }))) else ((⟨#[]⟩, 5), s)
theorem lookH_some {L : List He} {x : Int} {h : He} (e : lookH L x = some h) : h ∈ L ∧ h.seq = x := ⟨List.mem_of_find?_eq_some e, by simpa using List.find?_some e⟩
theorem lookH_none {L : List He} {x : Int} (e : lookH L x = none) : ∀ h ∈ L, h.seq ≠ x := fun h hh e2 => by
  have := List.find?_eq_none.1 e h hh; simp [e2] at this
theorem curPe_fr (s : List Pe) (fr : Int) (p : Pk) : (curPe (lookP s fr) fr p).fr = fr := by
  unfold curPe
  split
  · rfl
  · rename_i x e
    split
    · rfl
    · exact (lookP_some e).2
theorem setPe_some {s : List Pe} {y : Pe} (h : (lookP s y.fr).isSome = true) : setPe s y = s.map (fun p => if p.fr = y.fr then y else p) := by unfold setPe; rw [if_pos h]
theorem setPe_setPe {s : List Pe} {x y : Pe} (h : y.fr = x.fr) : setPe (setPe s x) y = setPe s y := by
  have h1 : (lookP (setPe s x) y.fr).isSome = true := by rw [lookP_set, if_pos h]; rfl
  rw [setPe_some h1]
  unfold setPe
  rw [h]
  split
  · rw [List.map_map]
    refine List.map_congr_left fun p _ => ?_
    dsimp only [Function.comp]
    split <;> simp_all
  · rename_i hn
    simp only [Bool.not_eq_true, Option.isSome_eq_false_iff, Option.isNone_iff_eq_none] at hn
    rw [List.map_append]
    congr 1
    · conv => rhs; rw [← List.map_id s]
      exact List.map_congr_left fun p hp => if_neg (lookP_none hn p hp)
    · simp
theorem PInv.put {x : Pe} (hi : PInv x) {h : He} (hk : hOk h) (hn : ∀ g ∈ x.L, g.seq ≠ h.seq) : PInv { x with L := x.L ++ [h] } :=
  ⟨hi.inc, hi.floor, List.pairwise_append.2 ⟨hi.dis, List.pairwise_singleton _ _, fun a ha b hb => by simp at hb; subst hb; exact hn a ha⟩, fun g hg => by
    rcases List.mem_append.1 hg with hg | hg
    · exact hi.ok g hg
    · simp at hg; subst hg; exact hk⟩
theorem PInv.set {x : Pe} (hi : PInv x) {h : He} (hk : hOk h) : PInv { x with L := setH x.L h } :=
  ⟨hi.inc, hi.floor, by
    unfold setH
    dsimp only
    rw [List.pairwise_map]
    refine hi.dis.imp fun {a b} hab => ?_
    have e1 : (if a.seq = h.seq then h else a).seq = a.seq := by split <;> simp_all
    have e2 : (if b.seq = h.seq then h else b).seq = b.seq := by split <;> simp_all
    rw [e1, e2]; exact hab, fun g hg => by
    obtain ⟨a, ha, rfl⟩ := List.mem_map.1 hg
    split
    · exact hk
    · exact hi.ok a ha⟩
end Rp
/-- 'm[k] = v' as a step of a drawn region. -/
theorem step_mapUpdate {H : Type} {P : Program} {ops : Array Oper} {o : Oper} {a : Act} {w : World} {K : Act → World → Prop} {Q : Exit → Act → World → Prop} {E : Prop}
    (hg : o.guard = none) {m x v : Operand} {t : TypeId} (hop : o.op = Op.mapUpdate t m x v)
    {k e : TypeId} (K' : Keyed P k) (ht : P.underlying t = some (.map k e)) {R : Value → Option (DataW H × List MemPlace)} {b n : Nat} {D : DataW H}
    (hm : a.eval m = .map (some b)) (hown : w.ownsMap P k R b n D) (hn : n < maxLen) {key val : Value} {kl : Lit} (hx : a.eval x = key) (hv : a.eval v = val) (hkey : keyOf P k key = some kl)
    {d : DataW H} {ps : List MemPlace} (hval : R val = some (d, ps))
    (hK : ∀ w', w'.ownsMap P k R b (n + 1) (D.put kl d) → w.grownBy w' (some b) → K (a.put o.dst undef) w') : if Region.wanted o (yielded ops a.tmps) = true then Oper.wp P o a w K Q else E := by
  rw [if_pos (by simp [Region.wanted, hg])]
  obtain ⟨w', hrun, r1, r2⟩ := hown.update K' ht hn hkey hval
  unfold Oper.wp
  simp [execOp, hop, hm, hx, hv, hrun, Result.andThen, Oper.upon]
  exact hK w' r1 r2
section
variable {w w' W : World} {B0 c h N : Nat} {B M : Int → Nat} {s : List Pe}
theorem keysP_map {B : Int → Nat} {s : List Pe} {y : Pe} : keysP B (s.map (fun p => if p.fr = y.fr then y else p)) = keysP B s := by
  unfold keysP
  rw [List.map_map]
  refine List.map_congr_left fun p _ => ?_
  dsimp only [Function.comp]
  split
  · rename_i e; rw [e]
  · rfl
/-- A peer of whom something was heard. -/
theorem CdW.heard (d : CdW w B0 c h B M s N) {x y : Pe} (hx : x ∈ s) (hf : y.fr = x.fr) {N' : Nat} (hN : N ≤ N') (hy : PW w' (B x.fr) (M x.fr) y N') (o : Only (fun k => k = B x.fr ∨ k = M x.fr) w w') :
    CdW w' B0 c h B M (setPe s y) N' ∧ OnD B0 (MO h M s) w w' ∧ ∀ k, MO h M (setPe s y) k → MO h M s k := by
  have hl : (lookP s y.fr).isSome = true := by
    unfold lookP; rw [List.find?_isSome]; exact ⟨x, hx, by simp [hf]⟩
  have hs : setPe s y = s.map (fun p => if p.fr = y.fr then y else p) := by unfold setPe; rw [if_pos hl]
  have hpx := (d.pe x hx)
  have hnb : ∀ {k : Nat} {T : TypeId} {A : Array Value}, Blk w k T A → T ≠ 125 → ¬ (k = B x.fr ∨ k = M x.fr) := fun hk ht e => by
    rcases e with e | e
    · subst e; exact ht (blk_ne hk hpx.1.blk)
    · subst e; exact hpx.1.mp.no_cells hk
  have hpr : ∀ p ∈ s, p.fr ≠ x.fr → ¬ (B p.fr = B x.fr ∨ B p.fr = M x.fr) ∧ ¬ (M p.fr = B x.fr ∨ M p.fr = M x.fr) := fun p hp hne => by
    have h1 := d.inj p hp x hx hne
    refine ⟨fun e => ?_, fun e => ?_⟩
    · rcases e with e | e
      · exact h1.1 e
      · have hb := (d.pe p hp).1.blk; rw [e] at hb; exact hpx.1.mp.no_cells hb
    · rcases e with e | e
      · have hb := hpx.1.blk; rw [← e] at hb; exact (d.pe p hp).1.mp.no_cells hb
      · exact h1.2 e
  refine ⟨⟨d.blk.only o (hnb d.blk (by decide)), ?_, fun p hp => ?_, setPe_dis d.dis, fun p hp r hr => ?_, fun p hp => ?_, d.ge⟩, ?_, ?_⟩
  · rw [hs, keysP_map]
    refine (d.mp.only o fun e => ?_).mono hN
    rcases e with e | e
    · exact at_neP d.mp hpx.1.blk e
    · exact hpx.2.2.2 e.symm
  · rcases mem_setPe hp with rfl | ⟨hp, hne⟩
    · rw [hf]; exact ⟨hy, hpx.2⟩
    · have := hpr p hp (by rw [← hf]; exact hne)
      exact ⟨((d.pe p hp).1.only o this.1 this.2).mono hN, (d.pe p hp).2⟩
  · rcases mem_setPe hp with e1 | ⟨h1, n1⟩ <;> rcases mem_setPe hr with e2 | ⟨h2, n2⟩
    · intro hne; exact absurd (by rw [e1, e2]) hne
    · intro hne; rw [e1, hf]; rw [e1, hf] at hne; exact d.inj x hx r h2 hne
    · intro hne; rw [e2, hf]; rw [e2, hf] at hne; exact d.inj p h1 x hx hne
    · exact d.inj p h1 r h2
  · rcases mem_setPe hp with rfl | ⟨hp, _⟩
    · rw [hf]; exact d.fr x hx
    · exact d.fr p hp
  · refine o.mono fun k _ e => ?_
    rcases e with e | e
    · right; rw [show k = B x.fr from e]; exact ⟨hpx.2.1, _, hpx.1.blk⟩
    · left; exact .inr ⟨x, hx, e⟩
  · rintro k (e | ⟨p, hp, e⟩)
    · exact .inl e
    · rcases mem_setPe hp with rfl | ⟨hp, _⟩
      · exact .inr ⟨x, hx, by rw [e, hf]⟩
      · exact .inr ⟨p, hp, e⟩
/-- A new peer. -/
theorem CdW.new (d : CdW w B0 c h B M s N) {y : Pe} {q m : Nat} (hW : Below w.heap.size w W) (hy : PW W q m y N) (hq : w.heap.size ≤ q) (hm : w.heap.size ≤ m) (hfr : 0 ≤ y.fr ∧ y.fr < 1024) :
    ∃ D, W.ownsMap Try.prog 3 ptE h N D ∧ ∀ w5, w5.ownsMap Try.prog 3 ptE h (N + 1) (D.put (KI y.fr) (.lit (.int .i64 (q : Int)))) → W.grownBy w5 (some h) →
      CdW w5 B0 c h (addB B y.fr q) (addB M y.fr m) (setPe s y) (N + 1) ∧ OnD B0 (MO h M s) w w5 ∧ ∀ k, MO h (addB M y.fr m) (setPe s y) k → MO h M s k ∨ w.heap.size ≤ k := by
  haveI : DecidableEq Lit := Classical.typeDecidableEq _
  have dW := d.below hW
  obtain ⟨D, o, h1, h2, h3⟩ := dW.mp
  refine ⟨D, o, fun w5 o5 g5 => ?_⟩
  have hoh := only_map g5
  have hhl : h < w.heap.size := d.mp.lt
  have hcl : c < w.heap.size := d.blk.lt
  have hge := d.ge
  have hnm : ∀ {k : Nat} {T : TypeId} {A : Array Value}, Blk W k T A → ¬ k = h := fun hk e => at_neP dW.mp hk e.symm
  have hkeys : Ml.At layP Try.prog 3 w5 h (keysP (addB B y.fr q) (setPe s y)) (N + 1) := by
    cases hl : lookP s y.fr with
    | none =>
      have hs : setPe s y = s ++ [y] := by unfold setPe; rw [hl]; rfl
      have hk : keysP (addB B y.fr q) (s ++ [y]) = keysP B s ++ [(y.fr, q)] := by
        unfold keysP
        rw [List.map_append]
        congr 1
        · exact List.map_congr_left fun p hp => by rw [addB_ne (lookP_none hl p hp)]
        · simp [addB_self]
      rw [hs, hk]
      refine Ml.At.of_put (l := layP) (g := (y.fr, q)) kdIn o h1 h2 h3 ?_ o5
      rintro ⟨a, ha, e⟩
      have e' : KI a.1 = KI y.fr := e
      unfold KI at e'
      injection e' with _ e'
      exact keysP_no hl ⟨a, ha, e'⟩
    | some x =>
      obtain ⟨hx, hxf⟩ := lookP_some hl
      have hs : setPe s y = s.map (fun p => if p.fr = y.fr then y else p) := by unfold setPe; rw [hl]; rfl
      have hk : keysP (addB B y.fr q) (s.map (fun p => if p.fr = y.fr then y else p)) = (keysP B s).map (fun a => if layP.key a = layP.key (y.fr, q) then (y.fr, q) else a) := by
        rw [keysP_map]
        unfold keysP
        rw [List.map_map]
        refine List.map_congr_left fun p _ => ?_
        dsimp only [Function.comp]
        by_cases e : p.fr = y.fr
        · rw [if_pos (show layP.key (p.fr, B p.fr) = layP.key (y.fr, q) by show KI p.fr = KI y.fr; rw [e]), e, addB_self]
        · rw [addB_ne e, if_neg (show layP.key (p.fr, B p.fr) ≠ layP.key (y.fr, q) from ki_ne e)]
      rw [hs, hk]
      exact Ml.At.of_set (l := layP) (g := (y.fr, q)) kdIn o h1 h2 h3 ⟨(x.fr, B x.fr), keysP_mem hx, by show KI x.fr = KI y.fr; rw [hxf]⟩ o5
  have hlt : ∀ p ∈ s, B p.fr < w.heap.size ∧ M p.fr < w.heap.size := fun p hp => ⟨(d.pe p hp).1.blk.lt, (d.pe p hp).1.mp.lt⟩
  refine ⟨⟨dW.blk.only hoh (hnm dW.blk), hkeys, fun p hp => ?_, setPe_dis d.dis, fun p hp r hr => ?_, fun p hp => ?_, d.ge⟩, ?_, ?_⟩
  · rcases mem_setPe hp with rfl | ⟨hp, hne⟩
    · rw [addB_self, addB_self]
      exact ⟨(hy.only hoh (hnm hy.blk) (fun e => by have : m = h := e; omega)).mono (Nat.le_succ _), by omega, by omega, by omega⟩
    · rw [addB_ne hne, addB_ne hne]
      have h4 := dW.pe p hp
      exact ⟨(h4.1.only hoh (hnm h4.1.blk) h4.2.2.2).mono (Nat.le_succ _), h4.2⟩
  · rcases mem_setPe hp with e1 | ⟨h4, n1⟩ <;> rcases mem_setPe hr with e2 | ⟨h5, n2⟩
    · intro hne; exact absurd (by rw [e1, e2]) hne
    · intro hne; rw [e1, addB_self, addB_self, addB_ne n2, addB_ne n2]; have := hlt r h5; exact ⟨by omega, by omega⟩
    · intro hne; rw [e2, addB_self, addB_self, addB_ne n1, addB_ne n1]; have := hlt p h4; exact ⟨by omega, by omega⟩
    · intro hne; rw [addB_ne n1, addB_ne n1, addB_ne n2, addB_ne n2]; exact d.inj p h4 r h5 hne
  · rcases mem_setPe hp with rfl | ⟨hp, _⟩
    · exact hfr
    · exact d.fr p hp
  · exact (OnD.of_below hW).trans (S' := fun k => k = h) (hoh.mono fun k _ e => .inl e) (fun k e => .inl (.inl e))
  · rintro k (e | ⟨p, hp, e⟩)
    · exact .inl (.inl e)
    · rcases mem_setPe hp with rfl | ⟨hp, hne⟩
      · rw [addB_self] at e; exact .inr (by omega)
      · rw [addB_ne hne] at e; exact .inl (.inr ⟨p, hp, e⟩)
variable {q m : Nat} {x : Pe}
/-- A call more in a peer's map. -/
theorem PW.put (c : PW w q m x N) {h : He} (hk : hOk h) (hn : ∀ g ∈ x.L, g.seq ≠ h.seq) : ∃ D, w.ownsMap Try.prog 22 hdE m N D ∧ ∀ w5, w5.ownsMap Try.prog 22 hdE m (N + 1) (D.put (KR h.seq) (hdat (h.dn, txt x.inc h))) → w.grownBy w5 (some m) →
    PW w5 q m { x with L := x.L ++ [h] } (N + 1) ∧ Only (· = m) w w5 := by
  obtain ⟨D, o, h1, h2, h3⟩ := c.mp
  refine ⟨D, o, fun w5 o5 g5 => ?_⟩
  have hoh := only_map g5
  refine ⟨⟨c.blk.only hoh (fun e => c.ne (by rw [show q = m from e])), ?_, c.inv.put hk hn⟩, hoh⟩
  have := Ml.At.of_put (l := layH) (g := hrow x.inc h) kdR o h1 h2 h3 (by
    rintro ⟨a, ha, e⟩
    obtain ⟨g, hg, rfl⟩ := List.mem_map.1 ha
    have e' : KR g.seq = KR h.seq := e
    unfold KR at e'
    injection e' with _ e'
    exact hn g hg e') o5
  simpa [hrows] using this
/-- .. in the place of one that was there. -/
theorem PW.set (c : PW w q m x N) {h : He} (hk : hOk h) (hin : ∃ g ∈ x.L, g.seq = h.seq) : ∃ D, w.ownsMap Try.prog 22 hdE m N D ∧ ∀ w5, w5.ownsMap Try.prog 22 hdE m (N + 1) (D.put (KR h.seq) (hdat (h.dn, txt x.inc h))) → w.grownBy w5 (some m) →
    PW w5 q m { x with L := setH x.L h } (N + 1) ∧ Only (· = m) w w5 := by
  haveI : DecidableEq Lit := Classical.typeDecidableEq _
  obtain ⟨D, o, h1, h2, h3⟩ := c.mp
  refine ⟨D, o, fun w5 o5 g5 => ?_⟩
  have hoh := only_map g5
  refine ⟨⟨c.blk.only hoh (fun e => c.ne (by rw [show q = m from e])), ?_, c.inv.set hk⟩, hoh⟩
  have := Ml.At.of_set (l := layH) (g := hrow x.inc h) kdR o h1 h2 h3 (by
    obtain ⟨g, hg, e⟩ := hin
    exact ⟨hrow x.inc g, List.mem_map.2 ⟨g, hg, rfl⟩, by show KR g.seq = KR h.seq; rw [e]⟩) o5
  have e : (hrows x.inc x.L).map (fun a => if layH.key a = layH.key (hrow x.inc h) then hrow x.inc h else a) = hrows x.inc (setH x.L h) := by
    unfold hrows setH
    rw [List.map_map, List.map_map]
    refine List.map_congr_left fun g _ => ?_
    dsimp only [Function.comp]
    by_cases e : g.seq = h.seq
    · rw [if_pos e, if_pos (show layH.key (hrow x.inc g) = layH.key (hrow x.inc h) by show KR g.seq = KR h.seq; rw [e])]
    · rw [if_neg e, if_neg (show layH.key (hrow x.inc g) ≠ layH.key (hrow x.inc h) from kr_ne e)]
  rw [e] at this
  exact this
theorem PW.hit (c : PW w q m x N) {h : He} (hh : h ∈ x.L) : (Instr.lookup 123 (.map (some m)) (.int .u64 h.seq) true).run Try.prog w = .ok (.tuple #[hval (h.dn, txt x.inc h), .bool true]) w :=
  c.mp.look kdR Try.underlying123 (z := (0, false, ⟨#[]⟩)) (zH w) (a := hrow x.inc h) (List.mem_map.2 ⟨h, hh, rfl⟩) (keyR (by have := c.inv.ok h hh; unfold hOk at this; unfold U64; omega))
theorem PW.miss (c : PW w q m x N) {sq : Int} (hu : U64 sq) (hn : ∀ g ∈ x.L, g.seq ≠ sq) : (Instr.lookup 123 (.map (some m)) (.int .u64 sq) true).run Try.prog w = .ok (.tuple #[hval (false, ⟨#[]⟩), .bool false]) w :=
  c.mp.miss kdR Try.underlying123 (z := (0, false, ⟨#[]⟩)) (zH w) (kl := KR sq) (by
    rintro ⟨a, ha, e⟩
    obtain ⟨g, hg, rfl⟩ := List.mem_map.1 ha
    have e' : KR g.seq = KR sq := e
    unfold KR at e'
    injection e' with _ e'
    exact hn g hg e') (keyR hu)
end
end Go.Proofs.Ytgdgonmhgpflcaa
