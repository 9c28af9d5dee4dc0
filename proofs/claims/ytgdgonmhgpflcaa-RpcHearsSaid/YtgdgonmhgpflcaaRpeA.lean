import Derived.Test.YtgdgonmhgpflcaaRpcY

/- The document's Called in the world: its peers, of each the row of what was heard; the walks of its peer, Inc. No condition. -/
namespace Go.Proofs.Ytgdgonmhgpflcaa
open Go.RowKit Go.Maps Wire Rp
set_option linter.unusedVariables false
set_option linter.unusedSimpArgs false
namespace Rp
abbrev PeV := Pe × Value
def prow (x : PeV) : List Value := [.int .i64 x.1.fr, .int .u64 x.1.inc, .int .u64 x.1.floor, x.2]
def rowsP (l : List PeV) : List Value := l.flatMap prow
def hcells (h : He) : List Value := [.int .u64 h.seq, .bool h.dn, .string h.body]
def rowsHe (L : List He) : List Value := L.flatMap hcells
def newV (fr : Int) : PeV := (⟨fr, 0, 0, []⟩, .slice none 0 0)
def addV (l : List PeV) (fr : Int) : List PeV := if l.any (fun x => x.1.fr == fr) then l else l ++ [newV fr]
end Rp
theorem info_peer : Info Try.prog 132 (.agg #[.int .i64 0, .int .u64 0, .int .u64 0, .slice none 0 0]) 4 48 := by unfold Info; kernel_rfl
theorem info_heard : Info Try.prog 134 (.agg #[.int .u64 0, .bool false, .string ⟨#[]⟩]) 3 32 := by unfold Info; kernel_rfl
structure RD (w : World) (B0 r : Nat) (vP : Value) (l : List PeV) : Prop where
  blk : Blk w r 44 #[vP]
  row : w.ownsRow B0 132 4 vP l.length (rowsP l)
  he : ∀ x ∈ l, w.ownsRow B0 134 3 x.2 x.1.L.length (rowsHe x.1.L)
  apart : l.Pairwise fun x y => ∀ g, x.2.ownBlock = some g → y.2.ownBlock ≠ some g
  dis : l.Pairwise fun x y => x.1.fr ≠ y.1.fr
  ge : B0 ≤ r
/-- What the document's Called may turn. -/
def OnR (B0 r : Nat) (w w' : World) : Prop := Only (fun k => k = r ∨ (B0 ≤ k ∧ ∃ A, Blk w k 132 A) ∨ (B0 ≤ k ∧ ∃ A, Blk w k 134 A)) w w'
section
variable {w w' w1 : World} {B0 r : Nat} {vP : Value} {l : List PeV}
theorem OnR.refl (B0 r : Nat) (w : World) : OnR B0 r w w := Only.refl _ _
theorem OnR.of_below (hb : Below w.heap.size w w') : OnR B0 r w w' := Only.of_below hb
theorem OnR.trans (h1 : OnR B0 r w w1) (h2 : OnR B0 r w1 w') : OnR B0 r w w' :=
  ⟨h2.os.trans h1.os, h2.tape.trans h1.tape, h2.output.trans h1.output, Nat.le_trans h1.size h2.size, fun k hk hne => by
    have e1 := h1.block k hk hne
    rw [← e1]
    refine h2.block k (Nat.lt_of_lt_of_le hk h1.size) fun hs => hne ?_
    unfold Blk at hs ⊢
    rwa [e1] at hs⟩
theorem OnR.step (h1 : OnR B0 r w w1) (h2 : Below w1.heap.size w1 w') : OnR B0 r w w' := h1.trans (.of_below h2)
theorem OnR.undrew (o : OnR B0 r w.drew w') : OnR B0 r w w' := ⟨o.os, o.tape, o.output, o.size, o.block⟩
theorem OnR.below (c : RD w B0 r vP l) (o : OnR B0 r w w') (hB : B0 ≤ w.heap.size) : Below B0 w w' := Only.below o hB fun k hs => by
  have := c.ge
  rcases hs with e | e | e
  · omega
  · exact e.1
  · exact e.1
theorem RD.only {S : Nat → Prop} (c : RD w B0 r vP l) (o : Only S w w') (h1 : ¬ S r) (h2 : ∀ g, vP.ownBlock = some g → ¬ S g) (h3 : ∀ x ∈ l, ∀ g, x.2.ownBlock = some g → ¬ S g) : RD w' B0 r vP l :=
  ⟨c.blk.only o h1, owns_only c.row o h2, fun x hx => owns_only (c.he x hx) o (h3 x hx), c.apart, c.dis, c.ge⟩
theorem RD.below (c : RD w B0 r vP l) (hb : Below w.heap.size w w') : RD w' B0 r vP l := c.only (S := fun _ => False) (.of_below hb) id (fun _ _ => id) (fun _ _ _ _ => id)
theorem RD.alloc (c : RD w B0 r vP l) (o : Obj) : RD (w.alloc o) B0 r vP l := c.below ((Below.refl _ _).alloc (Nat.le_refl _) o)
theorem RD.drew (c : RD w B0 r vP l) : RD w.drew B0 r vP l := c.below (Below.refl _ w).drew
theorem RD.c0 (c : RD w B0 r vP l) : w.cell? ⟨r, 0, none⟩ = some vP := by rw [c.blk.cell 0]; rfl
theorem RD.fz (c : RD w B0 r vP l) : ∀ o, w.frozen? ⟨r, o, none⟩ = false := c.blk.frozen
theorem RD.slice (c : RD w B0 r vP l) : ∃ p cap, vP = .slice p l.length cap := owns_slice c.row
/-- One of its peers. -/
theorem RD.peer (c : RD w B0 r vP l) {i : Nat} (hi : i < l.length) : ∃ g cap, vP = .slice (some ⟨g, 0, none⟩) l.length cap ∧ B0 ≤ g ∧ g < w.heap.size ∧ g ≠ r ∧ (∀ o, w.frozen? ⟨g, o, none⟩ = false) ∧ (∃ A, Blk w g 132 A) ∧ ∀ j, j < 4 → w.cell? ⟨g, i * 4 + j, none⟩ = (prow l[i])[j]? := by
  obtain ⟨g, cap, ev, hb, hg, hf, hc⟩ := owns_cells c.row (by omega)
  have hne : g ≠ r := owns_ne c.row c.blk (by decide) g (by rw [ev]; rfl)
  obtain ⟨A, hA, _⟩ := owns_type c.row (g := g) (by rw [ev]; rfl)
  exact ⟨g, cap, ev, hb, hg, hne, hf, ⟨A, hA⟩, fun j hj => by rw [← flat_at prow 4 (fun _ => rfl) l i j hi hj]; exact hc (i * 4 + j) (by omega)⟩
/-- A peer more. -/
theorem RD.add (c : RD w B0 r vP l) {fr : Int} {v' : Value} (hno : l.any (fun x => x.1.fr == fr) = false) (h6 : w'.ownsRow B0 132 4 v' (l.length + 1) (rowsP l ++ prow (newV fr))) (o6 : Only (fun k => vP.ownBlock = some k) w w') :
    Blk w' r 44 #[vP] ∧ RD (w'.setCell ⟨r, 0, none⟩ v') B0 r v' (l ++ [newV fr]) ∧ OnR B0 r w (w'.setCell ⟨r, 0, none⟩ v') := by
  have hne : ∀ {k : Nat} {T : TypeId} {A : Array Value}, Blk w k T A → T ≠ 132 → ¬ vP.ownBlock = some k := fun hk ht e => by
    obtain ⟨A', hA, _⟩ := owns_type c.row e
    exact ht (blk_ne hk hA)
  have hb := c.blk.only o6 (hne c.blk (by decide))
  have o7 : Only (· = r) w' (w'.setCell ⟨r, 0, none⟩ v') := (Only.refl _ w').set1
  have hsz := o6.size
  have hs2 := setCell_size w' ⟨r, 0, none⟩ v'
  have h7 : (w'.setCell ⟨r, 0, none⟩ v').ownsRow B0 132 4 v' (l.length + 1) (rowsP l ++ prow (newV fr)) := owns_only h6 o7 fun g hg e => owns_ne h6 hb (by decide) g hg e
  have h8 : (w'.setCell ⟨r, 0, none⟩ v').ownsRow B0 132 4 v' (l ++ [newV fr]).length (rowsP (l ++ [newV fr])) := by simpa [rowsP] using h7
  refine ⟨hb, ⟨?_, h8, fun x hx => ?_, ?_, ?_, c.ge⟩, ?_⟩
  · exact hb.set 0 v'
  · rcases List.mem_append.1 hx with hx | hx
    · refine owns_only (owns_only (c.he x hx) o6 fun g hg => ?_) o7 fun g hg e => ?_
      · obtain ⟨A, hA, _⟩ := owns_type (c.he x hx) hg
        exact hne hA (by decide)
      · obtain ⟨A, hA, _⟩ := owns_type (c.he x hx) hg
        have e' : g = r := e
        subst e'
        exact absurd (blk_ne hA c.blk) (by decide)
    · simp at hx
      subst hx
      exact World.ownsRow_nil _ _ _ _
  · refine List.pairwise_append.2 ⟨c.apart, List.pairwise_singleton _ _, fun y hy z hz g hg => ?_⟩
    simp at hz
    subst hz
    intro e
    cases e
  · refine List.pairwise_append.2 ⟨c.dis, List.pairwise_singleton _ _, fun y hy z hz => ?_⟩
    simp at hz
    subst hz
    rw [List.any_eq_false] at hno
    simpa [newV] using hno y hy
  · refine ⟨o7.os.trans o6.os, o7.tape.trans o6.tape, o7.output.trans o6.output, by rw [hs2]; exact hsz, fun k hk hn => ?_⟩
    rw [o7.block k (Nat.lt_of_lt_of_le hk hsz) (fun e => hn (.inl e))]
    refine o6.block k hk fun e => hn ?_
    obtain ⟨A, hA, hge, _⟩ := owns_type c.row e
    exact (.inr (.inl ⟨hge, A, hA⟩))
theorem anyF_take {L : List PeV} {x : Int} {i : Nat} (hi : i < L.length) : (L.take (i + 1)).any (fun c => c.1.fr == x) = ((L.take i).any (fun c => c.1.fr == x) || (L[i].1.fr == x)) := by
  rw [List.take_succ_eq_append_getElem hi]; simp only [List.any_append, List.any_cons, List.any_nil, Bool.or_false]
def PeerP (w : World) (B0 r : Nat) (l : List PeV) (fr : Int) (e : Ending) (w' : World) : Prop := ∃ (i : Nat) (vP' : Value), e = .returned (.int .i64 i) ∧ RD w' B0 r vP' (addV l fr) ∧ OnR B0 r w w' ∧ ∃ hi : i < (addV l fr).length, (addV l fr)[i].1.fr = fr
set_option maxRecDepth 100000 in
set_option maxHeartbeats 1000000 in
theorem peer_any (c : RD w B0 r vP l) (hn : l.length ≤ 1000000) (fr : Int) :
    Calls Try.prog 60 #[.pointer (some ⟨r, 0, none⟩), .int .i64 fr] w (PeerP w B0 r l fr) := by
  have HC := Lib.hid c
  have HN := Lib.hid hn
  have c0 := c.c0
  obtain ⟨pP, cP, eP⟩ := c.slice
  subst eP
  clear c hn
  go_enter Try.func60, Try.ntmps60
  go_wp2_with fail
  go_loopw [5] (fun u wr => ∃ i : Nat, u = .int .i64 i ∧ i ≤ l.length ∧ (l.take i).any (fun c => c.1.fr == fr) = false ∧ wr = w) (fun u _ => ((l.length : Int) - intOf u).toNat)
  case atStart => exact ⟨0, rfl, Nat.zero_le _, rfl, rfl⟩
  case round =>
    obtain ⟨i, rfl, hi, hnone, rfl⟩ := hrel
    have HI := Lib.hid (And.intro hi hnone)
    clear hi hnone
    by_cases hil : i < l.length
    · have hil' : (i : Int) < (l.length : Int) := by omega
      have hi0 : (0 : Int) ≤ (i : Int) := by omega
      obtain ⟨g, cap, ev, _, hg, hgr, _, _, hz⟩ := HC.out.peer hil
      injection ev with e1 e2 e3
      subst e1 e3
      have z0 : wr.cell? ⟨g, i * 4, none⟩ = some (.int .i64 l[i].1.fr) := hz 0 (by decide)
      have HT := Lib.hid (anyF_take (x := fr) hil)
      have HLT := Lib.hid hil
      have HE : Hid (wrap64 ((i : Int) + 1) = ((i + 1 : Nat) : Int)) := Lib.hid (Sou.w64n rfl (by have := HN.out; omega))
      have HFN : Hid (l[i].1.fr = fr → PeerP wr B0 r l fr (.returned (.int .i64 i)) wr) := Lib.hid fun hq => by
        have ha : l.any (fun c => c.1.fr == fr) = true := by rw [List.any_eq_true]; exact ⟨_, List.getElem_mem hil, beq_iff_eq.2 hq⟩
        have e : addV l fr = l := by unfold addV; rw [ha]; rfl
        refine ⟨i, _, rfl, by rw [e]; exact HC.out, OnR.refl _ _ _, ?_⟩
        rw [e]
        exact ⟨hil, hq⟩
      clear e2 hz
      generalize l[i].1.fr = q at *
      clear hil
      by_cases hq : q = fr
      · have HF := Lib.hid (HFN.out hq)
        have hq' : (q == fr) = true := by simpa using hq
        clear hq HFN HT
        go_wp2_with fail
        go_ret
        exact HF.out
      · have hq' : (q == fr) = false := by simpa using hq
        have HT2 : Hid ((l.take (i + 1)).any (fun c => c.1.fr == fr) = false) := Lib.hid (by rw [HT.out, HI.out.2, hq']; rfl)
        clear hq HT HFN
        go_wp2_with fail
        go_roundw
        case rel => first | exact ⟨i + 1, rfl, HLT.out, HT2.out, by first | rfl | trivial⟩ | (rw [HE.out]; exact ⟨i + 1, rfl, HLT.out, HT2.out, by first | rfl | trivial⟩)
        case measure => have := HLT.out; first | (simp [intOf]; omega) | (rw [HE.out]; simp [intOf]; omega)
    · obtain rfl : i = l.length := by have := HI.out; omega
      have hil' : ¬ ((l.length : Nat) : Int) < (l.length : Int) := by omega
      have HNO : Hid (l.any (fun c => c.1.fr == fr) = false) := Lib.hid (by have := HI.out.2; rwa [List.take_length] at this)
      have hb := HC.out.fz 0
      have e1 : wrap64 (((l.length + 1 : Nat) : Int) - 1) = (l.length : Int) := by have := HN.out; unfold wrap64; omega
      clear hil
      have HL : Hid (addV l fr = l ++ [newV fr]) := Lib.hid (by unfold addV; rw [HNO.out]; rfl)
      go_wp2_with (at_builtin; refine wpl_append_row2 (ys := prow (newV fr)) rfl rfl rfl rfl Try.underlying42 info_peer rfl rfl rfl (by decide) (by decide) HC.out.row (by have := HN.out; omega) (by have := HC.out.ge; have := HC.out.blk.lt; omega) (by first | rfl | simp) ?_; intro v6 w6 h6 o6; obtain ⟨p6, c6, rfl⟩ := owns_slice h6; obtain ⟨b6, hr6, on6⟩ := HC.out.add HNO.out h6 o6; have HR6 := Lib.hid hr6; have HON6 := Lib.hid on6; have d0 : w6.cell? ⟨r, 0, none⟩ = some (.slice pP l.length cP) := (by rw [b6.cell 0]; rfl); have f0 := b6.frozen 0; clear h6 o6 b6 hr6 on6)
      go_ret
      refine ⟨l.length, .slice p6 (l.length + 1) c6, ?_, by rw [HL.out]; exact HR6.out, HON6.out, ?_⟩
      · simp; have := HN.out; unfold wrap64; omega
      · rw [HL.out]
        exact ⟨by simp, by simp [newV]⟩
/-! ### Inc -/
def incV (l : List PeV) (fr : Int) : Int := match l.find? (fun x => x.1.fr == fr) with | none => 0 | some x => x.1.inc
set_option maxRecDepth 100000 in
set_option maxHeartbeats 1000000 in
theorem rinc_any (c : RD w B0 r vP l) (hn : l.length ≤ 1000000) (fr : Int) :
    Calls Try.prog 21 #[.pointer (some ⟨r, 0, none⟩), .int .i64 fr] w fun e w' => e = .returned (.int .u64 (incV l fr)) ∧ w' = w := by
  have HC := Lib.hid c
  have HN := Lib.hid hn
  have c0 := c.c0
  obtain ⟨pP, cP, eP⟩ := c.slice
  subst eP
  clear c hn
  go_enter Try.func21, Try.ntmps21
  go_wp2_with fail
  go_loopw [5] (fun u wr => ∃ i : Nat, u = .int .i64 i ∧ i ≤ l.length ∧ (l.take i).any (fun c => c.1.fr == fr) = false ∧ wr = w) (fun u _ => ((l.length : Int) - intOf u).toNat)
  case atStart => exact ⟨0, rfl, Nat.zero_le _, rfl, rfl⟩
  case round =>
    obtain ⟨i, rfl, hi, hnone, rfl⟩ := hrel
    have HI := Lib.hid (And.intro hi hnone)
    clear hi hnone
    by_cases hil : i < l.length
    · have hil' : (i : Int) < (l.length : Int) := by omega
      have hi0 : (0 : Int) ≤ (i : Int) := by omega
      obtain ⟨g, cap, ev, _, hg, hgr, _, _, hz⟩ := HC.out.peer hil
      injection ev with e1 e2 e3
      subst e1 e3
      have z0 : wr.cell? ⟨g, i * 4, none⟩ = some (.int .i64 l[i].1.fr) := hz 0 (by decide)
      have z1 : wr.cell? ⟨g, i * 4 + 1, none⟩ = some (.int .u64 l[i].1.inc) := hz 1 (by decide)
      have HT := Lib.hid (anyF_take (x := fr) hil)
      have HLT := Lib.hid hil
      have HE : Hid (wrap64 ((i : Int) + 1) = ((i + 1 : Nat) : Int)) := Lib.hid (Sou.w64n rfl (by have := HN.out; omega))
      have HFN : Hid (l[i].1.fr = fr → incV l fr = l[i].1.inc) := Lib.hid fun hq => by
        unfold incV
        have : l.find? (fun x => x.1.fr == fr) = some l[i] := by
          rw [List.find?_eq_some_iff_getElem]
          refine ⟨beq_iff_eq.2 hq, i, hil, rfl, fun j hj => ?_⟩
          have h0 := HI.out.2
          rw [List.any_eq_false] at h0
          simpa using h0 _ (List.mem_iff_getElem.2 ⟨j, by rw [List.length_take]; omega, by rw [List.getElem_take]⟩)
        rw [this]
      clear e2 hz
      generalize l[i].1.fr = q at *
      generalize l[i].1.inc = qi at *
      clear hil
      by_cases hq : q = fr
      · have HF := Lib.hid (HFN.out hq)
        have hq' : (q == fr) = true := by simpa using hq
        clear hq HFN HT
        go_wp2_with fail
        go_ret
        rw [HF.out]
        exact ⟨rfl, rfl⟩
      · have hq' : (q == fr) = false := by simpa using hq
        have HT2 : Hid ((l.take (i + 1)).any (fun c => c.1.fr == fr) = false) := Lib.hid (by rw [HT.out, HI.out.2, hq']; rfl)
        clear hq HT HFN
        go_wp2_with fail
        go_roundw
        case rel => first | exact ⟨i + 1, rfl, HLT.out, HT2.out, by first | rfl | trivial⟩ | (rw [HE.out]; exact ⟨i + 1, rfl, HLT.out, HT2.out, by first | rfl | trivial⟩)
        case measure => have := HLT.out; first | (simp [intOf]; omega) | (rw [HE.out]; simp [intOf]; omega)
    · obtain rfl : i = l.length := by have := HI.out; omega
      have hil' : ¬ ((l.length : Nat) : Int) < (l.length : Int) := by omega
      have HNO : Hid (incV l fr = 0) := Lib.hid (by
        have h0 := HI.out.2
        rw [List.take_length, List.any_eq_false] at h0
        unfold incV
        rw [List.find?_eq_none.2 (fun x hx => by simpa using h0 x hx)])
      clear hil
      go_wp2_with fail
      go_ret
      rw [HNO.out]
      exact ⟨rfl, rfl⟩
end
end Go.Proofs.Ytgdgonmhgpflcaa
