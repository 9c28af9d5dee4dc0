import Derived.Test.YtgdgonmhgpflcaaRpcU

/- The document's caller in the world: its calls, what is due, what is over; the walks of its find. No condition. -/
namespace Go.Proofs.Ytgdgonmhgpflcaa
open Go.RowKit Go.Maps Wire Rp
set_option linter.unusedVariables false
set_option linter.unusedSimpArgs false
namespace Rp
def kcells (c : C0) : List Value := [.int .u64 c.seq, .int .i64 c.wh, .string c.body, .int .i64 c.tries, .int .i64 c.tm, .int .i64 c.wt]
theorem kcells_len (c : C0) : (kcells c).length = 6 := rfl
def rowsK (l : List C0) : List Value := l.flatMap kcells
theorem rowsK_len (L : List C0) : (rowsK L).length = L.length * 6 := by
  unfold rowsK
  induction L with
  | nil => rfl
  | cons a l ih => rw [List.flatMap_cons, List.length_append, ih, kcells_len, List.length_cons]; omega
theorem rowsK_split (L : List C0) (i : Nat) : rowsK L = rowsK (L.take i) ++ rowsK (L.drop i) := by
  unfold rowsK; rw [← List.flatMap_append, List.take_append_drop]
theorem rowsK_one (L : List C0) : ∀ u ∈ rowsK L, u.oneCell' = true := by
  intro u hu
  unfold rowsK at hu
  obtain ⟨g, _, hg⟩ := List.mem_flatMap.1 hu
  unfold kcells at hg
  simp at hg
  rcases hg with rfl | rfl | rfl | rfl | rfl | rfl <;> rfl
def ixS (L : List C0) (x : Int) : Option Nat := L.findIdx? fun c => c.seq == x
def ixI (L : List C0) (x : Int) : Int := match ixS L x with | some i => (i : Int) | none => -1
theorem ix_at {L : List C0} {x : Int} {i : Nat} (hi : i < L.length) (h0 : (L.take i).any (fun c => c.seq == x) = false) (h : L[i].seq = x) : ixS L x = some i := by
  unfold ixS
  rw [List.findIdx?_eq_some_iff_getElem]
  refine ⟨hi, by simp [h], fun j hj => ?_⟩
  rw [List.any_eq_false] at h0
  exact h0 _ (List.mem_iff_getElem.2 ⟨j, by rw [List.length_take]; omega, by rw [List.getElem_take]⟩)
theorem ix_none {L : List C0} {x : Int} (h0 : L.any (fun c => c.seq == x) = false) : ixS L x = none := by
  unfold ixS
  rw [List.findIdx?_eq_none_iff]
  rw [List.any_eq_false] at h0
  intro g hg; simpa using h0 g hg
theorem ix_some {L : List C0} {x : Int} {i : Nat} (h : ixS L x = some i) : ∃ hi : i < L.length, L[i].seq = x ∧ L.find? (fun c => c.seq == x) = some L[i] := by
  unfold ixS at h
  rw [List.findIdx?_eq_some_iff_getElem] at h
  obtain ⟨hi, h1, h2⟩ := h
  refine ⟨hi, by simpa using h1, ?_⟩
  rw [List.find?_eq_some_iff_getElem]
  exact ⟨h1, i, hi, rfl, fun j hj => by simpa using h2 j hj⟩
theorem ix_no {L : List C0} {x : Int} (h : ixS L x = none) : L.find? (fun c => c.seq == x) = none ∧ L.any (fun c => c.seq == x) = false := by
  unfold ixS at h
  rw [List.findIdx?_eq_none_iff] at h
  exact ⟨by rw [List.find?_eq_none]; intro c hc; simpa using h c hc, by rw [List.any_eq_false]; intro c hc; simpa using h c hc⟩
theorem any_take {L : List C0} {x : Int} {i : Nat} (hi : i < L.length) : (L.take (i + 1)).any (fun c => c.seq == x) = ((L.take i).any (fun c => c.seq == x) || (L[i].seq == x)) := by
  rw [List.take_succ_eq_append_getElem hi, List.any_append]; simp
theorem erase_filter {L : List C0} (hr : L.Pairwise (fun a b => a.seq < b.seq)) {i : Nat} (hi : i < L.length) : L.eraseIdx i = L.filter (fun c => !(c.seq == L[i].seq)) := by
  rw [List.eraseIdx_eq_take_drop_succ]
  rw [List.pairwise_iff_getElem] at hr
  have key : ∀ p : C0 → Bool, L.filter p = (L.take i).filter p ++ (L[i] :: L.drop (i + 1)).filter p := fun p => by
    rw [← List.drop_eq_getElem_cons hi, ← List.filter_append, List.take_append_drop]
  rw [key, List.filter_cons]
  have f1 : (L.take i).filter (fun c => !(c.seq == L[i].seq)) = L.take i := by
    rw [List.filter_eq_self]
    intro y hy
    obtain ⟨j, hj, e2⟩ := List.mem_iff_getElem.1 hy
    rw [List.length_take] at hj
    rw [List.getElem_take] at e2
    have := hr j i (by omega) hi (by omega)
    rw [e2] at this
    simp; omega
  have f2 : (L.drop (i + 1)).filter (fun c => !(c.seq == L[i].seq)) = L.drop (i + 1) := by
    rw [List.filter_eq_self]
    intro y hy
    obtain ⟨j, hj, e2⟩ := List.mem_iff_getElem.1 hy
    rw [List.length_drop] at hj
    rw [List.getElem_drop] at e2
    have := hr i (i + 1 + j) hi (by omega) (by omega)
    rw [e2] at this
    simp; omega
  rw [f1, f2]
  simp
end Rp
theorem info_call : Info Try.prog 99 (.agg #[.int .u64 0, .int .i64 0, .string ⟨#[]⟩, .int .i64 0, .int .i64 0, .int .i64 0]) 6 56 := by unfold Info; kernel_rfl
structure RC (w : World) (B0 bD bO r : Nat) (vL vD vO : Value) (s : St) : Prop where
  blk : Blk w r 97 #[.int .u64 s.inc, .int .i64 s.wait, .int .i64 s.most, .int .i64 s.tries, .int .u64 s.last, vL, vD, vO]
  row : w.ownsRow B0 99 6 vL s.L.length (rowsK s.L)
  du : w.ownsRow bD 101 2 vD s.du.length (rowsD s.du)
  ov : w.ownsRow bO 83 4 vO s.ov.length (rowsO s.ov)
  ge : B0 ≤ r ∧ B0 ≤ bD ∧ B0 ≤ bO
  sz : bD ≤ w.heap.size ∧ bO ≤ w.heap.size
  inv : SInv s
def OnK (B0 bD bO r : Nat) (w w' : World) : Prop := Only (fun k => k = r ∨ (B0 ≤ k ∧ ∃ A, Blk w k 99 A) ∨ (bD ≤ k ∧ ∃ A, Blk w k 101 A) ∨ (bO ≤ k ∧ ∃ A, Blk w k 83 A)) w w'
section
variable {w w' w1 : World} {B0 bD bO r : Nat} {vL vD vO : Value} {s : St}
theorem OnK.refl (B0 bD bO r : Nat) (w : World) : OnK B0 bD bO r w w := Only.refl _ _
theorem OnK.of_below (hb : Below w.heap.size w w') : OnK B0 bD bO r w w' := Only.of_below hb
theorem OnK.trans (h1 : OnK B0 bD bO r w w1) (h2 : OnK B0 bD bO r w1 w') : OnK B0 bD bO r w w' :=
  ⟨h2.os.trans h1.os, h2.tape.trans h1.tape, h2.output.trans h1.output, Nat.le_trans h1.size h2.size, fun k hk hne => by
    have e1 := h1.block k hk hne
    rw [← e1]
    refine h2.block k (Nat.lt_of_lt_of_le hk h1.size) fun hs => hne ?_
    unfold Blk at hs ⊢
    rwa [e1] at hs⟩
theorem OnK.step (h1 : OnK B0 bD bO r w w1) (h2 : Below w1.heap.size w1 w') : OnK B0 bD bO r w w' := h1.trans (.of_below h2)
theorem OnK.drew (h1 : OnK B0 bD bO r w w') : OnK B0 bD bO r w w'.drew := Only.drew h1
theorem OnK.undrew (o : OnK B0 bD bO r w.drew w') : OnK B0 bD bO r w w' := ⟨o.os, o.tape, o.output, o.size, o.block⟩
theorem OnK.below (h1 : RC w B0 bD bO r vL vD vO s) (o : OnK B0 bD bO r w w') (hB : B0 ≤ w.heap.size) : Below B0 w w' := Only.below o hB fun k hs => by
  have := h1.ge
  rcases hs with e | e | e | e
  · omega
  · exact e.1
  · omega
  · omega
theorem RC.only {S : Nat → Prop} (c : RC w B0 bD bO r vL vD vO s) (o : Only S w w') (h1 : ¬ S r) (h3 : ∀ g, vL.ownBlock = some g → ¬ S g) (h4 : ∀ g, vD.ownBlock = some g → ¬ S g) (h5 : ∀ g, vO.ownBlock = some g → ¬ S g) : RC w' B0 bD bO r vL vD vO s :=
  ⟨c.blk.only o h1, owns_only c.row o h3, owns_only c.du o h4, owns_only c.ov o h5, c.ge, ⟨Nat.le_trans c.sz.1 o.size, Nat.le_trans c.sz.2 o.size⟩, c.inv⟩
theorem RC.below (c : RC w B0 bD bO r vL vD vO s) (hb : Below w.heap.size w w') : RC w' B0 bD bO r vL vD vO s := c.only (S := fun _ => False) (.of_below hb) id (fun _ _ => id) (fun _ _ => id) (fun _ _ => id)
theorem RC.alloc (c : RC w B0 bD bO r vL vD vO s) (o : Obj) : RC (w.alloc o) B0 bD bO r vL vD vO s := c.below ((Below.refl _ _).alloc (Nat.le_refl _) o)
theorem RC.drew (c : RC w B0 bD bO r vL vD vO s) : RC w.drew B0 bD bO r vL vD vO s := c.below (Below.refl _ w).drew
theorem RC.c0 (c : RC w B0 bD bO r vL vD vO s) : w.cell? ⟨r, 0, none⟩ = some (.int .u64 s.inc) := by rw [c.blk.cell 0]; rfl
theorem RC.c1 (c : RC w B0 bD bO r vL vD vO s) : w.cell? ⟨r, 1, none⟩ = some (.int .i64 s.wait) := by rw [c.blk.cell 1]; rfl
theorem RC.c2 (c : RC w B0 bD bO r vL vD vO s) : w.cell? ⟨r, 2, none⟩ = some (.int .i64 s.most) := by rw [c.blk.cell 2]; rfl
theorem RC.c3 (c : RC w B0 bD bO r vL vD vO s) : w.cell? ⟨r, 3, none⟩ = some (.int .i64 s.tries) := by rw [c.blk.cell 3]; rfl
theorem RC.c4 (c : RC w B0 bD bO r vL vD vO s) : w.cell? ⟨r, 4, none⟩ = some (.int .u64 s.last) := by rw [c.blk.cell 4]; rfl
theorem RC.c5 (c : RC w B0 bD bO r vL vD vO s) : w.cell? ⟨r, 5, none⟩ = some (vL) := by rw [c.blk.cell 5]; rfl
theorem RC.c6 (c : RC w B0 bD bO r vL vD vO s) : w.cell? ⟨r, 6, none⟩ = some (vD) := by rw [c.blk.cell 6]; rfl
theorem RC.c7 (c : RC w B0 bD bO r vL vD vO s) : w.cell? ⟨r, 7, none⟩ = some (vO) := by rw [c.blk.cell 7]; rfl
theorem RC.fz (c : RC w B0 bD bO r vL vD vO s) : ∀ o, w.frozen? ⟨r, o, none⟩ = false := c.blk.frozen
theorem RC.ty (c : RC w B0 bD bO r vL vD vO s) : (∀ {g}, vL.ownBlock = some g → ∃ A, Blk w g 99 A ∧ B0 ≤ g) ∧ (∀ {g}, vD.ownBlock = some g → ∃ A, Blk w g 101 A ∧ bD ≤ g) ∧ (∀ {g}, vO.ownBlock = some g → ∃ A, Blk w g 83 A ∧ bO ≤ g) :=
  ⟨fun hg => by obtain ⟨A, h1, h2, _⟩ := owns_type c.row hg; exact ⟨A, h1, h2⟩, fun hg => by obtain ⟨A, h1, h2, _⟩ := owns_type c.du hg; exact ⟨A, h1, h2⟩, fun hg => by obtain ⟨A, h1, h2, _⟩ := owns_type c.ov hg; exact ⟨A, h1, h2⟩⟩
theorem RC.lslice (c : RC w B0 bD bO r vL vD vO s) : ∃ p cap, vL = .slice p s.L.length cap := owns_slice c.row
theorem RC.dslice (c : RC w B0 bD bO r vL vD vO s) : ∃ p cap, vD = .slice p s.du.length cap := owns_slice c.du
theorem RC.oslice (c : RC w B0 bD bO r vL vD vO s) : ∃ p cap, vO = .slice p s.ov.length cap := owns_slice c.ov
theorem RC.setF5 (a0 a1 a2 a3 a4 a5 a6 a7 v : Value) : (#[a0, a1, a2, a3, a4, a5, a6, a7] : Array Value).setIfInBounds 5 v = #[a0, a1, a2, a3, a4, v, a6, a7] := rfl
theorem RC.appL (c : RC w B0 bD bO r vL vD vO s) {o : C0} {v' : Value} (hinv : SInv { s with L := s.L ++ [o] }) (h6 : w'.ownsRow B0 99 6 v' (s.L.length + 1) (rowsK s.L ++ kcells o)) (o6 : Only (fun k => vL.ownBlock = some k) w w') :
    Blk w' r 97 #[.int .u64 s.inc, .int .i64 s.wait, .int .i64 s.most, .int .i64 s.tries, .int .u64 s.last, vL, vD, vO] ∧ RC (w'.setCell ⟨r, 5, none⟩ v') B0 bD bO r v' vD vO { s with L := s.L ++ [o] } ∧ OnK B0 bD bO r w (w'.setCell ⟨r, 5, none⟩ v') := by
  have hne : ∀ {k : Nat} {T : TypeId} {A : Array Value}, Blk w k T A → T ≠ 99 → ¬ vL.ownBlock = some k := fun hk ht e => by
    obtain ⟨A', hA, _⟩ := c.ty.1 e
    exact ht (blk_ne hk hA)
  have hb := c.blk.only o6 (hne c.blk (by decide))
  have o7 : Only (· = r) w' (w'.setCell ⟨r, 5, none⟩ v') := (Only.refl _ w').set1
  have hsz := o6.size
  have hs2 := setCell_size w' ⟨r, 5, none⟩ v'
  have h7 : (w'.setCell ⟨r, 5, none⟩ v').ownsRow B0 99 6 v' (s.L.length + 1) (rowsK s.L ++ kcells o) := owns_only h6 o7 fun g hg e => by
    obtain ⟨A, hA, _⟩ := owns_type h6 hg
    subst e
    exact absurd (blk_ne hA hb) (by decide)
  have h8 : (w'.setCell ⟨r, 5, none⟩ v').ownsRow B0 99 6 v' (s.L ++ [o]).length (rowsK (s.L ++ [o])) := by simpa [rowsK] using h7
  refine ⟨hb, ⟨?_, h8, (owns_only (owns_only c.du o6 fun g hg => by obtain ⟨A, hA, _⟩ := c.ty.2.1 hg; exact hne hA (by decide)) o7 fun g hg e => by obtain ⟨A, hA, _⟩ := c.ty.2.1 hg; subst e; exact absurd (blk_ne hA c.blk) (by decide)), (owns_only (owns_only c.ov o6 fun g hg => by obtain ⟨A, hA, _⟩ := c.ty.2.2 hg; exact hne hA (by decide)) o7 fun g hg e => by obtain ⟨A, hA, _⟩ := c.ty.2.2 hg; subst e; exact absurd (blk_ne hA c.blk) (by decide)), c.ge, ⟨by have := c.sz; rw [hs2]; omega, by have := c.sz; rw [hs2]; omega⟩, hinv⟩, ?_⟩
  · have := hb.set 5 v'
    rwa [RC.setF5] at this
  · refine ⟨o7.os.trans o6.os, o7.tape.trans o6.tape, o7.output.trans o6.output, by rw [hs2]; exact hsz, fun k hk hn => ?_⟩
    rw [o7.block k (Nat.lt_of_lt_of_le hk hsz) (fun e => hn (.inl e))]
    refine o6.block k hk fun e => hn ?_
    obtain ⟨A, hA, hge⟩ := c.ty.1 e
    exact (.inr (.inl ⟨hge, A, hA⟩))
theorem RC.appD (c : RC w B0 bD bO r vL vD vO s) {o : Int × ByteArray} {v' : Value} (h6 : w'.ownsRow bD 101 2 v' (s.du.length + 1) (rowsD s.du ++ dcells o)) (o6 : Only (fun k => vD.ownBlock = some k) w w') :
    Blk w' r 97 #[.int .u64 s.inc, .int .i64 s.wait, .int .i64 s.most, .int .i64 s.tries, .int .u64 s.last, vL, vD, vO] ∧ RC (w'.setCell ⟨r, 6, none⟩ v') B0 bD bO r vL v' vO { s with du := s.du ++ [o] } ∧ OnK B0 bD bO r w (w'.setCell ⟨r, 6, none⟩ v') := by
  have hne : ∀ {k : Nat} {T : TypeId} {A : Array Value}, Blk w k T A → T ≠ 101 → ¬ vD.ownBlock = some k := fun hk ht e => by
    obtain ⟨A', hA, _⟩ := c.ty.2.1 e
    exact ht (blk_ne hk hA)
  have hb := c.blk.only o6 (hne c.blk (by decide))
  have o7 : Only (· = r) w' (w'.setCell ⟨r, 6, none⟩ v') := (Only.refl _ w').set1
  have hsz := o6.size
  have hs2 := setCell_size w' ⟨r, 6, none⟩ v'
  have h7 : (w'.setCell ⟨r, 6, none⟩ v').ownsRow bD 101 2 v' (s.du.length + 1) (rowsD s.du ++ dcells o) := owns_only h6 o7 fun g hg e => by
    obtain ⟨A, hA, _⟩ := owns_type h6 hg
    subst e
    exact absurd (blk_ne hA hb) (by decide)
  have h8 : (w'.setCell ⟨r, 6, none⟩ v').ownsRow bD 101 2 v' (s.du ++ [o]).length (rowsD (s.du ++ [o])) := by simpa [rowsD] using h7
  refine ⟨hb, ⟨?_, (owns_only (owns_only c.row o6 fun g hg => by obtain ⟨A, hA, _⟩ := c.ty.1 hg; exact hne hA (by decide)) o7 fun g hg e => by obtain ⟨A, hA, _⟩ := c.ty.1 hg; subst e; exact absurd (blk_ne hA c.blk) (by decide)), h8, (owns_only (owns_only c.ov o6 fun g hg => by obtain ⟨A, hA, _⟩ := c.ty.2.2 hg; exact hne hA (by decide)) o7 fun g hg e => by obtain ⟨A, hA, _⟩ := c.ty.2.2 hg; subst e; exact absurd (blk_ne hA c.blk) (by decide)), c.ge, ⟨by have := c.sz; rw [hs2]; omega, by have := c.sz; rw [hs2]; omega⟩, c.inv.rows _ s.ov⟩, ?_⟩
  · have := hb.set 6 v'
    rwa [setIf6] at this
  · refine ⟨o7.os.trans o6.os, o7.tape.trans o6.tape, o7.output.trans o6.output, by rw [hs2]; exact hsz, fun k hk hn => ?_⟩
    rw [o7.block k (Nat.lt_of_lt_of_le hk hsz) (fun e => hn (.inl e))]
    refine o6.block k hk fun e => hn ?_
    obtain ⟨A, hA, hge⟩ := c.ty.2.1 e
    exact (.inr (.inr (.inl ⟨hge, A, hA⟩)))
theorem RC.appO (c : RC w B0 bD bO r vL vD vO s) {o : Ov} {v' : Value} (h6 : w'.ownsRow bO 83 4 v' (s.ov.length + 1) (rowsO s.ov ++ ocells o)) (o6 : Only (fun k => vO.ownBlock = some k) w w') :
    Blk w' r 97 #[.int .u64 s.inc, .int .i64 s.wait, .int .i64 s.most, .int .i64 s.tries, .int .u64 s.last, vL, vD, vO] ∧ RC (w'.setCell ⟨r, 7, none⟩ v') B0 bD bO r vL vD v' { s with ov := s.ov ++ [o] } ∧ OnK B0 bD bO r w (w'.setCell ⟨r, 7, none⟩ v') := by
  have hne : ∀ {k : Nat} {T : TypeId} {A : Array Value}, Blk w k T A → T ≠ 83 → ¬ vO.ownBlock = some k := fun hk ht e => by
    obtain ⟨A', hA, _⟩ := c.ty.2.2 e
    exact ht (blk_ne hk hA)
  have hb := c.blk.only o6 (hne c.blk (by decide))
  have o7 : Only (· = r) w' (w'.setCell ⟨r, 7, none⟩ v') := (Only.refl _ w').set1
  have hsz := o6.size
  have hs2 := setCell_size w' ⟨r, 7, none⟩ v'
  have h7 : (w'.setCell ⟨r, 7, none⟩ v').ownsRow bO 83 4 v' (s.ov.length + 1) (rowsO s.ov ++ ocells o) := owns_only h6 o7 fun g hg e => by
    obtain ⟨A, hA, _⟩ := owns_type h6 hg
    subst e
    exact absurd (blk_ne hA hb) (by decide)
  have h8 : (w'.setCell ⟨r, 7, none⟩ v').ownsRow bO 83 4 v' (s.ov ++ [o]).length (rowsO (s.ov ++ [o])) := by simpa [rowsO] using h7
  refine ⟨hb, ⟨?_, (owns_only (owns_only c.row o6 fun g hg => by obtain ⟨A, hA, _⟩ := c.ty.1 hg; exact hne hA (by decide)) o7 fun g hg e => by obtain ⟨A, hA, _⟩ := c.ty.1 hg; subst e; exact absurd (blk_ne hA c.blk) (by decide)), (owns_only (owns_only c.du o6 fun g hg => by obtain ⟨A, hA, _⟩ := c.ty.2.1 hg; exact hne hA (by decide)) o7 fun g hg e => by obtain ⟨A, hA, _⟩ := c.ty.2.1 hg; subst e; exact absurd (blk_ne hA c.blk) (by decide)), h8, c.ge, ⟨by have := c.sz; rw [hs2]; omega, by have := c.sz; rw [hs2]; omega⟩, c.inv.rows s.du _⟩, ?_⟩
  · have := hb.set 7 v'
    rwa [setIf7] at this
  · refine ⟨o7.os.trans o6.os, o7.tape.trans o6.tape, o7.output.trans o6.output, by rw [hs2]; exact hsz, fun k hk hn => ?_⟩
    rw [o7.block k (Nat.lt_of_lt_of_le hk hsz) (fun e => hn (.inl e))]
    refine o6.block k hk fun e => hn ?_
    obtain ⟨A, hA, hge⟩ := c.ty.2.2 e
    exact (.inr (.inr (.inr ⟨hge, A, hA⟩)))
/-- One of its calls. -/
theorem RC.call (c : RC w B0 bD bO r vL vD vO s) {i : Nat} (hi : i < s.L.length) : ∃ g cap, vL = .slice (some ⟨g, 0, none⟩) s.L.length cap ∧ B0 ≤ g ∧ g < w.heap.size ∧ g ≠ r ∧ (∃ A, Blk w g 99 A) ∧ ∀ j, j < 6 → w.cell? ⟨g, i * 6 + j, none⟩ = (kcells s.L[i])[j]? := by
  obtain ⟨g, cap, ev, hb, hg, _, hc⟩ := owns_cells c.row (by omega)
  have hne : g ≠ r := owns_ne c.row c.blk (by decide) g (by rw [ev]; rfl)
  obtain ⟨A, hA, _⟩ := c.ty.1 (g := g) (by rw [ev]; rfl)
  exact ⟨g, cap, ev, hb, hg, hne, ⟨A, hA⟩, fun j hj => by rw [← flat_at kcells 6 kcells_len s.L i j hi hj]; exact hc (i * 6 + j) (by omega)⟩
set_option maxRecDepth 100000 in
set_option maxHeartbeats 1000000 in
theorem find_any (c : RC w B0 bD bO r vL vD vO s) (x : Int) :
    Calls Try.prog 72 #[.pointer (some ⟨r, 0, none⟩), .int .u64 x] w fun e w' => e = .returned (.int .i64 (ixI s.L x)) ∧ w' = w := by
  have HC := Lib.hid c
  have HL : Hid (s.L.length ≤ 64) := Lib.hid c.inv.len
  have c5 := c.c5
  obtain ⟨pL, cL, eL⟩ := c.lslice
  subst eL
  clear c
  go_enter Try.func72, Try.ntmps72
  go_wp2_with fail
  go_loopw [5] (fun u wr => ∃ i : Nat, u = .int .i64 i ∧ i ≤ s.L.length ∧ (s.L.take i).any (fun c => c.seq == x) = false ∧ wr = w) (fun u _ => ((s.L.length : Int) - intOf u).toNat)
  case atStart => exact ⟨0, rfl, Nat.zero_le _, rfl, rfl⟩
  case round =>
    obtain ⟨i, rfl, hi, hnone, rfl⟩ := hrel
    have HI := Lib.hid (And.intro hi hnone)
    clear hi hnone
    by_cases hil : i < s.L.length
    · have hil' : (i : Int) < (s.L.length : Int) := by omega
      have hi0 : (0 : Int) ≤ (i : Int) := by omega
      obtain ⟨g, cap, ev, _, hg, hgr, _, hz⟩ := HC.out.call hil
      injection ev with e1 e2 e3
      subst e1 e3
      have z0 : wr.cell? ⟨g, i * 6, none⟩ = some (.int .u64 s.L[i].seq) := hz 0 (by decide)
      have HT := Lib.hid (any_take (x := x) hil)
      have HAT := Lib.hid (ix_at (x := x) hil HI.out.2)
      have HLT := Lib.hid hil
      have HE : Hid (wrap64 ((i : Int) + 1) = ((i + 1 : Nat) : Int)) := Lib.hid (Sou.w64n rfl (by have := HL.out; omega))
      clear e2 hz
      generalize s.L[i] = q at *
      clear hil
      by_cases hq : q.seq = x
      · have HIX := Lib.hid (HAT.out hq)
        have hq' : (q.seq == x) = true := by simpa using hq
        clear hq HAT HT
        go_wp2_with fail
        go_ret
        exact ⟨by unfold ixI; rw [HIX.out]; rfl, rfl⟩
      · have hq' : (q.seq == x) = false := by simpa using hq
        have HT2 : Hid ((s.L.take (i + 1)).any (fun c => c.seq == x) = false) := Lib.hid (by rw [HT.out, HI.out.2, hq']; rfl)
        clear hq HAT HT
        go_wp2_with fail
        go_roundw
        case rel => rw [HE.out]; exact ⟨i + 1, rfl, HLT.out, HT2.out, by first | rfl | trivial⟩
        case measure => have := HLT.out; rw [HE.out]; simp [intOf]; omega
    · obtain rfl : i = s.L.length := by have := HI.out; omega
      have hil' : ¬ ((s.L.length : Nat) : Int) < (s.L.length : Int) := by omega
      have HX := Lib.hid (ix_none (x := x) (L := s.L) (by have := HI.out.2; rwa [List.take_length] at this))
      clear hil
      go_wp2_with fail
      go_ret
      exact ⟨by unfold ixI; rw [HX.out]; rfl, rfl⟩
end
end Go.Proofs.Ytgdgonmhgpflcaa
