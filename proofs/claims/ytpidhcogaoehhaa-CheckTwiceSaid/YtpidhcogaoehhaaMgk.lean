import Derived.Test.YtpidhcogaoehhaaMgg
import Derived.Maps.RangeWalk
import Derived.Test.YtpidhcogaoehhaaMgc
import Derived.Test.YtpidhcogaoehhaaRows
import Derived.Test.YtpidhcogaoehhaaMga
import Derived.Shelf.Sort.Plain
import Derived.Shelf.Slices.In.SortNone
import Derived.Sort.OwnSortedInts

/- What the program's 'Reaches' keeps in its map, its search, and the row that it sorts: plain. No condition. -/
namespace Go.Proofs.Ytpidhcogaoehhaa
open Go.RowKit Cd Go.Maps
set_option linter.unusedVariables false
set_option linter.unusedSimpArgs false
namespace Cd
abbrev DR := DataW Unit
def KN (x : Int) : Lit := .int .i64 x
def vN (x : Int) : DR := .lit (.int .i64 x)
theorem kn_ne {x y : Int} (h : x ≠ y) : KN x ≠ KN y := fun e => h (by unfold KN at e; injection e)
theorem kn_key (x : Int) : WideAt.IsKeyLit (KN x) := by unfold KN; trivial
/-- The map: 1 at what is met. -/
structure MetM (D : DR) (m : List Bool) : Prop where
  tidy : Tidy D
  has : ∀ x : Int, has D (KN x) = true ↔ ∃ j : Nat, x = (j : Int) ∧ Mt m j
  one : ∀ x : Int, Go.Maps.has D (KN x) = true → ∀ z, D.atKey (KN x) z = vN 1
theorem MetM.zero (n : Nat) : MetM (.map []) (List.replicate n false) := by
  refine ⟨tidy_empty, fun x => ⟨fun h => (by cases h), fun ⟨j, _, h⟩ => ?_⟩, fun x h => (by cases h)⟩
  unfold Mt at h
  rw [List.getElem?_replicate] at h
  split at h <;> simp at h
theorem MetM.put {D : DR} {m : List Bool} {j : Nat} (h : MetM D m) (hj : j < m.length) : MetM (D.put (KN j) (vN 1)) (m.set j true) := by
  refine ⟨h.tidy.put (kn_key _) _, fun x => ?_, fun x hx z => ?_⟩
  · by_cases e : x = (j : Int)
    · subst e
      rw [has_put_same h.tidy.isMap (kn_key _)]
      exact ⟨fun _ => ⟨j, rfl, (met_set hj).2 (.inl rfl)⟩, fun _ => rfl⟩
    · rw [has_put_other (kn_ne e), h.has]
      constructor
      · rintro ⟨i, rfl, hi⟩; exact ⟨i, rfl, (met_set hj).2 (.inr hi)⟩
      · rintro ⟨i, rfl, hi⟩
        rcases (met_set hj).1 hi with rfl | hi
        · exact absurd rfl e
        · exact ⟨i, rfl, hi⟩
  · by_cases e : x = (j : Int)
    · subst e; rw [atKey_put_same h.tidy.isMap (kn_key _)]
    · rw [has_put_other (kn_ne e)] at hx
      rw [atKey_put_other (kn_ne e), h.one x hx]
theorem MetM.get {D : DR} {m : List Bool} {j : Nat} {b : Bool} (h : MetM D m) (hj : m[j]? = some b) : D.atKey (KN j) (vN 0) = vN (if b = true then 1 else 0) := by
  cases b with
  | true => rw [h.one j ((h.has j).2 ⟨j, rfl, hj⟩), if_pos rfl]
  | false =>
    have : Go.Maps.has D (KN j) = false := by
      cases hh : Go.Maps.has D (KN j) with
      | false => rfl
      | true =>
        obtain ⟨i, e, hi⟩ := (h.has j).1 hh
        have : i = j := by omega
        subst this
        unfold Mt at hi
        rw [hj] at hi; cases hi
    rw [atKey_of_not_has this, if_neg (by decide)]
/-! ### The search -/
/-- A search at v, begun with m: k ops are looked at. -/
structure SrO (l : List FunV) (v : Nat) (m c : List Bool) (k : Nat) (ops : List OpV) : Prop where
  len : c.length = l.length
  dfs : Dfs l v (Mt m) (Mt c)
  tg : ∀ a (h : a < ops.length), a < k → ops[a].k = 12 → ∀ j : Nat, ops[a].n = (j : Int) → Mt c j
  cnt : cnt m ≤ cnt c
/-- Behind it. -/
structure SrE (l : List FunV) (v : Nat) (m c : List Bool) : Prop where
  len : c.length = l.length
  dfs : Dfs l v (Mt m) (Mt c)
  tg : ∀ j, Fk l v j → Mt c j
  cnt : Cd.cnt m ≤ Cd.cnt c
theorem SrO.start {l : List FunV} {v : Nat} {m : List Bool} {ops : List OpV} (h : m.length = l.length) : SrO l v m m 0 ops := ⟨h, .refl _ _ _, fun a _ h => absurd h (Nat.not_lt_zero _), Nat.le_refl _⟩
theorem SrO.keep {l : List FunV} {v : Nat} {m c : List Bool} {k : Nat} {ops : List OpV} (h : SrO l v m c k ops) (hk : k < ops.length) (hno : ∀ j : Nat, ops[k].k = 12 → ops[k].n = (j : Int) → Mt c j) : SrO l v m c (k + 1) ops :=
  ⟨h.len, h.dfs, fun a ha hlt hka j hj => by
    rcases Nat.lt_or_ge a k with h2 | h2
    · exact h.tg a ha h2 hka j hj
    · have : a = k := by omega
      subst this; exact hno j hka hj, h.cnt⟩
theorem SrO.fork {l : List FunV} {v : Nat} {m c d : List Bool} {k j : Nat} {ops : List OpV} (h : SrO l v m c k ops) (hk : k < ops.length) (hv : v < l.length) (ho : ops = l[v].ops) (h12 : ops[k].k = 12) (hn : ops[k].n = (j : Int)) (hj : j < l.length) (hd : SrE l j (c.set j true) d) : SrO l v m d (k + 1) ops := by
  have hjc : j < c.length := by rw [h.len]; exact hj
  have he : Fk l v j := ⟨hv, ops[k], by subst ho; exact List.getElem_mem hk, h12, hn⟩
  have hs : ∀ u, Mt c u → Mt d u := fun u hu => hd.dfs.sub u ((met_set hjc).2 (.inr hu))
  have hjd : Mt d j := hd.dfs.sub j ((met_set hjc).2 (.inl rfl))
  have e : Dfs l j (fun u => Mt c u ∨ u = j) (Mt d) := ⟨fun u hu => hd.dfs.sub u ((met_set hjc).2 hu.symm), fun u hu hm => hd.dfs.new u hu fun h2 => hm ((met_set hjc).1 h2).symm⟩
  refine ⟨hd.len, h.dfs.step he e hd.tg, fun a ha hlt hka j' hj' => ?_, Nat.le_trans h.cnt (Nat.le_trans (cnt_set hjc).1 hd.cnt)⟩
  rcases Nat.lt_or_ge a k with h2 | h2
  · exact hs _ (h.tg a ha h2 hka j' hj')
  · have : a = k := by omega
    subst this
    have e : (j : Int) = (j' : Int) := hn.symm.trans hj'
    have : j = j' := by omega
    subst this; exact hjd
theorem SrO.out {l : List FunV} {v : Nat} {m c : List Bool} {k : Nat} {ops : List OpV} (h : SrO l v m c k ops) (hv : v < l.length) (ho : ops = l[v].ops) (hk : k = ops.length) : SrE l v m c := by
  refine ⟨h.len, h.dfs, fun j he => ?_, h.cnt⟩
  obtain ⟨hi', o, hm, h12, hn⟩ := he
  rw [← ho] at hm
  obtain ⟨a, ha, rfl⟩ := List.getElem_of_mem hm
  exact h.tg a ha (by omega) h12 j hn
/-- Of a search that began with none. -/
theorem SrE.all {l : List FunV} {v : Nat} {c : List Bool} {n : Nat} (h : SrE l v (List.replicate n false) c) (j : Nat) : Mt c j ↔ Rch l v j := by
  have e : Dfs l v (fun _ => False) (Mt c) := ⟨fun _ hf => hf.elim, fun u hu _ => h.dfs.new u hu fun h2 => by
    unfold Mt at h2
    rw [List.getElem?_replicate] at h2
    split at h2 <;> simp at h2⟩
  obtain ⟨h1, h2⟩ := e.clos h.tg
  exact clos_iff h2 h1 j
/-! ### The keys, as they come -/
structure Gath (D : DR) (left : Lit → Bool) (g : List Int) : Prop where
  sub : ∀ x : Int, left (KN x) = true → has D (KN x) = true
  mem : ∀ x : Int, x ∈ g ↔ has D (KN x) = true ∧ left (KN x) = false
  nodup : g.Nodup
theorem Gath.start (D : DR) : Gath D (has D) [] := ⟨fun _ h => h, fun x => by simp, List.nodup_nil⟩
theorem Gath.step {D : DR} {left : Lit → Bool} {g : List Int} {x : Int} (h : Gath D left g) (hx : left (KN x) = true) : Gath D (fun z => left z && !z.sameKey (KN x)) (g ++ [x]) := by
  have hself : (KN x).sameKey (KN x) = true := WideAt.sameKey_self (kn_key x)
  refine ⟨fun y hy => h.sub y (by simp only [Bool.and_eq_true] at hy; exact hy.1), fun y => ?_, ?_⟩
  · rw [List.mem_append, List.mem_singleton]
    by_cases e : y = x
    · subst e
      simp only [hself, Bool.not_true, Bool.and_false, and_true]
      exact ⟨fun _ => h.sub y hx, fun _ => .inr trivial⟩
    · rw [sameKey_ne (kn_ne e), Bool.not_false, Bool.and_true, ← h.mem y]
      exact ⟨fun h2 => h2.elim id (fun h2 => absurd h2 e), .inl⟩
  · rw [List.nodup_append]
    refine ⟨h.nodup, by simp, fun a ha b hb => ?_⟩
    rw [List.mem_singleton] at hb
    subst hb
    intro e
    subst e
    rw [h.mem, hx] at ha
    exact absurd ha.2 (by decide)
theorem Gath.bound {D : DR} {left : Lit → Bool} {g : List Int} {m : List Bool} (h : Gath D left g) (hm : MetM D m) : g.length ≤ m.length ∧ ∀ x ∈ g, 0 ≤ x ∧ x < m.length := by
  have hb : ∀ x ∈ g, 0 ≤ x ∧ x < m.length := fun x hx => by
    obtain ⟨j, rfl, hj⟩ := (hm.has x).1 ((h.mem x).1 hx).1
    unfold Mt at hj
    have := (List.getElem?_eq_some_iff.1 hj).1
    omega
  refine ⟨?_, hb⟩
  have := List.Nodup.length_le_of_subset (l₂ := (List.range m.length).map Int.ofNat) h.nodup (fun x hx => by
    have := hb x hx
    exact List.mem_map.2 ⟨x.toNat, List.mem_range.2 (by omega), by show ((x.toNat : Nat) : Int) = x; omega⟩)
  simpa using this
theorem reach_sorted (l : List FunV) (fn : Nat) : ((reachL l fn).map Int.ofNat).Pairwise (· < ·) := by
  unfold reachL
  rw [List.pairwise_map]
  exact (List.Pairwise.filter _ List.pairwise_lt_range).imp (fun h => by show ((_ : Nat) : Int) < ((_ : Nat) : Int); omega)
theorem mem_reachL (l : List FunV) (fn j : Nat) : j ∈ reachL l fn ↔ j < l.length ∧ Rch l fn j := by
  unfold reachL
  rw [List.mem_filter, List.mem_range]
  simp
theorem Gath.end {D : DR} {left : Lit → Bool} {g : List Int} {m : List Bool} {l : List FunV} {fn : Nat} (h : Gath D left g) (hm : MetM D m) (hl : m.length = l.length) (hr : ∀ j, Mt m j ↔ Rch l fn j) (h0 : ∀ kl, left kl = false) :
    (g.mergeSort fun x y => decide (x ≤ y)) = (reachL l fn).map Int.ofNat := by
  refine List.Perm.eq_of_pairwise (le := (· ≤ ·)) (fun a b _ _ h1 h2 => by omega) ?_ ((reach_sorted l fn).imp (fun h => by omega)) ?_
  · have := List.pairwise_mergeSort (le := fun x y : Int => decide (x ≤ y)) (fun a b c h1 h2 => by simp at *; omega) (fun a b => by simp; omega) g
    exact this.imp (fun h => by simpa using h)
  · refine (List.mergeSort_perm _ _).trans ((List.perm_ext_iff_of_nodup h.nodup ((reach_sorted l fn).imp (fun h => by omega))).2 fun x => ?_)
    rw [h.mem, hm.has, List.mem_map]
    constructor
    · rintro ⟨⟨j, rfl, hj⟩, _⟩
      refine ⟨j, (mem_reachL _ _ _).2 ⟨?_, (hr j).1 hj⟩, rfl⟩
      unfold Mt at hj
      have := (List.getElem?_eq_some_iff.1 hj).1
      omega
    · rintro ⟨j, hj, rfl⟩
      exact ⟨⟨j, rfl, (hr j).2 ((mem_reachL _ _ _).1 hj).2⟩, h0 _⟩
end Cd
end Go.Proofs.Ytpidhcogaoehhaa


/- The walk of the program's search (the closure of 'Reaches'). No condition but that rows are not too long and numbers fit their kinds. -/
namespace Go.Proofs.Ytpidhcogaoehhaa
open Go.RowKit Cd Go.Maps
set_option linter.unusedVariables false
set_option linter.unusedSimpArgs false
theorem kdN : Keyed Try.prog 3 := int_keyed Try.underlying3
theorem zN (w : World) : (zeroValue 3).run Try.prog w = .ok (.int .i64 0) w := Try.zeroValue3 w
theorem keyN {x : Int} (h : (Lit.int .i64 x).wf = true) : keyOf Try.prog 3 (.int .i64 x) = some (KN x) := keyOf_int_mk Try.underlying3 h
abbrev NM (w : World) (b n : Nat) (D : DR) : Prop := w.ownsMap Try.prog 3 (plainElem Try.prog 3) b n D
def closV (P Mc Fc : Nat) : Value := .func (.func 21) #[] #[.pointer (some ⟨P, 0, none⟩), .pointer (some ⟨Mc, 0, none⟩), .pointer (some ⟨Fc, 0, none⟩)]
/-- The program in block P0, the map in Mb, its variable in Mc, the closure's in Fc. -/
structure DsW (W : World) (x : Value) (Mb Mc Fc : Nat) (D : DR) (n : Nat) (wr : World) : Prop where
  t0 : Blk wr W.heap.size 24 #[x]
  t1 : Blk wr Mc 55 #[.map (some Mb)]
  t2 : Blk wr Fc 56 #[closV W.heap.size Mc Fc]
  om : NM wr Mb n D
  bel : Below W.heap.size W wr
  ap : W.heap.size < Mb ∧ Mb < Mc
theorem DsW.step {W : World} {x : Value} {Mb Mc Fc n : Nat} {D : DR} {w w' : World} (h : DsW W x Mb Mc Fc D n w) (k : Below w.heap.size w w') : DsW W x Mb Mc Fc D n w' :=
  ⟨h.t0.below k, h.t1.below k, h.t2.below k, h.om.kept (row := none) ⟨k.os, k.tape, k.output, k.size, fun i hi _ => k.block i hi⟩ (by simp), h.bel.step k, h.ap⟩
theorem DsW.alloc {W : World} {x : Value} {Mb Mc Fc n : Nat} {D : DR} {w : World} (h : DsW W x Mb Mc Fc D n w) (o : Obj) : DsW W x Mb Mc Fc D n (w.alloc o) := h.step ((Below.refl _ _).alloc (Nat.le_refl _) o)
theorem only_ofG {b : Nat} {w w' : World} (h : w.grownBy w' (some b)) : Only (· = b) w w' := ⟨h.os, h.tape, h.output, h.size, fun i hi hne => h.block i hi (fun e => hne (by injection e))⟩
theorem DsW.put {W : World} {x : Value} {Mb Mc Fc n n' : Nat} {D D' : DR} {w w' : World} (h : DsW W x Mb Mc Fc D n w) (o : NM w' Mb n' D') (g : w.grownBy w' (some Mb)) : DsW W x Mb Mc Fc D' n' w' := by
  have hap := h.ap
  have hF : Fc ≠ Mb := fun e => by
    obtain ⟨es, cl, hb, _⟩ := h.om
    have := h.t2
    unfold Blk at this
    rw [e, hb] at this; cases this
  exact ⟨h.t0.only (only_ofG g) (by omega), h.t1.only (only_ofG g) (by omega), h.t2.only (only_ofG g) hF, o, h.bel.trans ((only_ofG g).below (B := W.heap.size) h.bel.size (fun k hk => by omega)), h.ap⟩
theorem litN_inj {q : IntKind} {a b : Int} (h : (DataW.lit (.int q a) : DR) = .lit (.int q b)) : a = b := by cases h; rfl
theorem DsW.look {W : World} {x : Value} {Mb Mc Fc n : Nat} {D : DR} {w : World} (h : DsW W x Mb Mc Fc D n w) {m : List Bool} (hm : MetM D m) {j : Nat} {b : Bool} (hj : m[j]? = some b) (hw : (Lit.int .i64 (j : Int)).wf = true) :
    (Instr.lookup 55 (.map (some Mb)) (.int .i64 (j : Int)) false).run Try.prog w = .ok (.int .i64 (if b = true then 1 else 0)) w := by
  obtain ⟨c, hrun, hat, _⟩ := h.om.lookup_int kdN Try.underlying55 Try.underlying3 (zN w) (keyN hw)
  rw [hrun]
  rw [litN_inj (hat.symm.trans (hm.get hj))]
/-- In a search at v, begun with m. -/
def DsRel (W : World) (l : List FunV) (v : Nat) (m : List Bool) (ops : List OpV) (x : Value) (Mb Mc Fc : Nat) (u : Value) (wr : World) : Prop := ∃ (k : Nat) (c : List Bool) (D : DR), k ≤ ops.length ∧ u = .int .i64 k ∧ SrO l v m c k ops ∧ MetM D c ∧ DsW W x Mb Mc Fc D (cnt c) wr
def DsPost (W : World) (l : List FunV) (v : Nat) (m : List Bool) (x : Value) (Mb Mc Fc : Nat) (e : Ending) (w' : World) : Prop := e = .returned (.tuple #[]) ∧ ∃ (c : List Bool) (D : DR), SrE l v m c ∧ MetM D c ∧ DsW W x Mb Mc Fc D (cnt c) w'
set_option maxRecDepth 100000 in
set_option maxHeartbeats 4000000 in
theorem search_any {W : World} {x : Value} {l : List FunV} {Mb Mc Fc : Nat} (hx : FunsAt W x l) (hl : Lim l) (hfz : ∀ f ∈ l, funE l f = none) (hn : l.length ≤ 16) :
    ∀ (fuel : Nat) (v : Nat) (m : List Bool) (D : DR) (w : World), m.length = l.length → l.length - cnt m ≤ fuel → v < l.length → MetM D m → DsW W x Mb Mc Fc D (cnt m) w →
    Calls Try.prog 21 #[.int .i64 (v : Nat), .pointer (some ⟨W.heap.size, 0, none⟩), .pointer (some ⟨Mc, 0, none⟩), .pointer (some ⟨Fc, 0, none⟩)] w (DsPost W l v m x Mb Mc Fc) := by
  intro fuel
  induction fuel using Nat.strongRecOn with
  | _ fuel IH => ?_
  intro v m D w hm hf hv hMM hX
  have IH2 := Lib.hid IH
  have hl60 := hl.1
  have HLI := Lib.hid hl.2
  have HFZ := Lib.hid hfz
  clear hl hfz IH
  have HST : Hid (DsRel W l v m l[v].ops x Mb Mc Fc (.int .i64 0) w) := Lib.hid ⟨0, m, D, by omega, rfl, .start hm, hMM, hX⟩
  have hfl := HLI.out _ (List.getElem_mem hv)
  have hff := HFZ.out _ (List.getElem_mem hv)
  have HIN := Lib.hid (fun o ho hk => fork_in hff (o := o) ho hk)
  have HFM := Lib.hid (show l.length - cnt m ≤ fuel from hf)
  have HML := Lib.hid hm
  obtain ⟨p, cap, rfl⟩ := hx.slice
  have p0 : w.cell? ⟨W.heap.size, 0, none⟩ = some (.slice p l.length cap) := hX.t0.cell 0
  obtain ⟨p', c', e1, hy⟩ := hx
  injection e1 with e1 _ e3
  subst e1 e3
  obtain ⟨g, off, rfl, hg, hy⟩ := hy (by omega)
  obtain ⟨_, _, vo, x2, hvo⟩ := hy v hv
  obtain ⟨pj, cj, rfl⟩ := hvo.slice
  rw [← hX.bel.cell (p := ⟨g, _, none⟩) hg] at x2
  have HVO := Lib.hid hvo
  have hvv : (v : Int) < (l.length : Int) := by omega
  have hvv0 : (0 : Int) ≤ (v : Int) := by omega
  have hm0 : W.heap.size < w.heap.size := hX.t0.lt
  clear hff hm hf hMM hX hvo hy
  generalize hops : l[v].ops = ops at *
  have HOPS := Lib.hid hops
  clear hops
  go_enter Try.func21, Try.ntmps21
  go_wp2_with fail
  go_loopw [15] (fun u wr => DsRel W l v m ops (.slice (some ⟨g, off, none⟩) l.length cap) Mb Mc Fc u wr) (fun u _ => ((ops.length : Int) - intOf u).toNat)
  case atStart => exact HST.out
  case round =>
    clear p0 x2
    obtain ⟨k, c, D, hk1, rfl, hO, hM, hX⟩ := hrel
    have HX := Lib.hid hX
    have HM := Lib.hid hM
    have HO := Lib.hid hO
    by_cases hk : k < ops.length
    · have hkk : (k : Int) < (ops.length : Int) := by omega
      have hkk0 : (0 : Int) ≤ (k : Int) := by omega
      obtain ⟨pj', cj', e1, hz⟩ := HVO.out
      injection e1 with e1 _ e3
      subst e1 e3
      obtain ⟨g5, off5, rfl, hg5, hz⟩ := hz (by omega)
      have w0 := hz k hk 0 (by decide)
      have w1 := hz k hk 1 (by decide)
      have w2 := hz k hk 2 (by decide)
      have w3 := hz k hk 3 (by decide)
      have w4 := hz k hk 4 (by decide)
      rw [← hX.bel.cell (p := ⟨g5, _, none⟩) hg5] at w0 w1 w2 w3 w4
      have hg5l : g5 < wr.heap.size := Nat.lt_of_lt_of_le hg5 hX.bel.size
      by_cases h12 : ops[k].k = 12
      · have hin := HIN.out _ (List.getElem_mem hk) h12
        unfold inB at hin
        simp only [Bool.and_eq_true, decide_eq_true_eq] at hin
        obtain ⟨j, hn⟩ : ∃ j : Nat, ops[k].n = (j : Int) := ⟨ops[k].n.toNat, by omega⟩
        have hj : j < l.length := by omega
        have hjc : j < c.length := by rw [hO.len]; exact hj
        have hjw : (Lit.int .i64 (j : Int)).wf = true := WalkArith.wf_i64 (by omega)
        have LK := fun o => (hX.alloc o).look hM (List.getElem?_eq_getElem hjc) hjw
        have q1 : wr.cell? ⟨Mc, 0, none⟩ = some (.map (some Mb)) := hX.t1.cell 0
        have q2 : wr.cell? ⟨Fc, 0, none⟩ = some (.func (.func 21) #[] #[.pointer (some ⟨W.heap.size, 0, none⟩), .pointer (some ⟨Mc, 0, none⟩), .pointer (some ⟨Fc, 0, none⟩)]) := hX.t2.cell 0
        have q1l := hX.t1.lt
        have q2l := hX.t2.lt
        have HJW := Lib.hid hjw
        clear hX hM hO hz hin hjw
        cases hcb : c[j] with
        | true =>
          rw [hcb] at LK
          have LK' : ∀ o, (Instr.lookup 55 (.map (some Mb)) (.int .i64 (j : Int)) false).run Try.prog (wr.alloc o) = .ok (.int .i64 1) (wr.alloc o) := LK
          have HNX := Lib.hid (HO.out.keep hk (fun i _ hi => by
            have : i = j := by omega
            subst this
            unfold Mt
            rw [List.getElem?_eq_getElem hjc, hcb]))
          clear LK hcb
          generalize ops[k] = o at *
          obtain ⟨ok, od, oa, ob, on⟩ := o
          simp only at h12 hn
          subst h12
          subst hn
          simp only [opA, List.getElem?_toArray, List.getElem?_cons_zero, List.getElem?_cons_succ, Nat.add_zero] at w0 w1 w2 w3 w4
          go_wp2_with fail
          go_roundw
          case rel => exact ⟨k + 1, c, D, by omega, rfl, HNX.out, HM.out, HX.out.alloc _⟩
          case measure => simp [intOf]; omega
        | false =>
          rw [hcb] at LK
          have LK' : ∀ o, (Instr.lookup 55 (.map (some Mb)) (.int .i64 (j : Int)) false).run Try.prog (wr.alloc o) = .ok (.int .i64 0) (wr.alloc o) := LK
          have hcs := (cnt_set hjc).2 hcb
          have hcl : cnt (c.set j true) ≤ l.length := by have := cnt_le (c.set j true); rw [List.length_set, HO.out.len] at this; exact this
          have HCS := Lib.hid hcs
          have HCL := Lib.hid hcl
          have HSL := Lib.hid (show (c.set j true).length = l.length by rw [List.length_set]; exact HO.out.len)
          have HK := Lib.hid (fun (d : List Bool) (hd : SrE l j (c.set j true) d) => HO.out.fork hk hv HOPS.out.symm h12 hn hj hd)
          clear LK hcb hcs hcl
          generalize ops[k] = o at *
          obtain ⟨ok, od, oa, ob, on⟩ := o
          simp only at h12 hn
          subst h12
          subst hn
          simp only [opA, List.getElem?_toArray, List.getElem?_cons_zero, List.getElem?_cons_succ, Nat.add_zero] at w0 w1 w2 w3 w4
          go_wp2_with (first | (at_mapUpdate; refine wpList_mapUpdate_own _ rfl _ _ _ 55 rfl 3 3 kdN Try.underlying55 _ Mb (cnt c) D rfl (HX.out.alloc _).om (by have := HCS.out; have := HCL.out; unfold maxLen; omega) _ _ (KN (j : Int)) rfl rfl (keyN HJW.out) (vN 1) [] (plainElem_int Try.underlying3 (by decide)) ?_; intro w5 o5 g5; rw [← HCS.out] at o5; have HX5 := Lib.hid ((HX.out.alloc _).put o5 g5); have HM5 := Lib.hid (HM.out.put hjc); have r2 : w5.cell? ⟨Fc, 0, none⟩ = some (.func (.func 21) #[] #[.pointer (some ⟨W.heap.size, 0, none⟩), .pointer (some ⟨Mc, 0, none⟩), .pointer (some ⟨Fc, 0, none⟩)]) := HX5.out.t2.cell 0; clear o5 g5) | (go_at_call 21; refine (IH2.out (l.length - cnt (c.set j true)) (by have := HCS.out; have := HCL.out; have := HFM.out; have := HO.out.cnt; omega) j (c.set j true) _ w5 HSL.out (Nat.le_refl _) hj HM5.out HX5.out).mono ?_; rintro e w6 ⟨rfl, d, D6, hE6, hM6, hX6⟩; have HE6 := Lib.hid hE6; have HM6 := Lib.hid hM6; have HX6 := Lib.hid hX6; clear hE6 hM6 hX6))
          go_roundw
          case rel => exact ⟨k + 1, d, D6, by omega, rfl, HK.out d HE6.out, HM6.out, HX6.out⟩
          case measure => simp [intOf]; omega
      · have HNX := Lib.hid (HO.out.keep hk (fun i h => absurd h h12))
        have h12' : (ops[k].k == 12) = false := by simpa using h12
        clear hX hM hO hz h12
        generalize ops[k] = o at *
        obtain ⟨ok, od, oa, ob, on⟩ := o
        simp only at h12'
        simp only [opA, List.getElem?_toArray, List.getElem?_cons_zero, List.getElem?_cons_succ, Nat.add_zero] at w0 w1 w2 w3 w4
        go_wp2_with fail
        go_roundw
        case rel => exact ⟨k + 1, c, D, by omega, rfl, HNX.out, HM.out, HX.out.alloc _⟩
        case measure => simp [intOf]; omega
    · have : k = ops.length := by omega
      have HE := Lib.hid (HO.out.out hv HOPS.out.symm this)
      subst this
      clear hX hM hO
      go_wp2_with fail
      go_end0
      exact ⟨rfl, c, D, HE.out, HM.out, HX.out⟩
end Go.Proofs.Ytpidhcogaoehhaa


/- The library's contract of slices.Sort at []int, laid at this program: each body is the kernel's comparison. No condition. -/
namespace Go.Proofs.Ytpidhcogaoehhaa
open Go.RowKit Go.Shelf
set_option linter.unusedVariables false
namespace Srt
/-- The library's numbers at this program. -/
def ren : Ren := ⟨fun n => if n = 125 then 39 else if n = 128 then 67 else if n = 129 then 68 else if n = 189 then 22 else if n = 215 then 89 else if n = 216 then 64 else if n = 257 then 38 else if n = 294 then 58 else if n = 295 then 59 else if n = 296 then 60 else if n = 297 then 61 else if n = 298 then 62 else if n = 299 then 63 else if n = 300 then 65 else if n = 301 then 66 else if n = 328 then 84 else if n = 329 then 85 else if n = 330 then 86 else if n = 331 then 87 else if n = 332 then 88 else if n = 343 then 93 else 0,
  fun n => if n = 0 then 0 else if n = 3 then 3 else if n = 4 then 4 else if n = 5 then 5 else if n = 9 then 9 else if n = 28 then 36 else if n = 46 then 77 else if n = 51 then 118 else if n = 53 then 60 else if n = 131 then 115 else if n = 182 then 109 else if n = 183 then 110 else if n = 218 then 140 else if n = 222 then 100 else if n = 228 then 149 else if n = 229 then 150 else 0, fun n => n⟩
set_option maxRecDepth 100000 in
theorem lays189 : Lays.n189 Try.prog ren where
  mixed := by kernel_rfl
  f125 := by kernel_rfl
  f128 := by kernel_rfl
  f129 := by kernel_rfl
  f189 := by kernel_rfl
  f215 := by kernel_rfl
  f216 := by kernel_rfl
  f257 := by kernel_rfl
  f294 := by kernel_rfl
  f295 := by kernel_rfl
  f296 := by kernel_rfl
  f297 := by kernel_rfl
  f298 := by kernel_rfl
  f299 := by kernel_rfl
  f300 := by kernel_rfl
  f301 := by kernel_rfl
  f328 := by kernel_rfl
  f329 := by kernel_rfl
  f330 := by kernel_rfl
  f331 := by kernel_rfl
  f332 := by kernel_rfl
  f343 := by kernel_rfl
  t0 := by kernel_rfl
  a0 := fun w => by kernel_rfl
  z0 := fun w => by kernel_rfl
  v0 := fun w => by kernel_rfl
  t3 := by kernel_rfl
  a3 := fun w => by kernel_rfl
  z3 := fun w => by kernel_rfl
  v3 := fun w => by kernel_rfl
  t4 := by kernel_rfl
  a4 := fun w => by kernel_rfl
  z4 := fun w => by kernel_rfl
  v4 := fun w => by kernel_rfl
  t5 := by kernel_rfl
  a5 := fun w => by kernel_rfl
  z5 := fun w => by kernel_rfl
  v5 := fun w => by kernel_rfl
  t9 := by kernel_rfl
  a9 := fun w => by kernel_rfl
  z9 := fun w => by kernel_rfl
  v9 := fun w => by kernel_rfl
  t28 := by kernel_rfl
  a28 := fun w => by kernel_rfl
  z28 := fun w => by kernel_rfl
  v28 := fun w => by kernel_rfl
  t46 := by kernel_rfl
  a46 := fun w => by kernel_rfl
  z46 := fun w => by kernel_rfl
  v46 := fun w => by kernel_rfl
  t51 := by kernel_rfl
  a51 := fun w => by kernel_rfl
  z51 := fun w => by kernel_rfl
  v51 := fun w => by kernel_rfl
  t53 := by kernel_rfl
  a53 := fun w => by kernel_rfl
  z53 := fun w => by kernel_rfl
  v53 := fun w => by kernel_rfl
  t131 := by kernel_rfl
  a131 := fun w => by kernel_rfl
  z131 := fun w => by kernel_rfl
  v131 := fun w => by kernel_rfl
  t182 := by kernel_rfl
  a182 := fun w => by kernel_rfl
  z182 := fun w => by kernel_rfl
  v182 := fun w => by kernel_rfl
  t183 := by kernel_rfl
  a183 := fun w => by kernel_rfl
  z183 := fun w => by kernel_rfl
  v183 := fun w => by kernel_rfl
  t218 := by kernel_rfl
  a218 := fun w => by kernel_rfl
  z218 := fun w => by kernel_rfl
  v218 := fun w => by kernel_rfl
  t222 := by kernel_rfl
  a222 := fun w => by kernel_rfl
  z222 := fun w => by kernel_rfl
  v222 := fun w => by kernel_rfl
  t228 := by kernel_rfl
  a228 := fun w => by kernel_rfl
  z228 := fun w => by kernel_rfl
  v228 := fun w => by kernel_rfl
  t229 := by kernel_rfl
  a229 := fun w => by kernel_rfl
  z229 := fun w => by kernel_rfl
  v229 := fun w => by kernel_rfl
end Srt
end Go.Proofs.Ytpidhcogaoehhaa


/- A row of the call's own, sorted by the library. No condition but that it is not too long. -/
namespace Go.Proofs.Ytpidhcogaoehhaa
open Go.RowKit
set_option linter.unusedVariables false
set_option linter.unusedSimpArgs false
theorem sort_own {w : World} {B : Nat} {v : Value} {ss : List Int} (h : w.ownsRow B 3 1 v ss.length (ss.map (Value.int .i64))) (hs : ss.length < 1000000) :
    Calls Try.prog 22 #[v] w fun e w' => e = .returned (.tuple #[]) ∧ w'.ownsRow B 3 1 v (ss.mergeSort fun x y => decide (x ≤ y)).length ((ss.mergeSort fun x y => decide (x ≤ y)).map (Value.int .i64)) ∧ w.grownBy w' v.ownBlock := by
  have hl : (ss.mergeSort fun x y => decide (x ≤ y)).length = ss.length := by simp
  rcases h.2 with ⟨rfl, h0⟩ | ⟨g, cap, cur, rfl, hbase, hb, h1, h2, h3, h4⟩
  · have : ss = [] := List.eq_nil_of_length_eq_zero h0
    subst this
    refine (Any.slices_Sort_int_none Srt.lays189 none 0 w).mono ?_
    rintro e w' ⟨rfl, rfl⟩
    exact ⟨rfl, ⟨by simp, .inl ⟨rfl, by simp⟩⟩, ⟨rfl, rfl, rfl, Nat.le_refl _, fun i _ _ => rfl⟩⟩
  · refine (Any.slices_Sort_int Srt.lays189 g 0 cap ss w (holds_of_blockI hb (by simpa using h4)) (Array.getElem?_eq_some_iff.1 hb).1 (by omega)).mono ?_
    rintro e w' ⟨rfl, n, os, rfl⟩
    refine ⟨rfl, ?_, grownBy_sortedI _⟩
    rw [hl]
    exact ownsRow_sortedI hl hbase hb h1 h2 h3
end Go.Proofs.Ytpidhcogaoehhaa
