import Derived.Test.YtlahficmkfgooaaGreatMgg
import Derived.Maps.OwnOps
import Derived.DeepKeys4
import Derived.Sort.MapsRangeIn
import Derived.Test.YtlahficmkfgooaaGreatRows
import Derived.Test.YtlahficmkfgooaaGreatMga
import Derived.Sort.Statements
import Derived.Sort.LotA
import Derived.Deep.QuietTactic
import Derived.BigQuiet
import Derived.Sort.LotB
import Derived.Sort.LotC

/- A map of the call's own that holds a list of things, each under a key of its own: what it yields, what a store and a deletion leave. No condition. -/
namespace Go.Proofs.YtlahficmkfgooaaGreat
open Go.RowKit Go.Maps
set_option linter.unusedVariables false
namespace Ml
abbrev DV := DataW Unit
variable {α : Type}
/-- How things lie in a map: their keys, their values, their data. -/
structure Lay (α : Type) where
  key : α → Lit
  val : α → Value
  dat : α → DV
  rd : Value → Option (DV × List MemPlace)
  rdm : ∀ a, rd (val a) = some (dat a, [])
  inv : ∀ v a ps, rd v = some (dat a, ps) → v = val a
  lit : ∀ a, WideAt.IsKeyLit (key a)
variable (l : Lay α)
/-- The map in block h holds the things of L. -/
def At (P : Program) (K : TypeId) (w : World) (h : Nat) (L : List α) (N : Nat) : Prop :=
  ∃ D : DV, w.ownsMap P K l.rd h N D ∧ (∀ a ∈ L, ∀ zd, D.atKey (l.key a) zd = l.dat a) ∧ (∀ k, Maps.has D k = true ↔ ∃ a ∈ L, l.key a = k) ∧ Maps.size D = L.length
variable {l}
section
variable {P : Program} {K : TypeId} {w w' : World} {h N : Nat} {L : List α}
theorem At.kept (m : At l P K w h L N) {row : Option Nat} (hg : w.grownBy w' row) (hne : some h ≠ row) : At l P K w' h L N := by
  obtain ⟨D, o, r⟩ := m; exact ⟨D, o.kept hg hne, r⟩
theorem At.lt (m : At l P K w h L N) : h < w.heap.size := by obtain ⟨D, o, r⟩ := m; exact o.lt
theorem At.mono (m : At l P K w h L N) {M : Nat} (hm : N ≤ M) : At l P K w h L M := by obtain ⟨D, o, r⟩ := m; exact ⟨D, o.mono hm, r⟩
theorem At.only {S : Nat → Prop} (m : At l P K w h L N) (ho : Only S w w') (hs : ¬ S h) : At l P K w' h L N := by
  have hl := m.lt
  obtain ⟨D, ⟨es, clock, hb, F, hs', hD⟩, r⟩ := m
  exact ⟨D, ⟨es, clock, (ho.block h hl hs).trans hb, F, hs', hD⟩, r⟩
theorem At.below (m : At l P K w h L N) (hb : Below w.heap.size w w') : At l P K w' h L N := m.only (Only.of_below (S := fun _ => False) hb) id
theorem At.no_cells (m : At l P K w h L N) {T : TypeId} {A : Array Value} (hk : Blk w h T A) : False := by
  obtain ⟨D, ⟨es, clock, hb, _⟩, _⟩ := m
  unfold Blk at hk
  rw [hk] at hb; cases hb
theorem At.look (m : At l P K w h L N) (kd : Keyed P K) {T V : TypeId} (ht : P.underlying T = some (.map K V)) {z : α} (hz : (zeroValue V).run P w = .ok (l.val z) w) {a : α} (ha : a ∈ L) {k : Value} (hk : keyOf P K k = some (l.key a)) :
    (Instr.lookup T (.map (some h)) k true).run P w = .ok (.tuple #[l.val a, .bool true]) w := by
  obtain ⟨D, o, h1, h2, h3⟩ := m
  obtain ⟨v, ps, hr, hv⟩ := World.ownsMap.look_ok o kd ht hz (l.rdm z) hk
  rw [h1 a ha] at hv
  rw [hr, l.inv _ _ _ hv, (h2 (l.key a)).2 ⟨a, ha, rfl⟩]
theorem At.miss (m : At l P K w h L N) (kd : Keyed P K) {T V : TypeId} (ht : P.underlying T = some (.map K V)) {z : α} (hz : (zeroValue V).run P w = .ok (l.val z) w) {kl : Lit} (ha : ¬ ∃ a ∈ L, l.key a = kl) {k : Value} (hk : keyOf P K k = some kl) :
    (Instr.lookup T (.map (some h)) k true).run P w = .ok (.tuple #[l.val z, .bool false]) w := by
  obtain ⟨D, o, h1, h2, h3⟩ := m
  obtain ⟨v, ps, hr, hv⟩ := World.ownsMap.look_ok o kd ht hz (l.rdm z) hk
  have hf : Maps.has D kl = false := by
    cases hh : Maps.has D kl with
    | false => rfl
    | true => exact absurd ((h2 kl).1 hh) ha
  rw [atKey_of_not_has hf] at hv
  rw [hr, l.inv _ _ _ hv, hf]
theorem At.at (m : At l P K w h L N) (kd : Keyed P K) {T V : TypeId} (ht : P.underlying T = some (.map K V)) {z : Value} {zd : DV} (hz : (zeroValue V).run P w = .ok z w) (hzd : l.rd z = some (zd, [])) {a : α} (ha : a ∈ L) {k : Value} (hk : keyOf P K k = some (l.key a)) :
    (Instr.lookup T (.map (some h)) k false).run P w = .ok (l.val a) w := by
  obtain ⟨D, o, h1, h2, h3⟩ := m
  obtain ⟨v, ps, hr, hv⟩ := World.ownsMap.lookup o kd ht hz hzd hk
  rw [h1 a ha] at hv
  rw [hr, l.inv _ _ _ hv]
/-- The datum behind a store of what was not there. -/
theorem put_ok {D : DV} (hD : IsMap D) (hT : Tidy D) (h1 : ∀ a ∈ L, ∀ zd, D.atKey (l.key a) zd = l.dat a) (h2 : ∀ k, Maps.has D k = true ↔ ∃ a ∈ L, l.key a = k) (h3 : Maps.size D = L.length) (g : α) (hn : ¬ ∃ a ∈ L, l.key a = l.key g) :
    (∀ a ∈ L ++ [g], ∀ zd, (D.put (l.key g) (l.dat g)).atKey (l.key a) zd = l.dat a) ∧ (∀ k, Maps.has (D.put (l.key g) (l.dat g)) k = true ↔ ∃ a ∈ L ++ [g], l.key a = k) ∧ Maps.size (D.put (l.key g) (l.dat g)) = (L ++ [g]).length := by
  have hk := l.lit g
  have hf : Maps.has D (l.key g) = false := by
    cases hh : Maps.has D (l.key g) with
    | false => rfl
    | true => exact absurd ((h2 _).1 hh) hn
  refine ⟨fun a ha zd => ?_, fun x => ?_, ?_⟩
  · rcases List.mem_append.1 ha with ha | ha
    · rw [atKey_put_other (fun e => hn ⟨a, ha, e⟩), h1 a ha]
    · simp at ha; subst ha; exact atKey_put_same hD hk _ _
  · by_cases hx : x = l.key g
    · subst hx
      rw [has_put_same hD hk]
      exact ⟨fun _ => ⟨g, by simp, rfl⟩, fun _ => rfl⟩
    · rw [has_put_other hx, h2 x]
      constructor
      · rintro ⟨a, ha, e⟩; exact ⟨a, by simp [ha], e⟩
      · rintro ⟨a, ha, e⟩
        rcases List.mem_append.1 ha with ha | ha
        · exact ⟨a, ha, e⟩
        · simp at ha; subst ha; exact absurd e.symm hx
  · rw [size_put hT, hf]; simp [h3]
/-- .. of another thing under a key that was there. -/
theorem set_ok [DecidableEq Lit] {D : DV} (hD : IsMap D) (hT : Tidy D) (h1 : ∀ a ∈ L, ∀ zd, D.atKey (l.key a) zd = l.dat a) (h2 : ∀ k, Maps.has D k = true ↔ ∃ a ∈ L, l.key a = k) (h3 : Maps.size D = L.length) (g : α) (hy : ∃ a ∈ L, l.key a = l.key g) :
    (∀ a ∈ L.map (fun a => if l.key a = l.key g then g else a), ∀ zd, (D.put (l.key g) (l.dat g)).atKey (l.key a) zd = l.dat a) ∧ (∀ k, Maps.has (D.put (l.key g) (l.dat g)) k = true ↔ ∃ a ∈ L.map (fun a => if l.key a = l.key g then g else a), l.key a = k) ∧ Maps.size (D.put (l.key g) (l.dat g)) = (L.map (fun a => if l.key a = l.key g then g else a)).length := by
  have hk := l.lit g
  have hf : Maps.has D (l.key g) = true := (h2 _).2 hy
  have hkey : ∀ a, l.key (if l.key a = l.key g then g else a) = l.key a := fun a => by split <;> simp_all
  refine ⟨fun a ha zd => ?_, fun x => ?_, ?_⟩
  · obtain ⟨b, hb, rfl⟩ := List.mem_map.1 ha
    by_cases he : l.key b = l.key g
    · rw [if_pos he]; exact atKey_put_same hD hk _ _
    · rw [if_neg he, atKey_put_other he, h1 b hb]
  · by_cases hx : x = l.key g
    · subst hx
      rw [has_put_same hD hk]
      obtain ⟨a, ha, e⟩ := hy
      exact ⟨fun _ => ⟨_, List.mem_map.2 ⟨a, ha, rfl⟩, by rw [hkey, e]⟩, fun _ => rfl⟩
    · rw [has_put_other hx, h2 x]
      constructor
      · rintro ⟨a, ha, e⟩; exact ⟨_, List.mem_map.2 ⟨a, ha, rfl⟩, by rw [hkey, e]⟩
      · rintro ⟨a, ha, e⟩
        obtain ⟨b, hb, rfl⟩ := List.mem_map.1 ha
        exact ⟨b, hb, by rw [← e, hkey]⟩
  · rw [size_put hT, hf]; simp [h3]
theorem filter_len {key : α → Lit} {x : Lit} [DecidableEq Lit] : ∀ (L : List α), L.Pairwise (fun a b => key a ≠ key b) → (L.filter (fun g => !(decide (key g = x)))).length + (if L.any (fun g => decide (key g = x)) then 1 else 0) = L.length := by
  intro L hl
  induction L with
  | nil => rfl
  | cons a L ih =>
    obtain ⟨ha, hl⟩ := List.pairwise_cons.1 hl
    have := ih hl
    rw [List.filter_cons, List.any_cons, List.length_cons]
    by_cases he : key a = x
    · have hno : L.any (fun g => decide (key g = x)) = false := by
        rw [List.any_eq_false]; intro g hg; have := ha g hg; simp; intro e; exact this (he.trans e.symm)
      rw [hno] at this ⊢
      simp only [he, decide_true, Bool.not_true, Bool.true_or, if_true]
      simp at this ⊢; omega
    · simp only [he, decide_false, Bool.not_false, if_true, Bool.false_or, List.length_cons]; omega
/-- The datum behind a deletion. -/
theorem del_ok [DecidableEq Lit] {D : DV} (hD : IsMap D) (hT : Tidy D) (h1 : ∀ a ∈ L, ∀ zd, D.atKey (l.key a) zd = l.dat a) (h2 : ∀ k, Maps.has D k = true ↔ ∃ a ∈ L, l.key a = k) (h3 : Maps.size D = L.length) (hnd : L.Pairwise (fun a b => l.key a ≠ l.key b)) (x : Lit) :
    (∀ a ∈ L.filter (fun g => !(decide (l.key g = x))), ∀ zd, (D.del x).atKey (l.key a) zd = l.dat a) ∧ (∀ k, Maps.has (D.del x) k = true ↔ ∃ a ∈ L.filter (fun g => !(decide (l.key g = x))), l.key a = k) ∧ Maps.size (D.del x) = (L.filter (fun g => !(decide (l.key g = x)))).length := by
  refine ⟨fun a ha zd => ?_, fun k => ?_, ?_⟩
  · obtain ⟨hm, hne⟩ := List.mem_filter.1 ha
    rw [atKey_del_other (by simpa using hne), h1 a hm]
  · by_cases hx : k = x
    · subst hx
      rw [has_del_same]
      simp
    · rw [has_del_other hx, h2 k]
      constructor
      · rintro ⟨a, ha, e⟩; exact ⟨a, List.mem_filter.2 ⟨ha, by simp [e, hx]⟩, e⟩
      · rintro ⟨a, ha, e⟩; exact ⟨a, (List.mem_filter.1 ha).1, e⟩
  · have hs := size_del (k := x) hT
    have h4 := filter_len (key := l.key) (x := x) L hnd
    have h5 : Maps.has D x = L.any (fun g => decide (l.key g = x)) := by
      rw [Bool.eq_iff_iff, h2 x, List.any_eq_true]; simp
    rw [h5, h3] at hs
    omega
theorem At.of_put {D : DV} (kd : Keyed P K) (o : w.ownsMap P K l.rd h N D) (h1 : ∀ a ∈ L, ∀ zd, D.atKey (l.key a) zd = l.dat a) (h2 : ∀ k, Maps.has D k = true ↔ ∃ a ∈ L, l.key a = k) (h3 : Maps.size D = L.length) {g : α} (hn : ¬ ∃ a ∈ L, l.key a = l.key g)
    {M : Nat} (o' : w'.ownsMap P K l.rd h M (D.put (l.key g) (l.dat g))) : At l P K w' h (L ++ [g]) M := by
  obtain ⟨p1, p2, p3⟩ := put_ok o.isMap (o.tidy kd) h1 h2 h3 g hn
  exact ⟨_, o', p1, p2, p3⟩
theorem At.of_set [DecidableEq Lit] {D : DV} (kd : Keyed P K) (o : w.ownsMap P K l.rd h N D) (h1 : ∀ a ∈ L, ∀ zd, D.atKey (l.key a) zd = l.dat a) (h2 : ∀ k, Maps.has D k = true ↔ ∃ a ∈ L, l.key a = k) (h3 : Maps.size D = L.length) {g : α} (hy : ∃ a ∈ L, l.key a = l.key g)
    {M : Nat} (o' : w'.ownsMap P K l.rd h M (D.put (l.key g) (l.dat g))) : At l P K w' h (L.map (fun a => if l.key a = l.key g then g else a)) M := by
  obtain ⟨p1, p2, p3⟩ := set_ok o.isMap (o.tidy kd) h1 h2 h3 g hy
  exact ⟨_, o', p1, p2, p3⟩
theorem At.of_del [DecidableEq Lit] {D : DV} (kd : Keyed P K) (o : w.ownsMap P K l.rd h N D) (h1 : ∀ a ∈ L, ∀ zd, D.atKey (l.key a) zd = l.dat a) (h2 : ∀ k, Maps.has D k = true ↔ ∃ a ∈ L, l.key a = k) (h3 : Maps.size D = L.length) (hnd : L.Pairwise (fun a b => l.key a ≠ l.key b)) {x : Lit}
    {M : Nat} (o' : w'.ownsMap P K l.rd h M (D.del x)) : At l P K w' h (L.filter (fun g => !(decide (l.key g = x)))) M := by
  obtain ⟨p1, p2, p3⟩ := del_ok o.isMap (o.tidy kd) h1 h2 h3 hnd x
  exact ⟨_, o', p1, p2, p3⟩
/-- A map that was made just now. -/
theorem At.made (w : World) (P : Program) (K : TypeId) (l : Lay α) : At l P K (w.alloc (.map #[] 0)) w.heap.size [] 0 :=
  ⟨_, World.ownsMap_made (H := Unit) w P K l.rd, (fun a ha => by simp at ha), (fun k => by simp [Maps.has]), rfl⟩
end
end Ml
end Go.Proofs.YtlahficmkfgooaaGreat


/- 'm[k], ..= v, ..': the place for a key made ahead of the store: a map of the call's own, a key that is not there. No condition. -/
namespace Go.Proofs.YtlahficmkfgooaaGreat
open Go.RowKit Go.Maps Go.MapKept Go.ChangeMaps Go.WideElems
set_option linter.unusedVariables false
set_option linter.unusedSimpArgs false
namespace Ml
section
variable {H : Type} {P : Program} {k e t : TypeId} {R : Value → Option (DataW H × List MemPlace)} {w : World} {b n : Nat} {D : DataW H}
/-- The map with a place for the key, still zero. -/
def Pend (P : Program) (k : TypeId) (R : Value → Option (DataW H × List MemPlace)) (b n : Nat) (D : DataW H) (kl : Lit) (stamp : Value) (w : World) : Prop :=
  ∃ es clock key z, w.heap[b]? = some (.map (es.push ⟨key, z, clock⟩) (clock + 1)) ∧ stamp = goInt clock ∧ Stamped es clock ∧
    ∀ val d ps, R val = some (d, ps) → Fit P k R (es.push ⟨key, val, clock⟩) (clock + 1) ∧ (es.push ⟨key, val, clock⟩).size ≤ n + 1 ∧ D.put kl d = .map (((es.push ⟨key, val, clock⟩).toList.map (rg P k R)).foldr DataW.insert [])
theorem Pend.only {S : Nat → Prop} {kl : Lit} {st : Value} {w' : World} (h : Pend P k R b n D kl st w) (ho : Only S w w') (hs : ¬ S b) : Pend P k R b n D kl st w' := by
  obtain ⟨es, clock, key, z, hb, r⟩ := h
  exact ⟨es, clock, key, z, (ho.block b (Array.getElem?_eq_some_iff.1 hb).1 hs).trans hb, r⟩
theorem entry_new (h : w.ownsMap P k R b n D) (K : Keyed P k) (ht : P.underlying t = some (.map k e)) (hn : n < maxLen) {key z : Value} {kl : Lit} (hkey : keyOf P k key = some kl) (hf : Maps.has D kl = false) (hz : (zeroValue e).run P w = .ok z w) {zd : DataW H} {zp : List MemPlace} (hzr : R z = some (zd, zp)) :
    ∃ st w1, (Instr.mapEntry t (.map (some b)) key).run P w = .ok (.tuple #[z, st]) w1 ∧ Pend P k R b n D kl st w1 ∧ w.grownBy w1 (some b) := by
  obtain ⟨es, clock, hb, F, hs, hD⟩ := h
  rcases K.find w hkey es.toList F.keys with ⟨h1, h2⟩ | ⟨j, e0, h1, h2, h3⟩
  · refine ⟨goInt clock, setBlock w b (.map (es.push ⟨key, z, clock⟩) (clock + 1)), ?_, ⟨es, clock, key, z, heap_setBlock_same hb _, rfl, F.stamped, fun val d ps hv => ?_⟩, ⟨rfl, rfl, rfl, by simp [setBlock], fun i _ hi => heap_setBlock_other hb _ (fun e => hi (by rw [e]))⟩⟩
    · simp only [Instr.mapEntry, Sem.run_bind, run_underlying ht, MapKept.run_getObj_map hb, K.check w false hkey, h1, Result.andThen]
      simp [hz, MapKept.run_setObj_map _ hb, setBlock]
    · obtain ⟨es', clock', hrun, F', hput, _⟩ := Maps.fit_store (R' := R) K ht hb F (Nat.lt_of_le_of_lt hs hn) (fun _ _ _ _ hz => hz) hkey hv
      have hrun2 : (Instr.mapUpdate t (.map (some b)) key val).run P w = .ok () (setBlock w b (.map (es.push ⟨key, val, clock⟩) (clock + 1))) := by
        simp [Instr.mapUpdate, run_underlying ht, MapKept.run_getObj_map hb, K.check w false hkey, h1, MapKept.run_setObj_map _ hb, Result.andThen, setBlock]
      rw [hrun2] at hrun
      injection hrun with _ hw
      have e1 := congrArg (fun w : World => w.heap[b]?) hw
      simp only [heap_setBlock_same hb] at e1
      injection e1 with e1
      injection e1 with e1 e2
      subst e1 e2
      refine ⟨F', by simp; omega, ?_⟩
      rw [hD, DataW.put_eq, hput]
  · exfalso
    have hj : e0 ∈ es.toList := List.mem_of_getElem? h2
    obtain ⟨y, hy⟩ := F.reads e0 hj
    have hat := Maps.fit_look false K ht hz hb F hkey
    rcases hat with ⟨_, hno, _⟩ | ⟨e1, y1, _, _, _, _, hh, _⟩
    · exact hno e0 hj h3
    · rw [hD, has_true_of_atKey hh] at hf; cases hf
theorem entry_store {kl : Lit} {st val : Value} {d : DataW H} {ps : List MemPlace} (h : Pend P k R b n D kl st w) (hv : R val = some (d, ps)) :
    ∃ w', (Instr.entryStore t (.map (some b)) st val).run P w = .ok () w' ∧ w'.ownsMap P k R b (n + 1) (D.put kl d) ∧ w.grownBy w' (some b) := by
  obtain ⟨es, clock, key, z, hb, rfl, hst, hx⟩ := h
  obtain ⟨F, hsz, hD⟩ := hx val d ps hv
  have hidx : (es.push ⟨key, z, clock⟩).findIdx? (fun e => (e.born : Int) == (clock : Int)) = some es.size := by
    rw [Array.findIdx?_push]
    have h0 : es.findIdx? (fun e => (e.born : Int) == (clock : Int)) = none := by
      rw [Array.findIdx?_eq_none_iff]
      intro x hx
      have := ((stamped_iff es clock).1 hst).1 x (by simpa using hx)
      simp
      omega
    rw [h0]
    simp
  have hmod : (es.push (⟨key, z, clock⟩ : MapEntry)).modify es.size (fun e => { e with val := val }) = es.push ⟨key, val, clock⟩ := by
    apply Array.ext
    · simp
    · intro i h1 h2
      rw [Array.getElem_modify]
      by_cases hi : i = es.size
      · subst hi; simp
      · rw [if_neg (fun e => hi e.symm)]
        have hlt : i < es.size := by simp at h2; omega
        rw [Array.getElem_push_lt hlt, Array.getElem_push_lt hlt]
  refine ⟨setBlock w b (.map (es.push ⟨key, val, clock⟩) (clock + 1)), ?_, ⟨_, _, heap_setBlock_same hb _, F, hsz, hD⟩, ⟨rfl, rfl, rfl, by simp [setBlock], fun i _ hi => heap_setBlock_other hb _ (fun e => hi (by rw [e]))⟩⟩
  simp only [Instr.entryStore, Sem.run_bind, MapKept.run_getObj_map hb, Result.andThen]
  simp [asInt, asIntOf, goInt, Result.andThen, hidx, hmod, MapKept.run_setObj_map _ hb, setBlock]
end
end Ml
end Go.Proofs.YtlahficmkfgooaaGreat


/- Rows of uint64 that are sorted: what they hold; cmp.Less; insertionSortOrdered. No condition. -/
namespace Go.Proofs.YtlahficmkfgooaaGreat
open Go.RowKit
set_option linter.unusedVariables false
set_option linter.unusedSimpArgs false
theorem isnan_u (x : Int) (w : World) : Calls Tryz.prog 157 #[.int .u64 x] w fun e w' => e = .returned (.bool false) ∧ w' = w := by
  go_enter Tryz.func157, Tryz.ntmps157
  go_wp2
  go_ret
  simp
theorem less_u (x y : Int) (w : World) : Calls Tryz.prog 140 #[.int .u64 x, .int .u64 y] w fun e w' => e = .returned (.bool (decide (x < y))) ∧ w' = w := by
  go_enter Tryz.func140, Tryz.ntmps140
  go_wp2_with (go_at_call 157; ((with_reducible refine (isnan_u _ _).mono ?_); rintro e w' ⟨rfl, rfl⟩))
  go_ret
  simp
theorem less_t {x y : Int} {b : Bool} (h : decide (x < y) = b) (w : World) : Calls Tryz.prog 140 #[.int .u64 x, .int .u64 y] w fun e w' => e = .returned (.bool b) ∧ w' = w := by
  subst h; exact less_u x y w
namespace Sou
/-- The row's block: d, and what lies behind it. -/
def UR (w : World) (g : Nat) (d : Array Int) (tl : List Value) : Prop := Blk w g 37 (d.map (Value.int .u64) ++ tl.toArray)
theorem UR.cell {w : World} {g : Nat} {d : Array Int} {tl : List Value} (h : UR w g d tl) {i : Nat} (hi : i < d.size) : w.cell? ⟨g, i, none⟩ = some (.int .u64 d[i]!) := by
  rw [(show Blk w g _ _ from h).cell i, Array.getElem?_append_left (by simpa using hi), Array.getElem?_map, getElem!_pos d i hi, Array.getElem?_eq_getElem hi]
  rfl
theorem UR.frozen {w : World} {g : Nat} {d : Array Int} {tl : List Value} (h : UR w g d tl) (i : Nat) : w.frozen? ⟨g, i, none⟩ = false := (show Blk w g _ _ from h).frozen i
theorem UR.lt {w : World} {g : Nat} {d : Array Int} {tl : List Value} (h : UR w g d tl) : g < w.heap.size := (show Blk w g _ _ from h).lt
theorem UR.set {w : World} {g : Nat} {d : Array Int} {tl : List Value} (h : UR w g d tl) {i : Nat} (hi : i < d.size) (x : Int) : UR (w.setCell ⟨g, i, none⟩ (.int .u64 x)) g (d.setIfInBounds i x) tl := by
  have := (show Blk w g _ _ from h).set i (.int .u64 x)
  unfold UR
  have e : (d.map (Value.int .u64) ++ tl.toArray).setIfInBounds i (.int .u64 x) = (d.setIfInBounds i x).map (Value.int .u64) ++ tl.toArray := by
    rw [Array.setIfInBounds_append_left (by simpa using hi), Array.map_setIfInBounds]
  rw [← e]; exact this
theorem UR.drew {w : World} {g : Nat} {d : Array Int} {tl : List Value} (h : UR w g d tl) : UR w.drew g d tl := (show Blk w g _ _ from h).drew
theorem UR.alloc {w : World} {g : Nat} {d : Array Int} {tl : List Value} (h : UR w g d tl) (o : Obj) : UR (w.alloc o) g d tl := (show Blk w g _ _ from h).alloc o
theorem UR.below {w w' : World} {g : Nat} {d : Array Int} {tl : List Value} (h : UR w g d tl) (hb : Below w.heap.size w w') : UR w' g d tl := (show Blk w g _ _ from h).below hb
theorem UR.only {S : Nat → Prop} {w w' : World} {g : Nat} {d : Array Int} {tl : List Value} (h : UR w g d tl) (ho : Only S w w') (hS : ¬ S g) : UR w' g d tl := (show Blk w g _ _ from h).only ho hS
theorem UR.swp {w : World} {g : Nat} {d : Array Int} {tl : List Value} (h : UR w g d tl) {i j : Nat} (hi : i < d.size) (hj : j < d.size) : UR ((w.setCell ⟨g, i, none⟩ (.int .u64 d[j]!)).setCell ⟨g, j, none⟩ (.int .u64 d[i]!)) g (Sort.swp d i j) tl :=
  (h.set hi _).set (by simpa using hj) _
/-- The row, and that nothing else has turned. -/
structure UW (w0 : World) (g : Nat) (d : Array Int) (tl : List Value) (w : World) : Prop where
  r : UR w g d tl
  o : Only (· = g) w0 w
theorem UW.drew {w0 : World} {g : Nat} {d : Array Int} {tl : List Value} {w : World} (h : UW w0 g d tl w) : UW w0 g d tl w.drew := ⟨h.r.drew, h.o.drew⟩
theorem UW.drewN {w0 : World} {g : Nat} {d : Array Int} {tl : List Value} {w : World} (h : UW w0 g d tl w) (n : Nat) : UW w0 g d tl (w.drewN n) := ⟨h.r, ⟨h.o.os, h.o.tape, h.o.output, h.o.size, h.o.block⟩⟩
theorem UW.alloc {w0 : World} {g : Nat} {d : Array Int} {tl : List Value} {w : World} (h : UW w0 g d tl w) (o : Obj) : UW w0 g d tl (w.alloc o) := ⟨h.r.alloc o, h.o.alloc o⟩
theorem UW.swp {w0 : World} {g : Nat} {d : Array Int} {tl : List Value} {w : World} (h : UW w0 g d tl w) {i j : Nat} (hi : i < d.size) (hj : j < d.size) : UW w0 g (Sort.swp d i j) tl ((w.setCell ⟨g, i, none⟩ (.int .u64 d[j]!)).setCell ⟨g, j, none⟩ (.int .u64 d[i]!)) :=
  ⟨h.r.swp hi hj, h.o.set1.set1⟩
theorem UW.then {w0 w : World} {g : Nat} {d d' : Array Int} {tl : List Value} {w' : World} (h : UW w0 g d tl w) (k : UW w g d' tl w') : UW w0 g d' tl w' := ⟨k.r, h.o.trans k.o⟩
def UPost (w0 : World) (g : Nat) (d : Array Int) (tl : List Value) (e : Ending) (w' : World) : Prop := e = .returned (.tuple #[]) ∧ UW w0 g d tl w'
end Sou
end Go.Proofs.YtlahficmkfgooaaGreat


/- The walk of insertionSortOrdered at uint64. No condition but that the row is not too long. -/
namespace Go.Proofs.YtlahficmkfgooaaGreat
open Go.RowKit Sou
set_option linter.unusedVariables false
set_option linter.unusedSimpArgs false
namespace Sou
open Go.Sort in
theorem insOuter_lt {a b i : Nat} {d : Array Int} (h : i < b) : insOuter ltInt a b i d = insOuter ltInt a b (i + 1) (insInner ltInt a i d) := by rw [insOuter, if_pos h]
open Go.Sort in
theorem insOuter_ge {a b i : Nat} {d : Array Int} (h : ¬ i < b) : insOuter ltInt a b i d = d := by rw [insOuter, if_neg h]
open Go.Sort in
theorem insInner_yes {a j : Nat} {d : Array Int} (h : a < j + 1) (hl : decide (d[j + 1]! < d[j]!) = true) : insInner ltInt a (j + 1) d = insInner ltInt a j (swp d (j + 1) j) := by
  rw [insInner, if_pos (by simp only [Bool.and_eq_true, decide_eq_true_eq]; exact ⟨h, hl⟩)]
open Go.Sort in
theorem insInner_no {a j : Nat} {d : Array Int} (hl : decide (d[j + 1]! < d[j]!) = false) : insInner ltInt a (j + 1) d = d := by
  rw [insInner, if_neg (by simp only [Bool.and_eq_true, decide_eq_true_eq]; intro h; have := h.2; unfold ltInt at this; rw [hl] at this; cases this)]
open Go.Sort in
theorem insInner_stop {a j : Nat} {d : Array Int} (h : j ≤ a) : insInner ltInt a j d = d := by
  cases j with
  | zero => rfl
  | succ j => rw [insInner, if_neg (by simp only [Bool.and_eq_true, decide_eq_true_eq]; omega)]
def InsO (w0 : World) (g a b n : Nat) (R : Array Int) (tl : List Value) (u : Value) (wr : World) : Prop := ∃ (i : Nat) (d : Array Int), a + 1 ≤ i ∧ (i ≤ b ∨ i = a + 1) ∧ u = .int .i64 i ∧ d.size = n ∧ Go.Sort.insOuter Go.Sort.ltInt a b i d = R ∧ UW w0 g d tl wr
def InsI (w0 : World) (g a i n : Nat) (R : Array Int) (tl : List Value) (u : Value) (wr : World) : Prop := ∃ (j : Nat) (d : Array Int), a ≤ j ∧ j ≤ i ∧ u = .int .i64 j ∧ d.size = n ∧ Go.Sort.insInner Go.Sort.ltInt a j d = R ∧ UW w0 g d tl wr
end Sou
set_option maxRecDepth 100000 in
set_option maxHeartbeats 4000000 in
theorem ins_u {w : World} {g n cap a b : Nat} {d : Array Int} {tl : List Value} (h : UR w g d tl) (hn : d.size = n) (hab : a ≤ b) (hb : b ≤ n) (hs : n ≤ 1000000) :
    Calls Tryz.prog 134 #[.slice (some ⟨g, 0, none⟩) n cap, .int .i64 (a : Int), .int .i64 (b : Int)] w (UPost w g (Go.Sort.insertionSort Go.Sort.ltInt d a b) tl) := by
  have hz : InsO w g a b n (Go.Sort.insertionSort Go.Sort.ltInt d a b) tl (.int .i64 ((a + 1 : Nat) : Int)) w := ⟨a + 1, d, Nat.le_refl _, .inr rfl, rfl, hn, rfl, h, Only.refl _ _⟩
  generalize Go.Sort.insertionSort Go.Sort.ltInt d a b = R at *
  clear h hn
  have HZ := Lib.hid hz
  clear hz
  have e1 : wrap64 ((a : Int) + 1) = ((a + 1 : Nat) : Int) := by unfold wrap64; omega
  go_enter Tryz.func134, Tryz.ntmps134
  go_wp2_with fail
  go_loopw [6] (fun u wr => InsO w g a b n R tl u wr) (fun u _ => ((b : Int) - intOf u).toNat)
  case atStart => exact HZ.out
  case round =>
    clear HZ e1
    obtain ⟨i, dc, hi0, hi1, rfl, hdn, hR, hU⟩ := hrel
    obtain ⟨wz, rfl⟩ : ∃ wz, wz = wr := ⟨_, rfl⟩
    have HR := Lib.hid hR
    have HU := Lib.hid hU
    have HDN := Lib.hid hdn
    clear hR hU hdn
    by_cases hi : i < b
    · have hib : (i : Int) < (b : Int) := by omega
      have hz2 : InsI w g a i n (Go.Sort.insInner Go.Sort.ltInt a i dc) tl (.int .i64 i) wz := ⟨i, dc, by omega, Nat.le_refl _, rfl, HDN.out, rfl, HU.out⟩
      have hR2 := insOuter_lt (a := a) (d := dc) hi
      rw [HR.out] at hR2
      have HR2 := Lib.hid hR2
      have HZ2 := Lib.hid hz2
      clear hz2 hR2 HR HU HDN
      generalize Go.Sort.insInner Go.Sort.ltInt a i dc = R2 at *
      go_wp2_with fail
      go_loopw [7] (fun u wr => InsI w g a i n R2 tl u wr) (fun u _ => (intOf u).toNat)
      case atStart => exact HZ2.out
      case round =>
        clear HZ2
        obtain ⟨j, dj, hj0, hj1, rfl, hdn, hS, hU⟩ := hrel
        have HS := Lib.hid hS
        have HU := Lib.hid hU
        have HDN := Lib.hid hdn
        by_cases hja : a < j
        · obtain ⟨j, rfl⟩ : ∃ k, j = k + 1 := ⟨j - 1, by omega⟩
          have c1 := hU.r.cell (i := j + 1) (by omega)
          have c0 := hU.r.cell (i := j) (by omega)
          have hf := hU.r.frozen
          have hyes := insInner_yes (d := dj) hja
          have hno := insInner_no (a := a) (j := j) (d := dj)
          have hsz : (Go.Sort.swp dj (j + 1) j).size = n := by rw [Go.Sort.swp_size]; exact hdn
          have HY := Lib.hid hyes
          have HNO := Lib.hid hno
          have HSZ := Lib.hid hsz
          clear hyes hno hsz hS hU hdn
          generalize dj[j + 1]! = x1 at *
          generalize dj[j]! = x0 at *
          have hja' : (a : Int) < (j : Int) + 1 := by omega
          have hjn : (j : Int) + 1 < (n : Int) := by omega
          have hjn0 : (j : Int) < (n : Int) := by omega
          have hj00 : (0 : Int) ≤ (j : Int) := by omega
          have hj1 : (0 : Int) ≤ (j : Int) + 1 := by omega
          have ej : IntKind.i64.wrap ((j : Int) + 1 - 1) = (j : Int) := by rw [IntKind.wrap_i64]; omega
          have HC := Lib.hid (And.intro c0 (And.intro c1 hf))
          clear c0 c1 hf
          cases hlt : decide (x1 < x0) with
          | true =>
            have HN := Lib.hid (HY.out hlt)
            have HLT := Lib.hid hlt
            clear HNO HY hlt
            have c0 := HC.out.1
            have c1 := HC.out.2.1
            go_upto_region 4 with fail
            go_quiet ((go_at_call 140; exact Calls.quiet_of_same (less_t HLT.out _)))
            go_wp2_with fail
            have hU2 := HU.out.drewN nq
            clear c0 c1 HC
            generalize wr.drewN nq = wx at *
            have c1 := hU2.r.cell (i := j + 1) (by have := HDN.out; omega)
            have c0 := hU2.r.cell (i := j) (by have := HDN.out; omega)
            have hf := hU2.r.frozen
            have hsw := (hU2.swp (i := j + 1) (j := j) (by have := HDN.out; omega) (by have := HDN.out; omega)).drew
            have HSW := Lib.hid hsw
            clear hsw hU2 HU HLT
            generalize dj[j + 1]! = y1 at *
            generalize dj[j]! = y0 at *
            go_region
            go_wp2_with fail
            go_roundw
            case rel => exact ⟨j, _, by omega, by omega, rfl, HSZ.out, by rw [← HN.out]; exact HS.out, HSW.out⟩
            case measure => simp [intOf]
          | false =>
            have HN := Lib.hid (HNO.out hlt)
            have HLT := Lib.hid hlt
            clear HNO HY hlt
            have c0 := HC.out.1
            have c1 := HC.out.2.1
            go_upto_region 4 with fail
            go_quiet ((go_at_call 140; exact Calls.quiet_of_same (less_t HLT.out _)))
            go_wp2_with fail
            go_roundw
            case rel => exact ⟨i + 1, dj, by omega, by omega, rfl, HDN.out, by rw [HR2.out, ← HS.out, HN.out], HU.out.drewN _⟩
            case measure => simp [intOf]; omega
        · have : j = a := by omega
          subst this
          have hja' : ¬ ((j : Int) < (j : Int)) := by omega
          have hS2 := insInner_stop (d := dj) (Nat.le_refl j)
          rw [HS.out] at hS2
          have HS2 := Lib.hid hS2
          clear hS hS2 hU hdn
          go_upto_region 4 with fail
          go_quiet (fail)
          go_wp2_with fail
          go_roundw
          case rel => exact ⟨i + 1, dj, by omega, by omega, rfl, HDN.out, by rw [HR2.out, HS2.out], HU.out.drewN _⟩
          case measure => simp [intOf]; omega
    · have hR2 := insOuter_ge (a := a) (d := dc) hi
      rw [HR.out] at hR2
      have HR2 := Lib.hid hR2
      have hi' : ¬ (i : Int) < (b : Int) := by omega
      clear hR2
      go_wp2_with fail
      go_end0
      exact ⟨rfl, by rw [HR2.out]; exact HU.out⟩
end Go.Proofs.YtlahficmkfgooaaGreat


/- The walks of siftDownOrdered and heapSortOrdered at uint64. No condition but that the row is not too long. -/
namespace Go.Proofs.YtlahficmkfgooaaGreat
open Go.RowKit Sou
set_option linter.unusedVariables false
set_option linter.unusedSimpArgs false
namespace Sou
open Go.Sort
/-- The greater child. -/
def kidS (hi first r : Nat) (d : Array Int) : Bool := decide (2 * r + 2 < hi) && decide (d[first + (2 * r + 1)]! < d[first + (2 * r + 2)]!)
def kidC (hi first r : Nat) (d : Array Int) : Nat := if kidS hi first r d = true then 2 * r + 2 else 2 * r + 1
theorem sift_stop {hi first r : Nat} {d : Array Int} (h : hi ≤ 2 * r + 1) : siftDown ltInt hi first r d = d := by
  rw [siftDown, dif_pos h]
theorem sift_no {hi first r : Nat} {d : Array Int} (h : ¬ hi ≤ 2 * r + 1) (hl : decide (d[first + r]! < d[first + kidC hi first r d]!) = false) : siftDown ltInt hi first r d = d := by
  rw [siftDown, dif_neg h]
  unfold kidC kidS at hl
  by_cases h2 : 2 * r + 1 + 1 < hi
  · by_cases hk : d[first + (2 * r + 1)]! < d[first + (2 * r + 2)]!
    · rw [if_pos (by simp [ltInt, h2, hk, show 2 * r + 2 < hi from h2])] at hl
      rw [if_pos (by simp only [Bool.and_eq_true, decide_eq_true_eq]; exact ⟨h2, by simpa [ltInt, Nat.add_assoc] using hk⟩), if_pos (by simpa [ltInt] using hl)]
    · rw [if_neg (by simp [hk])] at hl
      rw [if_neg (by simp only [Bool.and_eq_true, decide_eq_true_eq]; intro h3; exact hk (by simpa [ltInt, Nat.add_assoc] using h3.2)), if_pos (by simpa [ltInt] using hl)]
  · rw [if_neg (by simp; intro h3; omega)] at hl
    rw [if_neg (by simp only [Bool.and_eq_true, decide_eq_true_eq]; intro h3; exact h2 h3.1), if_pos (by simpa [ltInt] using hl)]
theorem sift_yes {hi first r : Nat} {d : Array Int} (h : ¬ hi ≤ 2 * r + 1) (hl : decide (d[first + r]! < d[first + kidC hi first r d]!) = true) : siftDown ltInt hi first r d = siftDown ltInt hi first (kidC hi first r d) (swp d (first + r) (first + kidC hi first r d)) := by
  rw [siftDown, dif_neg h]
  unfold kidC kidS at hl ⊢
  by_cases h2 : 2 * r + 1 + 1 < hi
  · by_cases hk : d[first + (2 * r + 1)]! < d[first + (2 * r + 2)]!
    · have e : (decide (2 * r + 2 < hi) && decide (d[first + (2 * r + 1)]! < d[first + (2 * r + 2)]!)) = true := by simp [hk, show 2 * r + 2 < hi from h2]
      rw [if_pos e] at hl ⊢
      rw [if_pos (by simp only [Bool.and_eq_true, decide_eq_true_eq]; exact ⟨h2, by simpa [ltInt, Nat.add_assoc] using hk⟩), if_neg (by simpa [ltInt] using hl), dif_pos h2]
    · have e : ¬ (decide (2 * r + 2 < hi) && decide (d[first + (2 * r + 1)]! < d[first + (2 * r + 2)]!)) = true := by simp [hk]
      rw [if_neg e] at hl ⊢
      rw [if_neg (by simp only [Bool.and_eq_true, decide_eq_true_eq]; intro h3; exact hk (by simpa [ltInt, Nat.add_assoc] using h3.2)), if_neg (by simpa [ltInt] using hl)]
  · have e : ¬ (decide (2 * r + 2 < hi) && decide (d[first + (2 * r + 1)]! < d[first + (2 * r + 2)]!)) = true := by simp; intro h3; omega
    rw [if_neg e] at hl ⊢
    rw [if_neg (by simp only [Bool.and_eq_true, decide_eq_true_eq]; intro h3; exact h2 h3.1), if_neg (by simpa [ltInt] using hl)]
theorem kidC_bounds {hi first r : Nat} {d : Array Int} (h : ¬ hi ≤ 2 * r + 1) : 2 * r + 1 ≤ kidC hi first r d ∧ kidC hi first r d < hi ∧ r < kidC hi first r d := by
  unfold kidC kidS
  split
  · rename_i e
    simp only [Bool.and_eq_true, decide_eq_true_eq] at e
    omega
  · omega
theorem build_step {hi a k : Nat} {d : Array Int} : heapBuild ltInt hi a (k + 1) d = heapBuild ltInt hi a k (siftDown ltInt hi a k d) := rfl
theorem pop_step {a k : Nat} {d : Array Int} : heapPop ltInt a (k + 1) d = heapPop ltInt a k (siftDown ltInt k a 0 (swp d a (a + k))) := rfl
theorem sift_size (hi first : Nat) : ∀ (f r : Nat), hi - r ≤ f → ∀ d : Array Int, (siftDown ltInt hi first r d).size = d.size := by
  intro f
  induction f with
  | zero => intro r hf d; rw [sift_stop (by omega)]
  | succ f ih =>
    intro r hf d
    by_cases h : hi ≤ 2 * r + 1
    · rw [sift_stop h]
    · obtain ⟨h1, h2, h3⟩ := kidC_bounds (first := first) (d := d) h
      cases hl : decide (d[first + r]! < d[first + kidC hi first r d]!) with
      | false => rw [sift_no h hl]
      | true => rw [sift_yes h hl, ih _ (by omega), swp_size]
def HbR (w0 : World) (g hi a n : Nat) (R : Array Int) (tl : List Value) (u : Value) (wr : World) : Prop := ∃ (k : Nat) (d : Array Int) (i : Int), k ≤ hi + 1 ∧ u = .int .i64 i ∧ i = (k : Int) - 1 ∧ d.size = n ∧ heapBuild ltInt hi a k d = R ∧ UW w0 g d tl wr
def HpR (w0 : World) (g hi a n : Nat) (R : Array Int) (tl : List Value) (u : Value) (wr : World) : Prop := ∃ (k : Nat) (d : Array Int) (i : Int), k ≤ hi ∧ u = .int .i64 i ∧ i = (k : Int) - 1 ∧ d.size = n ∧ heapPop ltInt a k d = R ∧ UW w0 g d tl wr
def SiR (w0 : World) (g hi first n : Nat) (R : Array Int) (tl : List Value) (u : Value) (wr : World) : Prop := ∃ (r : Nat) (d : Array Int), r ≤ 1000000 ∧ u = .int .i64 r ∧ d.size = n ∧ siftDown ltInt hi first r d = R ∧ UW w0 g d tl wr
end Sou
set_option maxRecDepth 100000 in
set_option maxHeartbeats 4000000 in
theorem sift_u {w : World} {g n cap hi first r : Nat} {d : Array Int} {tl : List Value} (h : UR w g d tl) (hn : d.size = n) (hb : first + hi ≤ n) (hr : r ≤ 1000000) (hs : n ≤ 1000000) :
    Calls Tryz.prog 152 #[.slice (some ⟨g, 0, none⟩) n cap, .int .i64 (r : Int), .int .i64 (hi : Int), .int .i64 (first : Int)] w (UPost w g (Go.Sort.siftDown Go.Sort.ltInt hi first r d) tl) := by
  have hz : SiR w g hi first n (Go.Sort.siftDown Go.Sort.ltInt hi first r d) tl (.int .i64 r) w := ⟨r, d, hr, rfl, hn, rfl, h, Only.refl _ _⟩
  generalize Go.Sort.siftDown Go.Sort.ltInt hi first r d = R at *
  clear h hn
  have HZ := Lib.hid hz
  clear hz
  go_enter Tryz.func152, Tryz.ntmps152
  go_wp2_with fail
  go_loopw [8] (fun u wr => SiR w g hi first n R tl u wr) (fun u _ => ((1000000 : Int) + hi - intOf u).toNat)
  case atStart => exact HZ.out
  case round =>
    clear HZ hr
    obtain ⟨r, dc, hr, rfl, hdn, hR, hU⟩ := hrel
    have HR := Lib.hid hR
    have HU := Lib.hid hU
    have HDN := Lib.hid hdn
    clear hR hU hdn
    have ew1 : IntKind.i64.wrap (2 * (r : Int)) = 2 * (r : Int) := by rw [IntKind.wrap_i64]; omega
    have ew2 : IntKind.i64.wrap (2 * (r : Int) + 1) = 2 * (r : Int) + 1 := by rw [IntKind.wrap_i64]; omega
    by_cases hst : hi ≤ 2 * r + 1
    · have hR2 := sift_stop (first := first) (d := dc) hst
      rw [HR.out] at hR2
      have HR2 := Lib.hid hR2
      have hst' : (hi : Int) ≤ 2 * (r : Int) + 1 := by omega
      clear hR2
      go_wp2_with fail
      go_end0
      exact ⟨rfl, by rw [HR2.out]; exact HU.out⟩
    · have hst' : decide ((hi : Int) ≤ 2 * (r : Int) + 1) = false := decide_eq_false (by omega)
      obtain ⟨hc1, hc2, hc3⟩ := kidC_bounds (first := first) (d := dc) hst
      have HNO := Lib.hid (sift_no (first := first) (d := dc) hst)
      have HY := Lib.hid (sift_yes (first := first) (d := dc) hst)
      have hkc : kidC hi first r dc = if kidS hi first r dc = true then 2 * r + 2 else 2 * r + 1 := rfl
      have hks : kidS hi first r dc = (decide (2 * r + 2 < hi) && decide (dc[first + (2 * r + 1)]! < dc[first + (2 * r + 2)]!)) := rfl
      have HKC := Lib.hid hkc
      have HKS := Lib.hid hks
      clear hkc hks
      generalize kidC hi first r dc = c at *
      generalize kidS hi first r dc = s at *
      have ew3 : IntKind.i64.wrap (2 * (r : Int) + 1 + 1) = 2 * (r : Int) + 1 + 1 := by rw [IntKind.wrap_i64]; omega
      go_upto_region 3 with fail
      go_cut [36] (fun v wc => v = .bool s ∧ UW w g dc tl wc)
      case first =>
        by_cases h2 : 2 * r + 2 < hi
        · have h2' : 2 * (r : Int) + 1 + 1 < (hi : Int) := by omega
          have x0 := HU.out.r.cell (i := first + (2 * r + 1)) (by have := HDN.out; omega)
          have x1 := HU.out.r.cell (i := first + (2 * r + 2)) (by have := HDN.out; omega)
          have HLT : Hid (decide (dc[first + (2 * r + 1)]! < dc[first + (2 * r + 2)]!) = s) := Lib.hid (by rw [HKS.out]; simp [h2])
          generalize dc[first + (2 * r + 1)]! = y0 at *
          generalize dc[first + (2 * r + 2)]! = y1 at *
          have ea : IntKind.i64.wrap ((first : Int) + (2 * (r : Int) + 1)) = ((first + (2 * r + 1) : Nat) : Int) := by rw [IntKind.wrap_i64]; omega
          have eb : IntKind.i64.wrap (((first + (2 * r + 1) : Nat) : Int) + 1) = ((first + (2 * r + 2) : Nat) : Int) := by rw [IntKind.wrap_i64]; omega
          have i0 : ((first + (2 * r + 1) : Nat) : Int) < (n : Int) := by omega
          have i1 : ((first + (2 * r + 2) : Nat) : Int) < (n : Int) := by omega
          have j0 : (0 : Int) ≤ ((first + (2 * r + 1) : Nat) : Int) := by omega
          have j1 : (0 : Int) ≤ ((first + (2 * r + 2) : Nat) : Int) := by omega
          generalize first + (2 * r + 1) = A at *
          generalize first + (2 * r + 2) = B at *
          go_quiet ((go_at_call 140; exact Calls.quiet_of_same (less_t HLT.out _)))
          go_wp2_with fail
          go_meet
          exact ⟨rfl, HU.out.drewN _⟩
        · have h2' : decide (2 * (r : Int) + 1 + 1 < (hi : Int)) = false := decide_eq_false (by omega)
          have hs : s = false := by rw [HKS.out]; simp [h2]
          subst hs
          go_quiet (fail)
          go_wp2_with fail
          go_meet
          exact ⟨rfl, HU.out.drewN _⟩
      case rest =>
        obtain ⟨rfl, hU⟩ := hcut
        have HU2 := Lib.hid hU
        clear hU HU
        go_upto_if 36 with fail
        go_cut [9] (fun v wc2 => v = .int .i64 (c : Int) ∧ wc2 = wc)
        case first =>
          have hc := HKC.out
          cases s with
          | true =>
            have hc' : (c : Int) = 2 * (r : Int) + 1 + 1 := by rw [if_pos rfl] at hc; omega
            clear hc
            go_wp2_with fail
            all_goals go_meet
            all_goals exact ⟨by rw [hc'], rfl⟩
          | false =>
            have hc' : (c : Int) = 2 * (r : Int) + 1 := by rw [if_neg (by decide)] at hc; omega
            clear hc
            go_wp2_with fail
            all_goals go_meet
            all_goals exact ⟨by rw [hc'], rfl⟩
        case rest =>
          obtain ⟨rfl, rfl⟩ := hcut
          have ea : IntKind.i64.wrap ((first : Int) + (r : Int)) = ((first + r : Nat) : Int) := by rw [IntKind.wrap_i64]; omega
          have eb : IntKind.i64.wrap ((first : Int) + (c : Int)) = ((first + c : Nat) : Int) := by rw [IntKind.wrap_i64]; omega
          have i0 : ((first + r : Nat) : Int) < (n : Int) := by omega
          have i1 : ((first + c : Nat) : Int) < (n : Int) := by omega
          have j0 : (0 : Int) ≤ ((first + r : Nat) : Int) := by omega
          have j1 : (0 : Int) ≤ ((first + c : Nat) : Int) := by omega
          have hAn : first + r < n := by omega
          have hBn : first + c < n := by omega
          have hAB : ¬ first + r = first + c := by omega
          have hBA : ¬ first + c = first + r := by omega
          have hck : c ≤ 1000000 := by omega
          have hszs : (Go.Sort.swp dc (first + r) (first + c)).size = n := by rw [Go.Sort.swp_size]; exact HDN.out
          have HSZ := Lib.hid hszs
          have HCK := Lib.hid (And.intro hc1 (And.intro hc2 hc3))
          clear HKC HKS hszs ew1 ew2 ew3 hst hst' hc1 hc2 hc3
          generalize first + r = A at *
          generalize first + c = B at *
          have x0 := HU2.out.r.cell (i := A) (by have := HDN.out; omega)
          have x1 := HU2.out.r.cell (i := B) (by have := HDN.out; omega)
          have hsw := fun nq => ((HU2.out.drewN nq).swp (i := A) (j := B) (by have := HDN.out; omega) (by have := HDN.out; omega)).drew
          have HSW := Lib.hid hsw
          have hf := HU2.out.r.frozen
          have HF := Lib.hid hf
          clear hsw hf
          generalize dc[A]! = y0 at *
          generalize dc[B]! = y1 at *
          cases hl : decide (y0 < y1) with
          | false =>
            have HLT := Lib.hid hl
            have HN := Lib.hid (HNO.out hl)
            clear hl HY HNO HSW
            go_upto_region 5 with fail
            go_quiet ((go_at_call 140; exact Calls.quiet_of_same (less_t HLT.out _)))
            go_wp2_with fail
            go_end0
            exact ⟨rfl, by rw [← HR.out, HN.out]; exact HU2.out.drewN _⟩
          | true =>
            have HLT := Lib.hid hl
            have HN := Lib.hid (HY.out hl)
            clear hl HY HNO
            go_upto_region 5 with fail
            go_quiet ((go_at_call 140; exact Calls.quiet_of_same (less_t HLT.out _)))
            have HS2 := Lib.hid (HSW.out nq)
            have z0 : (wc.drewN nq).cell? ⟨g, A, none⟩ = some (.int .u64 y0) := x0
            have z1 : (wc.drewN nq).cell? ⟨g, B, none⟩ = some (.int .u64 y1) := x1
            have hf : ∀ o, (wc.drewN nq).frozen? ⟨g, o, none⟩ = false := HF.out
            clear x0 x1 HSW HF HU2
            generalize wc.drewN nq = wx at *
            go_upto_region 6 with fail
            go_region
            go_wp2_with fail
            go_roundw
            case rel => exact ⟨c, _, hck, rfl, HSZ.out, by rw [← HN.out]; exact HR.out, HS2.out⟩
            case measure => have := HCK.out; simp [intOf]; omega
theorem sift_u0 {w : World} {g n cap hi first : Nat} {d : Array Int} {tl : List Value} (h : UR w g d tl) (hn : d.size = n) (hb : first + hi ≤ n) (hs : n ≤ 1000000) :
    Calls Tryz.prog 152 #[.slice (some ⟨g, 0, none⟩) n cap, .int .i64 0, .int .i64 (hi : Int), .int .i64 (first : Int)] w (UPost w g (Go.Sort.siftDown Go.Sort.ltInt hi first 0 d) tl) := sift_u (r := 0) h hn hb (by omega) hs
set_option maxRecDepth 100000 in
set_option maxHeartbeats 4000000 in
theorem heap_u {w : World} {g n cap a b : Nat} {d : Array Int} {tl : List Value} (h : UR w g d tl) (hn : d.size = n) (hab : a < b) (hb : b ≤ n) (hs : n ≤ 1000000) :
    Calls Tryz.prog 135 #[.slice (some ⟨g, 0, none⟩) n cap, .int .i64 (a : Int), .int .i64 (b : Int)] w (UPost w g (Go.Sort.heapSort Go.Sort.ltInt d a b) tl) := by
  obtain ⟨hi, hhi⟩ : ∃ hi, hi = b - a := ⟨_, rfl⟩
  have hdef : Go.Sort.heapSort Go.Sort.ltInt d a b = Go.Sort.heapPop Go.Sort.ltInt a hi (Go.Sort.heapBuild Go.Sort.ltInt hi a ((hi - 1) / 2 + 1) d) := by rw [hhi]; rfl
  have hz : HbR w g hi a n (Go.Sort.heapBuild Go.Sort.ltInt hi a ((hi - 1) / 2 + 1) d) tl (.int .i64 ((((hi - 1) / 2 + 1 : Nat) : Int) - 1)) w := ⟨(hi - 1) / 2 + 1, d, _, by omega, rfl, rfl, hn, rfl, h, Only.refl _ _⟩
  generalize Go.Sort.heapSort Go.Sort.ltInt d a b = R at *
  generalize Go.Sort.heapBuild Go.Sort.ltInt hi a ((hi - 1) / 2 + 1) d = M at *
  have HDEF := Lib.hid hdef
  clear h hn hdef
  have e1 : IntKind.i64.wrap ((b : Int) - (a : Int)) = (hi : Int) := by rw [IntKind.wrap_i64]; omega
  have e2 : IntKind.i64.wrap ((hi : Int) - 1) = (hi : Int) - 1 := by rw [IntKind.wrap_i64]; omega
  have e3 : ((hi : Int) - 1).tdiv 2 = (((hi - 1) / 2 + 1 : Nat) : Int) - 1 := by
    rw [Int.tdiv_eq_ediv_of_nonneg (by omega)]; omega
  have hihi : a + hi = b := by omega
  have HIB := Lib.hid hihi
  have hi1 : 1 ≤ hi := by omega
  have hin : hi ≤ n := by omega
  clear hhi
  generalize (((hi - 1) / 2 + 1 : Nat) : Int) = z at *
  have ez : IntKind.i64.wrap (z - 1) = z - 1 := by
    rw [IntKind.wrap_i64]
    obtain ⟨k, _, i, _, hk, hi, _⟩ := hz
    injection hk with _ hk
    omega
  have HZ := Lib.hid hz
  clear hz
  go_enter Tryz.func135, Tryz.ntmps135
  go_wp2_with fail
  clear e2 e3 ez
  go_loopw [9] (fun u wr => HbR w g hi a n M tl u wr) (fun u _ => (intOf u + 1).toNat)
  case atStart => exact HZ.out
  case round =>
    clear HZ
    obtain ⟨k, dc, i, hk, rfl, hik, hdn, hR, hU⟩ := hrel
    obtain ⟨wz, rfl⟩ : ∃ wz, wz = wr := ⟨_, rfl⟩
    have HR := Lib.hid hR
    have HU := Lib.hid hU
    have HDN := Lib.hid hdn
    clear hR hU hdn
    rcases Nat.eq_zero_or_pos k with rfl | hk0
    · have hneg : i < 0 := by omega
      have hM : dc = M := HR.out
      have hz2 : HpR w g hi a n R tl (.int .i64 ((hi : Int) - 1)) wz := ⟨hi, dc, _, Nat.le_refl _, rfl, rfl, HDN.out, by rw [hM]; exact HDEF.out.symm, HU.out⟩
      have HZ2 := Lib.hid hz2
      clear hM hz2 HR HU HDN hik hk
      go_wp2_with fail
      go_loopw [10] (fun u wr => HpR w g hi a n R tl u wr) (fun u _ => (intOf u + 1).toNat)
      case atStart => exact HZ2.out
      case round =>
        clear HZ2
        obtain ⟨k, dc, i, hk, rfl, hik, hdn, hR, hU⟩ := hrel
        have HR := Lib.hid hR
        have HU := Lib.hid hU
        have HDN := Lib.hid hdn
        clear hR hU hdn
        rcases Nat.eq_zero_or_pos k with rfl | hk0
        · have hneg : i < 0 := by omega
          clear hik hk
          have hM : dc = R := HR.out
          have HM := Lib.hid hM
          clear hM
          go_wp2_with fail
          go_end0
          exact ⟨rfl, by rw [← HM.out]; exact HU.out⟩
        · obtain ⟨k, rfl⟩ : ∃ k', k = k' + 1 := ⟨k - 1, by omega⟩
          obtain rfl : i = (k : Int) := by omega
          have hst := pop_step (a := a) (k := k) (d := dc)
          rw [HR.out] at hst
          have HST := Lib.hid hst
          have hkk : (0 : Int) ≤ (k : Int) := by omega
          have hsz1 : (Go.Sort.swp dc a (a + k)).size = n := by rw [Go.Sort.swp_size]; exact HDN.out
          have hsw := (HU.out.swp (i := a) (j := a + k) (by have := HDN.out; omega) (by have := HDN.out; omega)).drew
          have HSW := Lib.hid hsw
          have HSZ := Lib.hid hsz1
          have hf := HU.out.r.frozen
          have x0 := HU.out.r.cell (i := a) (by have := HDN.out; omega)
          have x1 := HU.out.r.cell (i := a + k) (by have := HDN.out; omega)
          have ea : IntKind.i64.wrap ((a : Int) + (k : Int)) = ((a + k : Nat) : Int) := by rw [IntKind.wrap_i64]; omega
          have i0 : (a : Int) < (n : Int) := by omega
          have i1 : ((a + k : Nat) : Int) < (n : Int) := by omega
          have j0 : (0 : Int) ≤ (a : Int) := by omega
          have j1 : (0 : Int) ≤ ((a + k : Nat) : Int) := by omega
          clear hst hsw hsz1 HR hik
          have HSF := Lib.hid (fun wc (hU : UW w g (Go.Sort.swp dc a (a + k)) tl wc) => sift_u0 (cap := cap) (hi := k) (first := a) hU.r HSZ.out (by have := HIB.out; omega) hs)
          have HQ := Lib.hid (fun wc (hU : UW w g (Go.Sort.swp dc a (a + k)) tl wc) wd (hV : UW wc g (Go.Sort.siftDown Go.Sort.ltInt k a 0 (Go.Sort.swp dc a (a + k))) tl wd) => hU.then hV)
          have HSZ2 : Hid ((Go.Sort.siftDown Go.Sort.ltInt k a 0 (Go.Sort.swp dc a (a + k))).size = n) := Lib.hid (by rw [sift_size k a k 0 (by omega)]; exact HSZ.out)
          generalize Go.Sort.siftDown Go.Sort.ltInt k a 0 (Go.Sort.swp dc a (a + k)) = D2 at *
          go_upto_region 10 with fail
          go_cut [] (fun wc => UW w g (Go.Sort.swp dc a (a + k)) tl wc)
          case first =>
            rcases Nat.eq_zero_or_pos k with rfl | hk1
            · rw [Nat.add_zero] at x1 HSW ea i1 j1
              clear HSF HQ HSZ2 HSZ HU
              generalize dc[a]! = y0 at *
              go_region
              all_goals (go_wp2_with fail; go_meet)
              all_goals exact HSW.out
            · have hne : ¬ a = a + k := by omega
              have hne2 : ¬ a + k = a := by omega
              have hne3 : ¬ k = 0 := by omega
              clear HSF HQ HSZ2 HSZ HU
              generalize dc[a]! = y0 at *
              generalize dc[a + k]! = y1 at *
              generalize a + k = B at *
              go_region
              all_goals (go_wp2_with fail; go_meet)
              all_goals exact HSW.out
          case rest =>
            have HUC := Lib.hid hcut
            clear hcut x0 x1 hf HSW HU
            go_wp2_with (go_at_call 152; ((with_reducible refine (HSF.out _ HUC.out).mono ?_); rintro e w' ⟨rfl, hV⟩; have HV := Lib.hid (HQ.out _ HUC.out _ hV); clear hV))
            go_roundw
            case rel => exact ⟨k, D2, _, by omega, rfl, rfl, HSZ2.out, HST.out.symm, HV.out⟩
            case measure => simp [intOf]
    · obtain ⟨k, rfl⟩ : ∃ k', k = k' + 1 := ⟨k - 1, by omega⟩
      obtain rfl : i = (k : Int) := by omega
      have hst := build_step (hi := hi) (a := a) (k := k) (d := dc)
      rw [HR.out] at hst
      have HST := Lib.hid hst
      have hkk : (0 : Int) ≤ (k : Int) := by omega
      have HSF := Lib.hid (sift_u (cap := cap) (hi := hi) (first := a) (r := k) HU.out.r HDN.out (by have := HIB.out; omega) (by omega) hs)
      have HQ := Lib.hid (fun wd (hV : UW wz g (Go.Sort.siftDown Go.Sort.ltInt hi a k dc) tl wd) => HU.out.then hV)
      have HSZ2 : Hid ((Go.Sort.siftDown Go.Sort.ltInt hi a k dc).size = n) := Lib.hid (by rw [sift_size hi a hi k (by omega)]; exact HDN.out)
      clear hst HR hik
      generalize Go.Sort.siftDown Go.Sort.ltInt hi a k dc = D2 at *
      go_wp2_with (go_at_call 152; ((with_reducible refine HSF.out.mono ?_); rintro e w' ⟨rfl, hV⟩; have HV := Lib.hid (HQ.out _ hV); clear hV))
      go_roundw
      case rel => exact ⟨k, D2, _, by omega, rfl, rfl, HSZ2.out, HST.out.symm, HV.out⟩
      case measure => simp [intOf]
end Go.Proofs.YtlahficmkfgooaaGreat


/- Two scans of a row of uint64, upward and downward: what they keep. No condition. -/
namespace Go.Proofs.YtlahficmkfgooaaGreat
theorem Sou.w64 {x : Int} (h0 : -1000000000 ≤ x) (h1 : x ≤ 1000000000) : Go.RowKit.wrap64 x = x := by unfold Go.RowKit.wrap64; omega
theorem Sou.w64n {x : Int} {k : Nat} (h : x = k) (hk : k ≤ 1000000000) : Go.RowKit.wrap64 x = (k : Int) := by subst h; exact Sou.w64 (by omega) (by omega)
open Go.RowKit Sou
set_option linter.unusedVariables false
namespace Sou
open Go.Sort in
theorem scanUp_go' (p : Int → Bool) (d : Array Int) (j i : Nat) (h : i ≤ j) (hp : p d[i]! = true) : scanUp p d j i = scanUp p d j (i + 1) := by
  rw [scanUp, if_pos (by simp [h, hp])]
open Go.Sort in
theorem scanUp_end' (p : Int → Bool) (d : Array Int) (j i : Nat) (h : ¬ i ≤ j ∨ p d[i]! = false) : scanUp p d j i = i := by
  rw [scanUp, if_neg (by rcases h with h | h <;> simp [h])]
open Go.Sort in
theorem scanDown_go' (p : Int → Bool) (d : Array Int) (i j : Nat) (h : i ≤ j) (h0 : 1 ≤ j) (hp : p d[j]! = true) : scanDown p d i j = scanDown p d i (j - 1) := by
  obtain ⟨k, rfl⟩ : ∃ k, j = k + 1 := ⟨j - 1, by omega⟩
  rw [scanDown, if_pos (by simp [h, hp])]; rfl
open Go.Sort in
theorem scanDown_end' (p : Int → Bool) (d : Array Int) (i j : Nat) (h : ¬ i ≤ j ∨ p d[j]! = false) : scanDown p d i j = j := by
  cases j with
  | zero => rfl
  | succ k => rw [scanDown, if_neg (by rcases h with h | h <;> simp [h])]
def ScU (w : World) (g : Nat) (d : Array Int) (tl : List Value) (p : Int → Bool) (i0 j0 R : Nat) (u : Value) (wr : World) : Prop := ∃ i : Nat, u = .int .i64 i ∧ i0 ≤ i ∧ i ≤ j0 + 1 ∧ Go.Sort.scanUp p d j0 i = R ∧ UW w g d tl wr
def ScUE (w : World) (g : Nat) (d : Array Int) (tl : List Value) (p : Int → Bool) (i0 j0 R : Nat) (u : Value) (wr : World) : Prop := u = .int .i64 R ∧ i0 ≤ R ∧ R ≤ j0 + 1 ∧ (R ≤ j0 → p d[R]! = false) ∧ UW w g d tl wr
theorem ScUE.of {w : World} {g : Nat} {d : Array Int} {tl : List Value} {p : Int → Bool} {i0 j0 R i : Nat} (h1 : i0 ≤ i) (h2 : i ≤ j0 + 1) (h3 : Go.Sort.scanUp p d j0 i = R) (h : ¬ i ≤ j0 ∨ p d[i]! = false) (wz : World) (hU : UW w g d tl wz) : ScUE w g d tl p i0 j0 R (.int .i64 i) wz := by
  have e : i = R := (scanUp_end' p d j0 i h).symm.trans h3
  subst e
  exact ⟨rfl, h1, h2, fun hl => h.resolve_left (fun k => k hl), hU⟩
def ScD (w : World) (g : Nat) (d : Array Int) (tl : List Value) (q : Int → Bool) (i j0 R : Nat) (u : Value) (wr : World) : Prop := ∃ j : Nat, u = .int .i64 j ∧ j ≤ j0 ∧ i ≤ j + 1 ∧ Go.Sort.scanDown q d i j = R ∧ UW w g d tl wr
def ScDE (w : World) (g : Nat) (d : Array Int) (tl : List Value) (q : Int → Bool) (i j0 R : Nat) (u : Value) (wr : World) : Prop := u = .int .i64 R ∧ R ≤ j0 ∧ i ≤ R + 1 ∧ (i ≤ R → q d[R]! = false) ∧ UW w g d tl wr
theorem ScDE.of {w : World} {g : Nat} {d : Array Int} {tl : List Value} {q : Int → Bool} {i j0 R j : Nat} (h1 : j ≤ j0) (h2 : i ≤ j + 1) (h3 : Go.Sort.scanDown q d i j = R) (h : ¬ i ≤ j ∨ q d[j]! = false) (wz : World) (hU : UW w g d tl wz) : ScDE w g d tl q i j0 R (.int .i64 j) wz := by
  have e : j = R := (scanDown_end' q d i j h).symm.trans h3
  subst e
  exact ⟨rfl, h1, h2, fun hl => h.resolve_left (fun k => k hl), hU⟩
theorem part_split (d : Array Int) (a b pivot i j : Nat) (dk : Array Int) (hdk : dk = Go.Sort.swp d a pivot) (hi : i = Go.Sort.scanUp (fun x => Go.Sort.ltInt x dk[a]!) dk (b - 1) (a + 1)) (hj : j = Go.Sort.scanDown (fun x => !Go.Sort.ltInt x dk[a]!) dk i (b - 1)) :
    (j < i → Go.Sort.partition Go.Sort.ltInt d a b pivot = (j, true, Go.Sort.swp dk j a)) ∧
    (¬ j < i → Go.Sort.partition Go.Sort.ltInt d a b pivot = ((Go.Sort.partLoop Go.Sort.ltInt a (i + 1) (j - 1) (Go.Sort.swp dk i j)).1, false, Go.Sort.swp (Go.Sort.partLoop Go.Sort.ltInt a (i + 1) (j - 1) (Go.Sort.swp dk i j)).2 (Go.Sort.partLoop Go.Sort.ltInt a (i + 1) (j - 1) (Go.Sort.swp dk i j)).1 a)) := by
  subst hdk hi hj
  unfold Go.Sort.partition
  constructor
  · intro h; simp only [gt_iff_lt]; rw [if_pos h]
  · intro h; simp only [gt_iff_lt]; rw [if_neg h]
theorem loop_split (d : Array Int) (a i j i2 j2 : Nat) (hi : i2 = Go.Sort.scanUp (fun x => Go.Sort.ltInt x d[a]!) d j i) (hj : j2 = Go.Sort.scanDown (fun x => !Go.Sort.ltInt x d[a]!) d i2 j) :
    (j2 < i2 → Go.Sort.partLoop Go.Sort.ltInt a i j d = (j2, d)) ∧ (¬ j2 < i2 → Go.Sort.partLoop Go.Sort.ltInt a i j d = Go.Sort.partLoop Go.Sort.ltInt a (i2 + 1) (j2 - 1) (Go.Sort.swp d i2 j2)) := by
  subst hi hj
  constructor
  · intro h; rw [Go.Sort.partLoop_eq, if_pos h]
  · intro h; rw [Go.Sort.partLoop_eq, if_neg h]
theorem eq_split (d : Array Int) (a i j i2 j2 : Nat) (hi : i2 = Go.Sort.scanUp (fun x => !Go.Sort.ltInt d[a]! x) d j i) (hj : j2 = Go.Sort.scanDown (fun x => Go.Sort.ltInt d[a]! x) d i2 j) :
    (j2 < i2 → Go.Sort.partEqLoop Go.Sort.ltInt a i j d = (i2, d)) ∧ (¬ j2 < i2 → Go.Sort.partEqLoop Go.Sort.ltInt a i j d = Go.Sort.partEqLoop Go.Sort.ltInt a (i2 + 1) (j2 - 1) (Go.Sort.swp d i2 j2)) := by
  subst hi hj
  constructor
  · intro h; rw [Go.Sort.partEqLoop_eq, if_pos h]
  · intro h; rw [Go.Sort.partEqLoop_eq, if_neg h]
def PaR (w : World) (g a b n : Nat) (R : Nat × Array Int) (tl : List Value) (u v : Value) (wr : World) : Prop := ∃ (i j : Nat) (d : Array Int), u = .int .i64 i ∧ v = .int .i64 j ∧ a < i ∧ i ≤ j + 1 ∧ j < b ∧ d.size = n ∧ Go.Sort.partLoop Go.Sort.ltInt a i j d = R ∧ UW w g d tl wr
def PaE (w : World) (g a b n : Nat) (R : Nat × Array Int) (tl : List Value) (v : Value) (wr : World) : Prop := v = .int .i64 R.1 ∧ a ≤ R.1 ∧ R.1 < b ∧ R.2.size = n ∧ UW w g R.2 tl wr
def EqR (w : World) (g a b n : Nat) (R : Nat × Array Int) (tl : List Value) (u v : Value) (wr : World) : Prop := ∃ (i j : Nat) (d : Array Int), u = .int .i64 i ∧ v = .int .i64 j ∧ a < i ∧ i ≤ j + 1 ∧ j < b ∧ d.size = n ∧ Go.Sort.partEqLoop Go.Sort.ltInt a i j d = R ∧ UW w g d tl wr
end Sou
end Go.Proofs.YtlahficmkfgooaaGreat
