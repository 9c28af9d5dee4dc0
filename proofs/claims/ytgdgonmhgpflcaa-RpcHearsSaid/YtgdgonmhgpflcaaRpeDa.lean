import Derived.Test.YtgdgonmhgpflcaaRpeD

/- A row of one's own that grows, and where it lies then; a peer whose row grows. No condition. -/
namespace Go.Proofs.Ytgdgonmhgpflcaa
open Go.RowKit Go.Maps Wire Rp
set_option linter.unusedVariables false
set_option linter.unusedSimpArgs false
theorem run_append_own3 {P : Program} (w : World) (base : Nat) (t ty e : TypeId) (i : TypeInfo) (z : Value) (size bytes : Nat) (ht : P.underlying t = some (.slice e)) (hi : P.info? e = some i) (hz : i.zero = some z)
    (hsize : i.size = size) (hby : i.bytes = bytes) (hzs : z.cells.size = size) (hsz : 0 < size)
    (v : Value) (n : Nat) (xs : List Value) (hown : w.ownsRow base e size v n xs)
    (a : Addr) (m c : Nat) (news : List Value) (hl : news.length = m * size) (hnews : ∀ j u, news[j]? = some u → w.cell? (a.add j) = some u) (h1 : ∀ u ∈ news, u.oneCell' = true)
    (h63 : n + m ≤ maxLen) (hbytes : (n + m) * bytes ≤ 140737488355328) (hbase : base ≤ w.heap.size) :
    ∃ v' w', (Builtin.append_ #[t, t] ty #[v, .slice (some a) m c]).run P w = .ok v' w' ∧ w'.ownsRow base e size v' (n + m) (xs ++ news) ∧ w.grownBy w' v.ownBlock ∧ ∀ k, v'.ownBlock = some k → v.ownBlock = some k ∨ w.heap.size ≤ k := by
  obtain ⟨v', w', hr, h2, h3, h4⟩ := run_append_own (P := P) w base t ty e i z size bytes ht hi hz hsize hby hzs hsz v n xs hown a m c news hl hnews h1 h63 hbytes hbase
  refine ⟨v', w', hr, h2, h3, fun k hk => ?_⟩
  rcases hown.2 with ⟨rfl, rfl⟩ | ⟨g, cap, cur, rfl, hbg, hg, hnc, hcm, hcs, htake⟩
  · have hx : xs = [] := List.eq_nil_of_length_eq_zero (by simpa using hown.1)
    subst hx
    obtain ⟨v2, w2, hr2, h22, _⟩ := run_append_own (P := P) w w.heap.size t ty e i z size bytes ht hi hz hsize hby hzs hsz (.slice none 0 0) 0 [] (World.ownsRow_nil _ _ _ _) a m c news hl hnews h1 h63 hbytes (Nat.le_refl _)
    rw [hr] at hr2
    injection hr2 with e1 e2
    subst e1 e2
    exact .inr (h22.lt k hk).1
  · subst hsize hby
    have hsmall : n + m ≤ 9223372036854775807 := by simp only [maxLen] at h63; omega
    by_cases hroom : n + m ≤ cap
    · have hfit : n * i.size + news.length ≤ cur.size := by rw [hl, hcs, ← Nat.add_mul]; exact Nat.mul_le_mul_right _ hroom
      have hr2 := run_append_room (P := P) w t ty e i ht hi g n cap cur hg a m c news hl hnews h1 hroom hfit
      rw [hr] at hr2
      injection hr2 with e1 e2
      subst e1
      exact .inl (by simpa [Value.ownBlock] using hk)
    · have holds : ∀ j u, xs[j]? = some u → w.cell? ((⟨g, 0, none⟩ : Addr).add j) = some u := hown.cells (g := g) rfl
      have hr2 := run_append_grow (P := P) w t ty e i z ht hi hz ⟨g, 0, none⟩ n cap xs hown.1 holds a m c news hl hnews (by omega) (by omega) (growslice_fits (by omega) hbytes)
      rw [hr] at hr2
      injection hr2 with e1 e2
      subst e1
      have : k = w.heap.size := by simpa [Value.ownBlock] using hk.symm
      exact .inr (by omega)
theorem cell_kept {w w' : World} (hb : Below w.heap.size w w') {a : Addr} {v : Value} (h : w.cell? a = some v) : w'.cell? a = some v := (hb.cell (World.block_lt_of_cell? w a h)).trans h
section
variable {P : Program} {ops : Array Oper} {rest : List Oper} {o : Oper} {a : Act} {Q : Exit → Act → World → Prop} {E : Prop} {K : Act → World → Prop}
theorem wp_append_row3 {w0 : World} {ys : List Value} {e' : TypeId} {s x : Operand} {t e : TypeId} {z : Value} {size bytes : Nat} {base : Nat} {v : Value} {n : Nat} {xs : List Value} {nb : Nat}
    (ho : o.op = .call { callee := .builtin .append, args := #[s, x], argTypes := #[t, t] })
    (hx : a.eval x = .slice (some ⟨nb, 0, none⟩) 1 1) (hs : a.eval s = v)
    (ht : P.underlying t = some (.slice e)) (hi : Info P e z size bytes) (hz : z.cells.size = size) (hy : ys.all (·.oneCell') = true) (hl : ys.length = 1 * size) (hsz : 0 < size) (hb : bytes ≤ 1024)
    (hown : w0.ownsRow base e size v n xs) (hn : n < 2147483648) (hbase : base ≤ w0.heap.size) (hnb : nb = w0.heap.size)
    (h : ∀ v' w', w'.ownsRow base e size v' (n + 1) (xs ++ ys) → Only (fun k => v.ownBlock = some k) w0 w' → (∀ k, v'.ownBlock = some k → v.ownBlock = some k ∨ w0.heap.size ≤ k) → K (a.put o.dst v') w') :
    Oper.wp P o a (w0.alloc (.cells ys.toArray e')) K Q := by
  subst hnb
  obtain ⟨i, hi1, hi2, hi3, hi4⟩ := info_parts hi
  obtain ⟨v', w', hr, h1, h2, h3⟩ := run_append_own3 (P := P) (w0.alloc (.cells ys.toArray e')) base t o.type e i z size bytes ht hi1 hi2 hi3 hi4 hz hsz v n xs (hown.alloc _) ⟨w0.heap.size, 0, none⟩ 1 1 ys hl (by
    intro j u hj
    have : (⟨w0.heap.size, 0, none⟩ : Addr).add j = ⟨w0.heap.size, j, none⟩ := by unfold Addr.add; split <;> simp_all
    rw [this, (Blk.new w0 e' ys.toArray).cell j]; simpa using hj) (fun u hu => List.all_eq_true.1 hy u hu)
    (by unfold maxLen; omega) (by have : (n + 1) * bytes ≤ 2147483648 * 1024 := Nat.mul_le_mul (by omega) hb; omega) (by simp; omega)
  unfold Oper.wp execOp
  simp only [ho, resolve, invoke, builtin, Sem.run_bind, Sem.run_pure, Result.andThen_ok, List.map_toArray, List.map_cons, List.map_nil, hs, hx, hr]
  refine h v' w' h1 ⟨h2.os, h2.tape, h2.output, by have := h2.size; simp at this; omega, fun k hk hne => (h2.block k (by simp; omega) (fun e => hne e.symm)).trans (Below.heap_alloc _ _ _ hk)⟩ fun k hk => ?_
  rcases h3 k hk with e | e
  · exact .inl e
  · right; simp at e; omega
/-- 's = append(s, y)', y just laid: and where the new row lies. -/
theorem wpl_append_row3 {w0 : World} {ys : List Value} {e' : TypeId} {s x : Operand} {t e : TypeId} {z : Value} {size bytes : Nat} {base : Nat} {v : Value} {n : Nat} {xs : List Value} {nb : Nat}
    (hgd : o.guard = none) (ho : o.op = .call { callee := .builtin .append, args := #[s, x], argTypes := #[t, t] })
    (hx : a.eval x = .slice (some ⟨nb, 0, none⟩) 1 1) (hs : a.eval s = v)
    (ht : P.underlying t = some (.slice e)) (hi : Info P e z size bytes) (hz : z.cells.size = size) (hy : ys.all (·.oneCell') = true) (hl : ys.length = 1 * size) (hsz : 0 < size) (hb : bytes ≤ 1024)
    (hown : w0.ownsRow base e size v n xs) (hn : n < 2147483648) (hbase : base ≤ w0.heap.size) (hnb : nb = w0.heap.size)
    (h : ∀ v' w', w'.ownsRow base e size v' (n + 1) (xs ++ ys) → Only (fun k => v.ownBlock = some k) w0 w' → (∀ k, v'.ownBlock = some k → v.ownBlock = some k ∨ w0.heap.size ≤ k) → wpList P ops Q rest (a.put o.dst v') w') :
    wpList P ops Q (o :: rest) a (w0.alloc (.cells ys.toArray e')) :=
  wpList_plain hgd fun _ hK => wp_append_row3 ho hx hs ht hi hz hy hl hsz hb hown hn hbase hnb fun v' w' h2 h3 h4 => hK _ _ (h v' w' h2 h3 h4)
end
/-- The document's Called, of whom one peer's row is not told of. -/
structure RDx (w : World) (B0 r : Nat) (vP : Value) (l : List PeV) (fr : Int) : Prop where
  blk : Blk w r 44 #[vP]
  row : w.ownsRow B0 132 4 vP l.length (rowsP l)
  he : ∀ x ∈ l, x.1.fr ≠ fr → w.ownsRow B0 134 3 x.2 x.1.L.length (rowsHe x.1.L)
  apart : l.Pairwise fun x y => ∀ g, x.2.ownBlock = some g → y.2.ownBlock ≠ some g
  dis : l.Pairwise fun x y => x.1.fr ≠ y.1.fr
  ge : B0 ≤ r
def LB (L : List He) : Prop := L.length ≤ 100000 ∧ (∀ h ∈ L, hOk h) ∧ L.Pairwise (fun a b => a.seq ≠ b.seq)
theorem LB_nil : LB [] := ⟨by decide, (fun h hh => by cases hh), List.Pairwise.nil⟩
theorem LB_cur {a b c fr : Int} {L : List He} {p : Pk} (h : LB L) : LB (curPe (some ⟨a, b, c, L⟩) fr p).L := by
  unfold curPe; dsimp only; split
  · exact LB_nil
  · exact h
section
variable {w w' w1 : World} {B0 r : Nat} {vP : Value} {l : List PeV} {fr : Int}
theorem RDx.only {S : Nat → Prop} (c : RDx w B0 r vP l fr) (o : Only S w w') (h1 : ¬ S r) (h2 : ∀ g, vP.ownBlock = some g → ¬ S g) (h3 : ∀ x ∈ l, x.1.fr ≠ fr → ∀ g, x.2.ownBlock = some g → ¬ S g) : RDx w' B0 r vP l fr :=
  ⟨c.blk.only o h1, owns_only c.row o h2, fun x hx hf => owns_only (c.he x hx hf) o (h3 x hx hf), c.apart, c.dis, c.ge⟩
theorem RDx.below (c : RDx w B0 r vP l fr) (hb : Below w.heap.size w w') : RDx w' B0 r vP l fr := c.only (S := fun _ => False) (.of_below hb) id (fun _ _ => id) (fun _ _ _ _ _ => id)
/-- Turning a block that is no row of its own leaves it. -/
theorem RDx.setq {Q : Nat} {A : Array Value} (c : RDx w B0 r vP l fr) (hx : Blk w Q 132 A) (hQ : ∀ k, vP.ownBlock = some k → k ≠ Q) (hB : B0 ≤ Q) (o : Only (· = Q) w w') : RDx w' B0 r vP l fr ∧ OnR B0 r w w' :=
  ⟨c.only o (fun e => by rw [e] at c; exact absurd (blk_ne hx c.blk) (by decide)) (fun g hg e => hQ g hg e) (fun x hm hf g hg e => by obtain ⟨A', hA, _⟩ := owns_type (c.he x hm hf) hg; have e' : g = Q := e; subst e'; exact absurd (blk_ne hA hx) (by decide)),
   o.mono fun k _ e => by have e' : k = Q := e; subst e'; exact .inr (.inl ⟨hB, A, hx⟩)⟩
theorem RD.apart2 (c : RD w B0 r vP l) {x y : PeV} (hx : x ∈ l) (hy : y ∈ l) (hne : x.1.fr ≠ y.1.fr) : ∀ g, x.2.ownBlock = some g → y.2.ownBlock ≠ some g := by
  obtain ⟨i, hi, rfl⟩ := List.mem_iff_getElem.1 hx
  obtain ⟨j, hj, rfl⟩ := List.mem_iff_getElem.1 hy
  have hp := c.apart
  rw [List.pairwise_iff_getElem] at hp
  intro g h1 h2
  rcases Nat.lt_trichotomy i j with h | h | h
  · exact hp i j hi hj h g h1 h2
  · subst h; exact hne rfl
  · exact hp j i hj hi h g h2 h1
/-- A peer's row turns. -/
theorem RD.off (c : RD w B0 r vP l) {x : PeV} (hx : x ∈ l) (o : Only (fun k => x.2.ownBlock = some k) w w') : RDx w' B0 r vP l x.1.fr ∧ OnR B0 r w w' := by
  have hty : ∀ k, x.2.ownBlock = some k → ∃ A, Blk w k 134 A ∧ B0 ≤ k := fun k hk => by
    obtain ⟨A, hA, h, _⟩ := owns_type (c.he x hx) hk
    exact ⟨A, hA, h⟩
  refine ⟨⟨c.blk.only o fun e => ?_, owns_only c.row o fun g hg e => ?_, fun y hy hf => owns_only (c.he y hy) o fun g hg e => ?_, c.apart, c.dis, c.ge⟩, o.mono fun k _ e => ?_⟩
  · obtain ⟨A, hA, _⟩ := hty _ e
    exact absurd (blk_ne hA c.blk) (by decide)
  · obtain ⟨A, hA, _⟩ := hty _ e
    exact absurd rfl (owns_ne c.row hA (by decide) g hg)
  · exact c.apart2 hy hx hf g hg e
  · obtain ⟨A, hA, h⟩ := hty _ e
    exact .inr (.inr ⟨h, A, hA⟩)
/-- The four stores of a peer. -/
theorem RDx.store {g cap n : Nat} (c : RDx w B0 r (.slice (some ⟨g, 0, none⟩) n cap) l fr) (hn : n = l.length) {i : Nat} (hi : i < l.length) (y : PeV) (hy : w.ownsRow B0 134 3 y.2 y.1.L.length (rowsHe y.1.L)) (hf : y.1.fr = l[i].1.fr) (hfr : y.1.fr = fr)
    (ha : ∀ x ∈ l, x.1.fr ≠ fr → ∀ g, x.2.ownBlock = some g → y.2.ownBlock ≠ some g) :
    RD ((((w.setCell ⟨g, i * 4, none⟩ (.int .i64 y.1.fr)).setCell ⟨g, i * 4 + 1, none⟩ (.int .u64 y.1.inc)).setCell ⟨g, i * 4 + 2, none⟩ (.int .u64 y.1.floor)).setCell ⟨g, i * 4 + 3, none⟩ y.2) B0 r (.slice (some ⟨g, 0, none⟩) n cap) (l.set i y) ∧
    OnR B0 r w ((((w.setCell ⟨g, i * 4, none⟩ (.int .i64 y.1.fr)).setCell ⟨g, i * 4 + 1, none⟩ (.int .u64 y.1.inc)).setCell ⟨g, i * 4 + 2, none⟩ (.int .u64 y.1.floor)).setCell ⟨g, i * 4 + 3, none⟩ y.2) := by
  subst hn
  subst hfr
  have o : Only (· = g) w ((((w.setCell ⟨g, i * 4, none⟩ (.int .i64 y.1.fr)).setCell ⟨g, i * 4 + 1, none⟩ (.int .u64 y.1.inc)).setCell ⟨g, i * 4 + 2, none⟩ (.int .u64 y.1.floor)).setCell ⟨g, i * 4 + 3, none⟩ y.2) := (((Only.refl (· = g) w).set1).set1.set1).set1
  have hrow := owns_set (owns_set (owns_set (owns_set c.row (i * 4) (.int .i64 y.1.fr)) (i * 4 + 1) (.int .u64 y.1.inc)) (i * 4 + 2) (.int .u64 y.1.floor)) (i * 4 + 3) y.2
  rw [rowsP_set hi] at hrow
  obtain ⟨A, hA, hge, _⟩ := owns_type c.row (g := g) rfl
  have hbg : Blk w g 132 A := hA
  have hrg : ¬ r = g := fun e => by have h := c.blk; rw [e] at h; exact absurd (blk_ne h hbg) (by decide)
  have hH : ∀ {v : Value} {n : Nat} {xs : List Value}, w.ownsRow B0 134 3 v n xs → ∀ k, v.ownBlock = some k → ¬ k = g := fun h k hk => owns_ne h hbg (by decide) k hk
  have hmem : ∀ x ∈ l.set i y, x = y ∨ (x ∈ l ∧ x.1.fr ≠ y.1.fr) := fun x hx => by
    obtain ⟨j, hj, e⟩ := List.mem_iff_getElem.1 hx
    rw [List.length_set] at hj
    rw [List.getElem_set] at e
    split at e
    · exact .inl e.symm
    · rename_i hij
      refine .inr ⟨e ▸ List.getElem_mem hj, ?_⟩
      rw [← e, hf]
      have hd := c.dis
      rw [List.pairwise_iff_getElem] at hd
      rcases Nat.lt_or_ge j i with h | h
      · exact hd j i hj hi h
      · exact fun e2 => hd i j hi hj (by omega) e2.symm
  refine ⟨⟨c.blk.only o hrg, by rw [List.length_set]; exact hrow, fun x hx => ?_, ?_, ?_, c.ge⟩, o.mono fun k _ e => by have e' : k = g := e; subst e'; exact .inr (.inl ⟨hge, A, hbg⟩)⟩
  · rcases hmem x hx with rfl | ⟨hx, hne⟩
    · exact owns_only hy o (hH hy)
    · exact owns_only (c.he x hx hne) o (hH (c.he x hx hne))
  · have hp := c.apart
    rw [List.pairwise_iff_getElem] at hp ⊢
    have hd := c.dis
    rw [List.pairwise_iff_getElem] at hd
    intro j k hj hk hjk
    rw [List.length_set] at hj hk
    rw [List.getElem_set, List.getElem_set]
    split
    · rename_i e
      subst e
      rw [if_neg (by omega)]
      intro g' hg' e2
      exact ha _ (List.getElem_mem hk) (by rw [hf]; exact fun e3 => hd i k hj hk hjk e3.symm) g' e2 hg'
    · split
      · rename_i e
        subst e
        exact ha _ (List.getElem_mem hj) (by rw [hf]; exact hd j i hj hk hjk)
      · exact hp j k hj hk hjk
  · have hd := c.dis
    rw [List.pairwise_iff_getElem] at hd ⊢
    intro j k hj hk hjk
    rw [List.length_set] at hj hk
    rw [List.getElem_set, List.getElem_set]
    split
    · rename_i e
      subst e
      rw [if_neg (by omega), hf]
      exact hd i k hj hk hjk
    · split
      · rename_i e
        subst e
        rw [hf]
        exact hd j i hj hk hjk
      · exact hd j k hj hk hjk
end
end Go.Proofs.Ytgdgonmhgpflcaa
