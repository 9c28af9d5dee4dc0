import Derived.Test.YtgdgonmhgpflcaaMgj

/- What the document's Called answers, as data; beside what the program's answers. No program in sight. -/
namespace Go.Proofs.Ytgdgonmhgpflcaa
open Go.RowKit Go.Maps Wire Rp
set_option linter.unusedVariables false
set_option linter.unusedSimpArgs false
namespace Rp
def newP (fr : Int) : Pe := ⟨fr, 0, 0, []⟩
def addP (d : List Pe) (fr : Int) : List Pe := if (lookP d fr).isSome then d else d ++ [newP fr]
def takeR (d : List Pe) (fr : Int) (p : Pk) : (Int × ByteArray × Int) × List Pe :=
  if (placeB fr && mayP p && !p.an) = false then ((0, ⟨#[]⟩, 2), d) else takeD (addP d fr) fr p
def ansR (d : List Pe) (fr inc seq : Int) (body : ByteArray) : (ByteArray × Int) × List Pe :=
  if placeB fr = false then ((⟨#[]⟩, 2), d) else if 8192 < body.size then ((⟨#[]⟩, 4), d) else if inc = 0 then ((⟨#[]⟩, 5), addP d fr) else ansD (addP d fr) fr inc seq body
/-- The document's peers that were never heard stand for none. -/
def Sim (s d : List Pe) : Prop := (∀ fr x, lookP s fr = some x → lookP d fr = some x ∧ 1 ≤ x.inc) ∧ ∀ fr, lookP s fr = none → lookP d fr = none ∨ lookP d fr = some (newP fr)
theorem lookP_fr {d : List Pe} {fr : Int} {x : Pe} (h : lookP d fr = some x) : x.fr = fr := (lookP_some h).2
theorem lookP_add (d : List Pe) (fr y : Int) : lookP (addP d fr) y = if y = fr then some ((lookP d fr).getD (newP fr)) else lookP d y := by
  unfold addP
  cases h : lookP d fr with
  | some x =>
    simp only [Option.isSome_some, if_true, Option.getD_some]
    split
    · rename_i e; subst e; exact h
    · rfl
  | none =>
    simp only [Option.isSome_none, Bool.false_eq_true, if_false, Option.getD_none]
    have h2 : lookP (d ++ [newP fr]) y = (lookP d y).or (lookP [newP fr] y) := by unfold lookP; rw [List.find?_append]
    rw [h2]
    split
    · rename_i e
      subst e
      rw [h]
      unfold lookP newP
      simp
    · rename_i e
      have : lookP [newP fr] y = none := by unfold lookP newP; simp; exact fun h => e h.symm
      rw [this]; simp
theorem Sim.add {s d : List Pe} (h : Sim s d) (fr : Int) : Sim s (addP d fr) := by
  refine ⟨fun y x hx => ?_, fun y hy => ?_⟩
  · rw [lookP_add]
    obtain ⟨h1, h2⟩ := h.1 y x hx
    refine ⟨?_, h2⟩
    split
    · rename_i e; subst e; rw [h1]; rfl
    · exact h1
  · rw [lookP_add]
    split
    · rename_i e
      subst e
      rcases h.2 y hy with e | e
      · rw [e]; exact .inr rfl
      · rw [e]; exact .inr rfl
    · exact h.2 y hy
theorem Sim.set {s d : List Pe} (h : Sim s d) {pe : Pe} (hi : 1 ≤ pe.inc) : Sim (setPe s pe) (setPe d pe) := by
  refine ⟨fun y x hx => ?_, fun y hy => ?_⟩
  · rw [lookP_set] at hx ⊢
    split at hx
    · rename_i e
      injection hx with hx
      subst hx
      rw [if_pos e]
      exact ⟨rfl, hi⟩
    · rename_i e
      rw [if_neg e]
      exact h.1 y x hx
  · rw [lookP_set] at hy ⊢
    split at hy
    · cases hy
    · rename_i e
      rw [if_neg e]
      exact h.2 y hy
theorem Sim.inc {s d : List Pe} (h : Sim s d) (fr : Int) : incD d fr = incD s fr := by
  unfold incD
  cases e : lookP s fr with
  | some x => rw [(h.1 fr x e).1]
  | none => rcases h.2 fr e with e2 | e2 <;> rw [e2]; rfl
theorem may_inc {p : Pk} (h : mayP p = true) : 1 ≤ p.inc := by
  unfold mayP at h
  simp only [Bool.and_eq_true, decide_eq_true_eq] at h
  omega
theorem hear_inc (x : Pe) (p : Pk) : (hear x p).2.inc = x.inc := by
  unfold hear
  repeat' split
  all_goals rfl
theorem cur_inc {s : List Pe} {fr : Int} {p : Pk} (hp : 1 ≤ p.inc) (hs : ∀ x, lookP s fr = some x → 1 ≤ x.inc) : 1 ≤ (curPe (lookP s fr) fr p).inc := by
  unfold curPe
  cases h : lookP s fr with
  | none => exact hp
  | some x =>
    dsimp only
    split
    · exact hp
    · exact hs x h
theorem sim_take {s d : List Pe} (h : Sim s d) (fr : Int) (p : Pk) : (takeR d fr p).1 = (takeD s fr p).1 ∧ Sim (takeD s fr p).2 (takeR d fr p).2 := by
  unfold takeR
  by_cases hb : (placeB fr && mayP p && !p.an) = false
  · rw [if_pos hb]
    unfold takeD
    rw [if_pos hb]
    exact ⟨rfl, h⟩
  · rw [if_neg hb]
    have hm : 1 ≤ p.inc := may_inc (by
      simp only [Bool.not_eq_false, Bool.and_eq_true] at hb
      exact hb.1.2)
    unfold takeD
    rw [if_neg hb, if_neg hb]
    have e : curPe (lookP (addP d fr) fr) fr p = curPe (lookP s fr) fr p := by
      rw [lookP_add, if_pos rfl]
      cases hs : lookP s fr with
      | some x => rw [(h.1 fr x hs).1]; rfl
      | none =>
        have : (lookP d fr).getD (newP fr) = newP fr := by rcases h.2 fr hs with e | e <;> rw [e] <;> rfl
        rw [this]
        unfold curPe newP
        dsimp only
        rw [if_pos (by omega)]
    rw [e]
    refine ⟨rfl, (h.add fr).set ?_⟩
    rw [hear_inc]
    exact cur_inc hm fun x hx => (h.1 fr x hx).2
theorem forget_inc (x : Pe) : (forgetP x).inc = x.inc := by unfold forgetP; split <;> rfl
theorem sim_ans {s d : List Pe} (h : Sim s d) (fr inc seq : Int) (body : ByteArray) : (ansR d fr inc seq body).1 = (ansD s fr inc seq body).1 ∧ Sim (ansD s fr inc seq body).2 (ansR d fr inc seq body).2 := by
  unfold ansR ansD
  by_cases h1 : placeB fr = false
  · rw [if_pos h1, if_pos h1]; exact ⟨rfl, h⟩
  · rw [if_neg h1, if_neg h1, if_neg h1]
    by_cases h2 : 8192 < body.size
    · rw [if_pos h2, if_pos h2]; exact ⟨rfl, h⟩
    · rw [if_neg h2, if_neg h2, if_neg h2, lookP_add, if_pos rfl]
      cases hs : lookP s fr with
      | none =>
        have : (lookP d fr).getD (newP fr) = newP fr := by rcases h.2 fr hs with e | e <;> rw [e] <;> rfl
        rw [this]
        dsimp only
        by_cases h3 : inc = 0
        · rw [if_pos h3]; exact ⟨rfl, h.add fr⟩
        · rw [if_neg h3, if_neg (by unfold newP; dsimp only; omega)]
          exact ⟨rfl, h.add fr⟩
      | some x =>
        obtain ⟨e1, e2⟩ := h.1 fr x hs
        rw [e1]
        dsimp only [Option.getD_some]
        by_cases h3 : inc = 0
        · rw [if_pos h3, if_neg (show ¬ x.inc = inc by omega)]
          exact ⟨rfl, h.add fr⟩
        · rw [if_neg h3]
          by_cases h4 : x.inc = inc
          · rw [if_pos h4, if_pos h4]
            cases hl : lookH x.L seq with
            | none => exact ⟨rfl, h.add fr⟩
            | some g =>
              dsimp only
              cases hd : g.dn with
              | true => exact ⟨rfl, h.add fr⟩
              | false =>
                refine ⟨rfl, (h.add fr).set ?_⟩
                rw [forget_inc]
                exact e2
          · rw [if_neg h4, if_neg h4]
            exact ⟨rfl, h.add fr⟩
end Rp
end Go.Proofs.Ytgdgonmhgpflcaa


/- The document's peers with the values of their rows, beside the peers as data. No program in sight. -/
namespace Go.Proofs.Ytgdgonmhgpflcaa
open Go.RowKit Go.Maps Wire Rp
set_option linter.unusedVariables false
set_option linter.unusedSimpArgs false
namespace Rp
def peV (l : List PeV) : List Pe := l.map (·.1)
theorem lookP_map (l : List PeV) (fr : Int) : lookP (peV l) fr = (l.find? (fun x => x.1.fr == fr)).map (·.1) := by
  unfold lookP peV; rw [List.find?_map]; rfl
theorem incV_eq (l : List PeV) (fr : Int) : incV l fr = incD (peV l) fr := by
  unfold incV incD
  rw [lookP_map]
  cases l.find? (fun x => x.1.fr == fr) <;> rfl
theorem map_add (l : List PeV) (fr : Int) : peV (addV l fr) = addP (peV l) fr := by
  unfold addV addP
  have e : (lookP (peV l) fr).isSome = l.any (fun x => x.1.fr == fr) := by
    rw [lookP_map]
    cases h : l.find? (fun x => x.1.fr == fr) with
    | none =>
      have h1 := List.find?_eq_none.1 h
      symm
      show l.any _ = false
      rw [List.any_eq_false]
      exact fun x hx => h1 x hx
    | some x =>
      symm
      show l.any _ = true
      rw [List.any_eq_true]
      exact ⟨x, List.mem_of_find?_eq_some h, by have h2 := List.find?_some h; exact h2⟩
  rw [e]
  split
  · rfl
  · unfold peV newV newP; simp
theorem look_at {l : List PeV} (hd : l.Pairwise fun x y => x.1.fr ≠ y.1.fr) {i : Nat} (hi : i < l.length) {fr : Int} (h : l[i].1.fr = fr) : lookP (peV l) fr = some l[i].1 := by
  rw [lookP_map]
  have : l.find? (fun x => x.1.fr == fr) = some l[i] := by
    rw [List.find?_eq_some_iff_getElem]
    refine ⟨beq_iff_eq.2 h, i, hi, rfl, fun j hj => ?_⟩
    rw [List.pairwise_iff_getElem] at hd
    have := hd j i (by omega) hi hj
    rw [h] at this
    simpa using this
  rw [this]; rfl
theorem set_at {l : List PeV} (hd : l.Pairwise fun x y => x.1.fr ≠ y.1.fr) {i : Nat} (hi : i < l.length) {y : PeV} (h : y.1.fr = l[i].1.fr) : peV (l.set i y) = setPe (peV l) y.1 := by
  unfold setPe
  rw [look_at hd hi h.symm]
  simp only [Option.isSome_some, if_true]
  unfold peV
  rw [List.map_map]
  apply List.ext_getElem
  · simp
  · intro j h1 h2
    simp only [List.length_map, List.length_set] at h1
    simp only [List.getElem_map, List.getElem_set, Function.comp]
    rw [List.pairwise_iff_getElem] at hd
    split
    · rename_i e
      subst e
      rw [if_pos h.symm]
    · rename_i e
      rw [if_neg]
      intro e2
      have e3 := e2.trans h
      rcases Nat.lt_or_ge j i with hh | hh
      · exact hd j i h1 hi hh e3
      · exact hd i j hi h1 (by omega) e3.symm
theorem lookH_at {L : List He} {x : Int} {j : Nat} (hj : j < L.length) (h0 : (L.take j).any (fun h => h.seq == x) = false) (h : L[j].seq = x) : lookH L x = some L[j] := by
  unfold lookH
  rw [List.find?_eq_some_iff_getElem]
  refine ⟨beq_iff_eq.2 h, j, hj, rfl, fun k hk => ?_⟩
  rw [List.any_eq_false] at h0
  simpa using h0 _ (List.mem_iff_getElem.2 ⟨k, by rw [List.length_take]; omega, by rw [List.getElem_take]⟩)
theorem lookH_no {L : List He} {x : Int} (h0 : L.any (fun h => h.seq == x) = false) : lookH L x = none := by
  unfold lookH
  rw [List.find?_eq_none]
  rw [List.any_eq_false] at h0
  intro y hy
  simpa using h0 y hy
theorem cnt_take {L : List He} {j : Nat} (hj : j < L.length) : cntD false (L.take (j + 1)) = cntD false (L.take j) + (if L[j].dn then 0 else 1) := by
  unfold cntD
  rw [List.take_succ_eq_append_getElem hj, List.countP_append]
  congr 1
  cases h : L[j].dn <;> simp [List.countP_cons, h]
end Rp
end Go.Proofs.Ytgdgonmhgpflcaa


/- A row of one's own that grows, and where it lies then; a peer whose row grows. No condition. -/
namespace Go.Proofs.Ytgdgonmhgpflcaa
open Go.RowKit Go.Maps Wire Rp
set_option linter.unusedVariables false
set_option linter.unusedSimpArgs false
theorem run_append_own3 {P : Program} (w : World) (base : Nat) (t ty e : TypeId) (i : TypeInfo) (z : Value) (size bytes : Nat) (ht : P.underlying t = some (.slice e)) (hi : P.info? e = some i) (hz : i.zero = some z)
    (hsize : i.size = size) (hby : i.bytes = bytes) (hzs : z.cells.size = size) (hsz : 0 < size)
    (v : Value) (n : Nat) (xs : List Value) (hown : w.ownsRow base e size v n xs)
    (a : Addr) (m c : Nat) (news : List Value) (hl : news.length = m * size) (hnews : ∀ j u, news[j]? = some u → w.cell? (a.add j) = some u) (h1 : ∀ u ∈ news, u.oneCell' = true)
    (h63 : n + m ≤ maxLen) (hbytes : (n + m) * bytes ≤ 140737488355328) (hbase : base ≤ w.heap.size) :
    ∃ v' w', (Builtin.append_ #[t, t] ty #[v, .slice (some a) m c]).run P w = .ok v' w' ∧ w'.ownsRow base e size v' (n + m) (xs ++ news) ∧ w.grownBy w' v.ownBlock ∧ ∀ k, v'.ownBlock = some k → v.ownBlock = some k ∨ w.heap.size ≤ k := by
  obtain ⟨v', w', hr, h2, h3, h4⟩ := run_append_own (P := P) w base t ty e i z size bytes ht hi hz hsize hby hzs hsz v n xs hown a m c news hl hnews h1 h63 hbytes hbase
  refine ⟨v', w', hr, h2, h3, fun k hk => ?_⟩
  rcases hown.2 with ⟨rfl, rfl⟩ | ⟨g, cap, cur, rfl, hbg, hg, hnc, hcm, hcs, htake⟩
  · have hx : xs = [] := List.eq_nil_of_length_eq_zero (by simpa using hown.1)
    subst hx
    obtain ⟨v2, w2, hr2, h22, _⟩ := run_append_own (P := P) w w.heap.size t ty e i z size bytes ht hi hz hsize hby hzs hsz (.slice none 0 0) 0 [] (World.ownsRow_nil _ _ _ _) a m c news hl hnews h1 h63 hbytes (Nat.le_refl _)
    rw [hr] at hr2
    injection hr2 with e1 e2
    subst e1 e2
    exact .inr (h22.lt k hk).1
  · subst hsize hby
    have hsmall : n + m ≤ 9223372036854775807 := by simp only [maxLen] at h63; omega
    by_cases hroom : n + m ≤ cap
    · have hfit : n * i.size + news.length ≤ cur.size := by rw [hl, hcs, ← Nat.add_mul]; exact Nat.mul_le_mul_right _ hroom
      have hr2 := run_append_room (P := P) w t ty e i ht hi g n cap cur hg a m c news hl hnews h1 hroom hfit
      rw [hr] at hr2
      injection hr2 with e1 e2
      subst e1
      exact .inl (by simpa [Value.ownBlock] using hk)
    · have holds : ∀ j u, xs[j]? = some u → w.cell? ((⟨g, 0, none⟩ : Addr).add j) = some u := hown.cells (g := g) rfl
      have hr2 := run_append_grow (P := P) w t ty e i z ht hi hz ⟨g, 0, none⟩ n cap xs hown.1 holds a m c news hl hnews (by omega) (by omega) (growslice_fits (by omega) hbytes)
      rw [hr] at hr2
      injection hr2 with e1 e2
      subst e1
      have : k = w.heap.size := by simpa [Value.ownBlock] using hk.symm
      exact .inr (by omega)
theorem cell_kept {w w' : World} (hb : Below w.heap.size w w') {a : Addr} {v : Value} (h : w.cell? a = some v) : w'.cell? a = some v := (hb.cell (World.block_lt_of_cell? w a h)).trans h
section
variable {P : Program} {ops : Array Oper} {rest : List Oper} {o : Oper} {a : Act} {Q : Exit → Act → World → Prop} {E : Prop} {K : Act → World → Prop}
theorem wp_append_row3 {w0 : World} {ys : List Value} {e' : TypeId} {s x : Operand} {t e : TypeId} {z : Value} {size bytes : Nat} {base : Nat} {v : Value} {n : Nat} {xs : List Value} {nb : Nat}
    (ho : o.op = .call { callee := .builtin .append, args := #[s, x], argTypes := #[t, t] })
    (hx : a.eval x = .slice (some ⟨nb, 0, none⟩) 1 1) (hs : a.eval s = v)
    (ht : P.underlying t = some (.slice e)) (hi : Info P e z size bytes) (hz : z.cells.size = size) (hy : ys.all (·.oneCell') = true) (hl : ys.length = 1 * size) (hsz : 0 < size) (hb : bytes ≤ 1024)
    (hown : w0.ownsRow base e size v n xs) (hn : n < 2147483648) (hbase : base ≤ w0.heap.size) (hnb : nb = w0.heap.size)
    (h : ∀ v' w', w'.ownsRow base e size v' (n + 1) (xs ++ ys) → Only (fun k => v.ownBlock = some k) w0 w' → (∀ k, v'.ownBlock = some k → v.ownBlock = some k ∨ w0.heap.size ≤ k) → K (a.put o.dst v') w') :
    Oper.wp P o a (w0.alloc (.cells ys.toArray e')) K Q := by
  subst hnb
  obtain ⟨i, hi1, hi2, hi3, hi4⟩ := info_parts hi
  obtain ⟨v', w', hr, h1, h2, h3⟩ := run_append_own3 (P := P) (w0.alloc (.cells ys.toArray e')) base t o.type e i z size bytes ht hi1 hi2 hi3 hi4 hz hsz v n xs (hown.alloc _) ⟨w0.heap.size, 0, none⟩ 1 1 ys hl (by
    intro j u hj
    have : (⟨w0.heap.size, 0, none⟩ : Addr).add j = ⟨w0.heap.size, j, none⟩ := by unfold Addr.add; split <;> simp_all
    rw [this, (Blk.new w0 e' ys.toArray).cell j]; simpa using hj) (fun u hu => List.all_eq_true.1 hy u hu)
    (by unfold maxLen; omega) (by have : (n + 1) * bytes ≤ 2147483648 * 1024 := Nat.mul_le_mul (by omega) hb; omega) (by simp; omega)
  unfold Oper.wp execOp
  simp only [ho, resolve, invoke, builtin, Sem.run_bind, Sem.run_pure, Result.andThen_ok, List.map_toArray, List.map_cons, List.map_nil, hs, hx, hr]
  refine h v' w' h1 ⟨h2.os, h2.tape, h2.output, by have := h2.size; simp at this; omega, fun k hk hne => (h2.block k (by simp; omega) (fun e => hne e.symm)).trans (Below.heap_alloc _ _ _ hk)⟩ fun k hk => ?_
  rcases h3 k hk with e | e
  · exact .inl e
  · right; simp at e; omega
/-- 's = append(s, y)', y just laid: and where the new row lies. -/
theorem wpl_append_row3 {w0 : World} {ys : List Value} {e' : TypeId} {s x : Operand} {t e : TypeId} {z : Value} {size bytes : Nat} {base : Nat} {v : Value} {n : Nat} {xs : List Value} {nb : Nat}
    (hgd : o.guard = none) (ho : o.op = .call { callee := .builtin .append, args := #[s, x], argTypes := #[t, t] })
    (hx : a.eval x = .slice (some ⟨nb, 0, none⟩) 1 1) (hs : a.eval s = v)
    (ht : P.underlying t = some (.slice e)) (hi : Info P e z size bytes) (hz : z.cells.size = size) (hy : ys.all (·.oneCell') = true) (hl : ys.length = 1 * size) (hsz : 0 < size) (hb : bytes ≤ 1024)
    (hown : w0.ownsRow base e size v n xs) (hn : n < 2147483648) (hbase : base ≤ w0.heap.size) (hnb : nb = w0.heap.size)
    (h : ∀ v' w', w'.ownsRow base e size v' (n + 1) (xs ++ ys) → Only (fun k => v.ownBlock = some k) w0 w' → (∀ k, v'.ownBlock = some k → v.ownBlock = some k ∨ w0.heap.size ≤ k) → wpList P ops Q rest (a.put o.dst v') w') :
    wpList P ops Q (o :: rest) a (w0.alloc (.cells ys.toArray e')) :=
  wpList_plain hgd fun _ hK => wp_append_row3 ho hx hs ht hi hz hy hl hsz hb hown hn hbase hnb fun v' w' h2 h3 h4 => hK _ _ (h v' w' h2 h3 h4)
end
/-- The document's Called, of whom one peer's row is not told of. -/
structure RDx (w : World) (B0 r : Nat) (vP : Value) (l : List PeV) (fr : Int) : Prop where
  blk : Blk w r 44 #[vP]
  row : w.ownsRow B0 132 4 vP l.length (rowsP l)
  he : ∀ x ∈ l, x.1.fr ≠ fr → w.ownsRow B0 134 3 x.2 x.1.L.length (rowsHe x.1.L)
  apart : l.Pairwise fun x y => ∀ g, x.2.ownBlock = some g → y.2.ownBlock ≠ some g
  dis : l.Pairwise fun x y => x.1.fr ≠ y.1.fr
  ge : B0 ≤ r
def LB (L : List He) : Prop := L.length ≤ 100000 ∧ (∀ h ∈ L, hOk h) ∧ L.Pairwise (fun a b => a.seq ≠ b.seq)
theorem LB_nil : LB [] := ⟨by decide, (fun h hh => by cases hh), List.Pairwise.nil⟩
theorem LB_cur {a b c fr : Int} {L : List He} {p : Pk} (h : LB L) : LB (curPe (some ⟨a, b, c, L⟩) fr p).L := by
  unfold curPe; dsimp only; split
  · exact LB_nil
  · exact h
section
variable {w w' w1 : World} {B0 r : Nat} {vP : Value} {l : List PeV} {fr : Int}
theorem RDx.only {S : Nat → Prop} (c : RDx w B0 r vP l fr) (o : Only S w w') (h1 : ¬ S r) (h2 : ∀ g, vP.ownBlock = some g → ¬ S g) (h3 : ∀ x ∈ l, x.1.fr ≠ fr → ∀ g, x.2.ownBlock = some g → ¬ S g) : RDx w' B0 r vP l fr :=
  ⟨c.blk.only o h1, owns_only c.row o h2, fun x hx hf => owns_only (c.he x hx hf) o (h3 x hx hf), c.apart, c.dis, c.ge⟩
theorem RDx.below (c : RDx w B0 r vP l fr) (hb : Below w.heap.size w w') : RDx w' B0 r vP l fr := c.only (S := fun _ => False) (.of_below hb) id (fun _ _ => id) (fun _ _ _ _ _ => id)
/-- Turning a block that is no row of its own leaves it. -/
theorem RDx.setq {Q : Nat} {A : Array Value} (c : RDx w B0 r vP l fr) (hx : Blk w Q 132 A) (hQ : ∀ k, vP.ownBlock = some k → k ≠ Q) (hB : B0 ≤ Q) (o : Only (· = Q) w w') : RDx w' B0 r vP l fr ∧ OnR B0 r w w' :=
  ⟨c.only o (fun e => by rw [e] at c; exact absurd (blk_ne hx c.blk) (by decide)) (fun g hg e => hQ g hg e) (fun x hm hf g hg e => by obtain ⟨A', hA, _⟩ := owns_type (c.he x hm hf) hg; have e' : g = Q := e; subst e'; exact absurd (blk_ne hA hx) (by decide)),
   o.mono fun k _ e => by have e' : k = Q := e; subst e'; exact .inr (.inl ⟨hB, A, hx⟩)⟩
theorem RD.apart2 (c : RD w B0 r vP l) {x y : PeV} (hx : x ∈ l) (hy : y ∈ l) (hne : x.1.fr ≠ y.1.fr) : ∀ g, x.2.ownBlock = some g → y.2.ownBlock ≠ some g := by
  obtain ⟨i, hi, rfl⟩ := List.mem_iff_getElem.1 hx
  obtain ⟨j, hj, rfl⟩ := List.mem_iff_getElem.1 hy
  have hp := c.apart
  rw [List.pairwise_iff_getElem] at hp
  intro g h1 h2
  rcases Nat.lt_trichotomy i j with h | h | h
  · exact hp i j hi hj h g h1 h2
  · subst h; exact hne rfl
  · exact hp j i hj hi h g h2 h1
/-- A peer's row turns. -/
theorem RD.off (c : RD w B0 r vP l) {x : PeV} (hx : x ∈ l) (o : Only (fun k => x.2.ownBlock = some k) w w') : RDx w' B0 r vP l x.1.fr ∧ OnR B0 r w w' := by
  have hty : ∀ k, x.2.ownBlock = some k → ∃ A, Blk w k 134 A ∧ B0 ≤ k := fun k hk => by
    obtain ⟨A, hA, h, _⟩ := owns_type (c.he x hx) hk
    exact ⟨A, hA, h⟩
  refine ⟨⟨c.blk.only o fun e => ?_, owns_only c.row o fun g hg e => ?_, fun y hy hf => owns_only (c.he y hy) o fun g hg e => ?_, c.apart, c.dis, c.ge⟩, o.mono fun k _ e => ?_⟩
  · obtain ⟨A, hA, _⟩ := hty _ e
    exact absurd (blk_ne hA c.blk) (by decide)
  · obtain ⟨A, hA, _⟩ := hty _ e
    exact absurd rfl (owns_ne c.row hA (by decide) g hg)
  · exact c.apart2 hy hx hf g hg e
  · obtain ⟨A, hA, h⟩ := hty _ e
    exact .inr (.inr ⟨h, A, hA⟩)
/-- The four stores of a peer. -/
theorem RDx.store {g cap n : Nat} (c : RDx w B0 r (.slice (some ⟨g, 0, none⟩) n cap) l fr) (hn : n = l.length) {i : Nat} (hi : i < l.length) (y : PeV) (hy : w.ownsRow B0 134 3 y.2 y.1.L.length (rowsHe y.1.L)) (hf : y.1.fr = l[i].1.fr) (hfr : y.1.fr = fr)
    (ha : ∀ x ∈ l, x.1.fr ≠ fr → ∀ g, x.2.ownBlock = some g → y.2.ownBlock ≠ some g) :
    RD ((((w.setCell ⟨g, i * 4, none⟩ (.int .i64 y.1.fr)).setCell ⟨g, i * 4 + 1, none⟩ (.int .u64 y.1.inc)).setCell ⟨g, i * 4 + 2, none⟩ (.int .u64 y.1.floor)).setCell ⟨g, i * 4 + 3, none⟩ y.2) B0 r (.slice (some ⟨g, 0, none⟩) n cap) (l.set i y) ∧
    OnR B0 r w ((((w.setCell ⟨g, i * 4, none⟩ (.int .i64 y.1.fr)).setCell ⟨g, i * 4 + 1, none⟩ (.int .u64 y.1.inc)).setCell ⟨g, i * 4 + 2, none⟩ (.int .u64 y.1.floor)).setCell ⟨g, i * 4 + 3, none⟩ y.2) := by
  subst hn
  subst hfr
  have o : Only (· = g) w ((((w.setCell ⟨g, i * 4, none⟩ (.int .i64 y.1.fr)).setCell ⟨g, i * 4 + 1, none⟩ (.int .u64 y.1.inc)).setCell ⟨g, i * 4 + 2, none⟩ (.int .u64 y.1.floor)).setCell ⟨g, i * 4 + 3, none⟩ y.2) := (((Only.refl (· = g) w).set1).set1.set1).set1
  have hrow := owns_set (owns_set (owns_set (owns_set c.row (i * 4) (.int .i64 y.1.fr)) (i * 4 + 1) (.int .u64 y.1.inc)) (i * 4 + 2) (.int .u64 y.1.floor)) (i * 4 + 3) y.2
  rw [rowsP_set hi] at hrow
  obtain ⟨A, hA, hge, _⟩ := owns_type c.row (g := g) rfl
  have hbg : Blk w g 132 A := hA
  have hrg : ¬ r = g := fun e => by have h := c.blk; rw [e] at h; exact absurd (blk_ne h hbg) (by decide)
  have hH : ∀ {v : Value} {n : Nat} {xs : List Value}, w.ownsRow B0 134 3 v n xs → ∀ k, v.ownBlock = some k → ¬ k = g := fun h k hk => owns_ne h hbg (by decide) k hk
  have hmem : ∀ x ∈ l.set i y, x = y ∨ (x ∈ l ∧ x.1.fr ≠ y.1.fr) := fun x hx => by
    obtain ⟨j, hj, e⟩ := List.mem_iff_getElem.1 hx
    rw [List.length_set] at hj
    rw [List.getElem_set] at e
    split at e
    · exact .inl e.symm
    · rename_i hij
      refine .inr ⟨e ▸ List.getElem_mem hj, ?_⟩
      rw [← e, hf]
      have hd := c.dis
      rw [List.pairwise_iff_getElem] at hd
      rcases Nat.lt_or_ge j i with h | h
      · exact hd j i hj hi h
      · exact fun e2 => hd i j hi hj (by omega) e2.symm
  refine ⟨⟨c.blk.only o hrg, by rw [List.length_set]; exact hrow, fun x hx => ?_, ?_, ?_, c.ge⟩, o.mono fun k _ e => by have e' : k = g := e; subst e'; exact .inr (.inl ⟨hge, A, hbg⟩)⟩
  · rcases hmem x hx with rfl | ⟨hx, hne⟩
    · exact owns_only hy o (hH hy)
    · exact owns_only (c.he x hx hne) o (hH (c.he x hx hne))
  · have hp := c.apart
    rw [List.pairwise_iff_getElem] at hp ⊢
    have hd := c.dis
    rw [List.pairwise_iff_getElem] at hd
    intro j k hj hk hjk
    rw [List.length_set] at hj hk
    rw [List.getElem_set, List.getElem_set]
    split
    · rename_i e
      subst e
      rw [if_neg (by omega)]
      intro g' hg' e2
      exact ha _ (List.getElem_mem hk) (by rw [hf]; exact fun e3 => hd i k hj hk hjk e3.symm) g' e2 hg'
    · split
      · rename_i e
        subst e
        exact ha _ (List.getElem_mem hj) (by rw [hf]; exact hd j i hj hk hjk)
      · exact hp j k hj hk hjk
  · have hd := c.dis
    rw [List.pairwise_iff_getElem] at hd ⊢
    intro j k hj hk hjk
    rw [List.length_set] at hj hk
    rw [List.getElem_set, List.getElem_set]
    split
    · rename_i e
      subst e
      rw [if_neg (by omega), hf]
      exact hd i k hj hk hjk
    · split
      · rename_i e
        subst e
        rw [hf]
        exact hd j i hj hk hjk
      · exact hd j k hj hk hjk
end
end Go.Proofs.Ytgdgonmhgpflcaa


/- A caller alone: what each call leaves of him, and of what else there is; the walk of RpcTries. No condition but that he is not beyond any bound. -/
namespace Go.Proofs.Ytgdgonmhgpflcaa
open Go.RowKit Go.Maps Wire Rp
set_option linter.unusedVariables false
set_option linter.unusedSimpArgs false
structure Uno (w0 w : World) (b h bd bo : Nat) (B : Int → Nat) (st : St) (vd vo : Value) (N : Nat) : Prop where
  cw : CW w w0.heap.size bd bo b h B st vd vo N
  bel : Below w0.heap.size w0 w
section
variable {w0 w w' : World} {bd bo b h N N' : Nat} {B : Int → Nat} {st : St} {vd vo : Value}
theorem Uno.below (d : Uno w0 w b h bd bo B st vd vo N) (hb : Below w.heap.size w w') : Uno w0 w' b h bd bo B st vd vo N := ⟨d.cw.below hb, d.bel.trans (hb.mono d.bel.size)⟩
theorem Uno.alloc (d : Uno w0 w b h bd bo B st vd vo N) (o : Obj) : Uno w0 (w.alloc o) b h bd bo B st vd vo N := d.below ((Below.refl _ _).alloc (Nat.le_refl _) o)
theorem Uno.onC (d : Uno w0 w b h bd bo B st vd vo N) {bd' bo' : Nat} {B' : Int → Nat} {st' : St} {vd' vo' : Value} (c : CW w' w0.heap.size bd' bo' b h B' st' vd' vo' N') (o : OnC w0.heap.size b h bd bo w w') :
    Uno w0 w' b h bd' bo' B' st' vd' vo' N' ∧ KpC bd bo w w' := ⟨⟨c, d.bel.trans (OnC.below d.cw o d.bel.size)⟩, kpC_of d.cw o⟩
def UnoC (w0 w : World) (b h bd bo : Nat) (st : St) (N bd' bo' : Nat) (P : Value → Value → Prop) (w' : World) : Prop := ∃ B' vd' vo', P vd' vo' ∧ Uno w0 w' b h bd' bo' B' st vd' vo' N ∧ KpC bd bo w w' ∧ OnC w0.heap.size b h bd bo w w'
theorem uno_call (d : Uno w0 w b h bd bo B st vd vo N) {wh now : Int} {body : ByteArray} (hn : st.du.length ≤ 1000000) (hN : N ≤ 900000) {r : Int × Int × St} (hr : callS st wh body now = r) :
    Calls Try.prog 30 #[.pointer (some ⟨b, 0, none⟩), .int .i64 wh, .string body, .int .i64 now] w fun e w' => e = .returned (.tuple #[.int .u64 r.1, .int .i64 r.2.1]) ∧ UnoC w0 w b h bd bo r.2.2 (N + 1) bd bo (fun _ v => v = vo) w' := by
  refine (call_any d.cw (by omega) (by omega) hr).mono ?_
  rintro e w' ⟨rfl, B', vd', N', hc, hn', ho⟩
  have := d.onC (hc.mono hn') ho
  exact ⟨rfl, _, _, _, rfl, this.1, this.2, ho⟩
theorem uno_take (d : Uno w0 w b h bd bo B st vd vo N) {fr : Int} {p : Pk} (hu : U64 p.seq) (hn : st.ov.length ≤ 1000000) {r : Bool × Int × St} (hr : takeS st fr p = r) :
    Calls Try.prog 36 #[.pointer (some ⟨b, 0, none⟩), .int .i64 fr, pv p] w fun e w' => e = .returned (.tuple #[.bool r.1, .int .i64 r.2.1]) ∧ UnoC w0 w b h bd bo r.2.2 N bd bo (fun v _ => v = vd) w' := by
  refine (take_any d.cw hu (by omega) hr).mono ?_
  rintro e w' ⟨rfl, vo', hc, ho⟩
  have := d.onC hc ho
  exact ⟨rfl, _, _, _, rfl, this.1, this.2, ho⟩
theorem uno_tick (d : Uno w0 w b h bd bo B st vd vo N) {now : Int} (hn : st.du.length ≤ 1000000 ∧ st.ov.length ≤ 1000000) {r : Int × St} (hr : tickS st now = r) :
    Calls Try.prog 28 #[.pointer (some ⟨b, 0, none⟩), .int .i64 now] w fun e w' => e = .returned (.int .i64 r.1) ∧ UnoC w0 w b h bd bo r.2 N bd bo (fun _ _ => True) w' := by
  subst hr
  refine (tick_any d.cw hn).mono ?_
  rintro e w' ⟨rfl, vd', vo', hc, ho⟩
  have := d.onC hc ho
  exact ⟨rfl, _, _, _, trivial, this.1, this.2, ho⟩
theorem uno_stop (d : Uno w0 w b h bd bo B st vd vo N) {p : Option Addr} {n cap : Nat} {xs : List Int} (hp : RowU w p xs) (hl : xs.length = n) (hm : n ≤ 1000000) (hu : ∀ x ∈ xs, U64 x) {r : Int × St} (hr : stopS st xs = r) :
    Calls Try.prog 39 #[.pointer (some ⟨b, 0, none⟩), .slice p n cap] w fun e w' => e = .returned (.int .i64 r.1) ∧ UnoC w0 w b h bd bo r.2 N bd bo (fun v u => v = vd ∧ u = vo) w' := by
  subst hr
  refine (stop_any d.cw hp hl hm hu).mono ?_
  rintro e w' ⟨rfl, hc, ho⟩
  have ho' : OnC w0.heap.size b h bd bo w w' := ho.mono fun k _ e => .inr (.inl e)
  have := d.onC hc ho'
  exact ⟨rfl, _, _, _, ⟨rfl, rfl⟩, this.1, this.2, ho'⟩
theorem uno_due (d : Uno w0 w b h bd bo B st vd vo N) :
    Calls Try.prog 31 #[.pointer (some ⟨b, 0, none⟩)] w fun e w' => e = .returned vd ∧ w'.ownsRow bd 101 2 vd st.du.length (rowsD st.du) ∧ (∀ g, vd.ownBlock = some g → g < w.heap.size) ∧ UnoC w0 w b h bd bo { st with du := [] } N w.heap.size bo (fun v u => v = .slice none 0 0 ∧ u = vo) w' := by
  refine (due_any d.cw).mono ?_
  rintro e w' ⟨rfl, hc, hrow, ho⟩
  have := d.onC hc (onC_b ho)
  exact ⟨rfl, hrow, fun g hg => by obtain ⟨A, hA, _⟩ := d.cw.du_ty hg; exact hA.lt, _, _, _, ⟨rfl, rfl⟩, this.1, this.2, onC_b ho⟩
theorem uno_ended (d : Uno w0 w b h bd bo B st vd vo N) :
    Calls Try.prog 32 #[.pointer (some ⟨b, 0, none⟩)] w fun e w' => e = .returned vo ∧ w'.ownsRow bo 83 4 vo st.ov.length (rowsO st.ov) ∧ (∀ g, vo.ownBlock = some g → g < w.heap.size) ∧ UnoC w0 w b h bd bo { st with ov := [] } N bd w.heap.size (fun v u => v = vd ∧ u = .slice none 0 0) w' := by
  refine (ended_any d.cw).mono ?_
  rintro e w' ⟨rfl, hc, hrow, ho⟩
  have := d.onC hc (onC_b ho)
  exact ⟨rfl, hrow, fun g hg => by obtain ⟨A, hA, _⟩ := d.cw.ov_ty hg; exact hA.lt, _, _, _, ⟨rfl, rfl⟩, this.1, this.2, onC_b ho⟩
end
theorem kpC_ty {bd bo : Nat} {w w' : World} (k : KpC bd bo w w') {g : Nat} {T : TypeId} {A : Array Value} (h : Blk w g T A) (h1 : T ≠ 143) (h2 : T ≠ 148) (h3 : T ≠ 101) (h4 : T ≠ 83) : Blk w' g T A := k.2 _ _ _ h h1 h2 (fun e => absurd e h3) (fun e => absurd e h4)
namespace Rp
section
variable {i W M R l now : Int} {x : C0}
theorem tk_keep (ht : timeB now = true) (h : now < x.tm) : tickS ⟨i, W, M, R, l, [x], [], []⟩ now = (0, ⟨i, W, M, R, l, [x], [], []⟩) := by
  unfold tickS tickAt; simp [ht, tkL, tkD, tkO, h]
theorem tk_late (ht : timeB now = true) (h : ¬ now < x.tm) (h2 : R ≤ x.tries) : tickS ⟨i, W, M, R, l, [x], [], []⟩ now = (0, ⟨i, W, M, R, l, [], [], [⟨x.seq, x.wh, ⟨#[]⟩, 270⟩]⟩) := by
  unfold tickS tickAt; simp [ht, tkL, tkD, tkO, h, h2]
theorem tk_fire (ht : timeB now = true) (h : ¬ now < x.tm) (h2 : ¬ R ≤ x.tries) : tickS ⟨i, W, M, R, l, [x], [], []⟩ now = (0, ⟨i, W, M, R, l, [⟨x.seq, x.wh, x.body, x.tries + 1, now + min (2 * x.wt) M, min (2 * x.wt) M⟩], [(x.wh, pkS ⟨false, i, x.seq, x.body⟩)], []⟩) := by
  unfold tickS tickAt; simp [ht, tkL, tkD, tkO, h, h2, nextC, mkDue]
end
end Rp
end Go.Proofs.Ytgdgonmhgpflcaa


/- The document's caller in the world: its calls, what is due, what is over; the walks of its find. No condition. -/
namespace Go.Proofs.Ytgdgonmhgpflcaa
open Go.RowKit Go.Maps Wire Rp
set_option linter.unusedVariables false
set_option linter.unusedSimpArgs false
namespace Rp
def kcells (c : C0) : List Value := [.int .u64 c.seq, .int .i64 c.wh, .string c.body, .int .i64 c.tries, .int .i64 c.tm, .int .i64 c.wt]
theorem kcells_len (c : C0) : (kcells c).length = 6 := rfl
def rowsK (l : List C0) : List Value := l.flatMap kcells
theorem rowsK_len (L : List C0) : (rowsK L).length = L.length * 6 := by
  unfold rowsK
  induction L with
  | nil => rfl
  | cons a l ih => rw [List.flatMap_cons, List.length_append, ih, kcells_len, List.length_cons]; omega
theorem rowsK_split (L : List C0) (i : Nat) : rowsK L = rowsK (L.take i) ++ rowsK (L.drop i) := by
  unfold rowsK; rw [← List.flatMap_append, List.take_append_drop]
theorem rowsK_one (L : List C0) : ∀ u ∈ rowsK L, u.oneCell' = true := by
  intro u hu
  unfold rowsK at hu
  obtain ⟨g, _, hg⟩ := List.mem_flatMap.1 hu
  unfold kcells at hg
  simp at hg
  rcases hg with rfl | rfl | rfl | rfl | rfl | rfl <;> rfl
def ixS (L : List C0) (x : Int) : Option Nat := L.findIdx? fun c => c.seq == x
def ixI (L : List C0) (x : Int) : Int := match ixS L x with | some i => (i : Int) | none => -1
theorem ix_at {L : List C0} {x : Int} {i : Nat} (hi : i < L.length) (h0 : (L.take i).any (fun c => c.seq == x) = false) (h : L[i].seq = x) : ixS L x = some i := by
  unfold ixS
  rw [List.findIdx?_eq_some_iff_getElem]
  refine ⟨hi, by simp [h], fun j hj => ?_⟩
  rw [List.any_eq_false] at h0
  exact h0 _ (List.mem_iff_getElem.2 ⟨j, by rw [List.length_take]; omega, by rw [List.getElem_take]⟩)
theorem ix_none {L : List C0} {x : Int} (h0 : L.any (fun c => c.seq == x) = false) : ixS L x = none := by
  unfold ixS
  rw [List.findIdx?_eq_none_iff]
  rw [List.any_eq_false] at h0
  intro g hg; simpa using h0 g hg
theorem ix_some {L : List C0} {x : Int} {i : Nat} (h : ixS L x = some i) : ∃ hi : i < L.length, L[i].seq = x ∧ L.find? (fun c => c.seq == x) = some L[i] := by
  unfold ixS at h
  rw [List.findIdx?_eq_some_iff_getElem] at h
  obtain ⟨hi, h1, h2⟩ := h
  refine ⟨hi, by simpa using h1, ?_⟩
  rw [List.find?_eq_some_iff_getElem]
  exact ⟨h1, i, hi, rfl, fun j hj => by simpa using h2 j hj⟩
theorem ix_no {L : List C0} {x : Int} (h : ixS L x = none) : L.find? (fun c => c.seq == x) = none ∧ L.any (fun c => c.seq == x) = false := by
  unfold ixS at h
  rw [List.findIdx?_eq_none_iff] at h
  exact ⟨by rw [List.find?_eq_none]; intro c hc; simpa using h c hc, by rw [List.any_eq_false]; intro c hc; simpa using h c hc⟩
theorem any_take {L : List C0} {x : Int} {i : Nat} (hi : i < L.length) : (L.take (i + 1)).any (fun c => c.seq == x) = ((L.take i).any (fun c => c.seq == x) || (L[i].seq == x)) := by
  rw [List.take_succ_eq_append_getElem hi, List.any_append]; simp
theorem erase_filter {L : List C0} (hr : L.Pairwise (fun a b => a.seq < b.seq)) {i : Nat} (hi : i < L.length) : L.eraseIdx i = L.filter (fun c => !(c.seq == L[i].seq)) := by
  rw [List.eraseIdx_eq_take_drop_succ]
  rw [List.pairwise_iff_getElem] at hr
  have key : ∀ p : C0 → Bool, L.filter p = (L.take i).filter p ++ (L[i] :: L.drop (i + 1)).filter p := fun p => by
    rw [← List.drop_eq_getElem_cons hi, ← List.filter_append, List.take_append_drop]
  rw [key, List.filter_cons]
  have f1 : (L.take i).filter (fun c => !(c.seq == L[i].seq)) = L.take i := by
    rw [List.filter_eq_self]
    intro y hy
    obtain ⟨j, hj, e2⟩ := List.mem_iff_getElem.1 hy
    rw [List.length_take] at hj
    rw [List.getElem_take] at e2
    have := hr j i (by omega) hi (by omega)
    rw [e2] at this
    simp; omega
  have f2 : (L.drop (i + 1)).filter (fun c => !(c.seq == L[i].seq)) = L.drop (i + 1) := by
    rw [List.filter_eq_self]
    intro y hy
    obtain ⟨j, hj, e2⟩ := List.mem_iff_getElem.1 hy
    rw [List.length_drop] at hj
    rw [List.getElem_drop] at e2
    have := hr i (i + 1 + j) hi (by omega) (by omega)
    rw [e2] at this
    simp; omega
  rw [f1, f2]
  simp
end Rp
theorem info_call : Info Try.prog 99 (.agg #[.int .u64 0, .int .i64 0, .string ⟨#[]⟩, .int .i64 0, .int .i64 0, .int .i64 0]) 6 56 := by unfold Info; kernel_rfl
structure RC (w : World) (B0 bD bO r : Nat) (vL vD vO : Value) (s : St) : Prop where
  blk : Blk w r 97 #[.int .u64 s.inc, .int .i64 s.wait, .int .i64 s.most, .int .i64 s.tries, .int .u64 s.last, vL, vD, vO]
  row : w.ownsRow B0 99 6 vL s.L.length (rowsK s.L)
  du : w.ownsRow bD 101 2 vD s.du.length (rowsD s.du)
  ov : w.ownsRow bO 83 4 vO s.ov.length (rowsO s.ov)
  ge : B0 ≤ r ∧ B0 ≤ bD ∧ B0 ≤ bO
  sz : bD ≤ w.heap.size ∧ bO ≤ w.heap.size
  inv : SInv s
def OnK (B0 bD bO r : Nat) (w w' : World) : Prop := Only (fun k => k = r ∨ (B0 ≤ k ∧ ∃ A, Blk w k 99 A) ∨ (bD ≤ k ∧ ∃ A, Blk w k 101 A) ∨ (bO ≤ k ∧ ∃ A, Blk w k 83 A)) w w'
section
variable {w w' w1 : World} {B0 bD bO r : Nat} {vL vD vO : Value} {s : St}
theorem OnK.refl (B0 bD bO r : Nat) (w : World) : OnK B0 bD bO r w w := Only.refl _ _
theorem OnK.of_below (hb : Below w.heap.size w w') : OnK B0 bD bO r w w' := Only.of_below hb
theorem OnK.trans (h1 : OnK B0 bD bO r w w1) (h2 : OnK B0 bD bO r w1 w') : OnK B0 bD bO r w w' :=
  ⟨h2.os.trans h1.os, h2.tape.trans h1.tape, h2.output.trans h1.output, Nat.le_trans h1.size h2.size, fun k hk hne => by
    have e1 := h1.block k hk hne
    rw [← e1]
    refine h2.block k (Nat.lt_of_lt_of_le hk h1.size) fun hs => hne ?_
    unfold Blk at hs ⊢
    rwa [e1] at hs⟩
theorem OnK.step (h1 : OnK B0 bD bO r w w1) (h2 : Below w1.heap.size w1 w') : OnK B0 bD bO r w w' := h1.trans (.of_below h2)
theorem OnK.drew (h1 : OnK B0 bD bO r w w') : OnK B0 bD bO r w w'.drew := Only.drew h1
theorem OnK.undrew (o : OnK B0 bD bO r w.drew w') : OnK B0 bD bO r w w' := ⟨o.os, o.tape, o.output, o.size, o.block⟩
theorem OnK.below (h1 : RC w B0 bD bO r vL vD vO s) (o : OnK B0 bD bO r w w') (hB : B0 ≤ w.heap.size) : Below B0 w w' := Only.below o hB fun k hs => by
  have := h1.ge
  rcases hs with e | e | e | e
  · omega
  · exact e.1
  · omega
  · omega
theorem RC.only {S : Nat → Prop} (c : RC w B0 bD bO r vL vD vO s) (o : Only S w w') (h1 : ¬ S r) (h3 : ∀ g, vL.ownBlock = some g → ¬ S g) (h4 : ∀ g, vD.ownBlock = some g → ¬ S g) (h5 : ∀ g, vO.ownBlock = some g → ¬ S g) : RC w' B0 bD bO r vL vD vO s :=
  ⟨c.blk.only o h1, owns_only c.row o h3, owns_only c.du o h4, owns_only c.ov o h5, c.ge, ⟨Nat.le_trans c.sz.1 o.size, Nat.le_trans c.sz.2 o.size⟩, c.inv⟩
theorem RC.below (c : RC w B0 bD bO r vL vD vO s) (hb : Below w.heap.size w w') : RC w' B0 bD bO r vL vD vO s := c.only (S := fun _ => False) (.of_below hb) id (fun _ _ => id) (fun _ _ => id) (fun _ _ => id)
theorem RC.alloc (c : RC w B0 bD bO r vL vD vO s) (o : Obj) : RC (w.alloc o) B0 bD bO r vL vD vO s := c.below ((Below.refl _ _).alloc (Nat.le_refl _) o)
theorem RC.drew (c : RC w B0 bD bO r vL vD vO s) : RC w.drew B0 bD bO r vL vD vO s := c.below (Below.refl _ w).drew
theorem RC.c0 (c : RC w B0 bD bO r vL vD vO s) : w.cell? ⟨r, 0, none⟩ = some (.int .u64 s.inc) := by rw [c.blk.cell 0]; rfl
theorem RC.c1 (c : RC w B0 bD bO r vL vD vO s) : w.cell? ⟨r, 1, none⟩ = some (.int .i64 s.wait) := by rw [c.blk.cell 1]; rfl
theorem RC.c2 (c : RC w B0 bD bO r vL vD vO s) : w.cell? ⟨r, 2, none⟩ = some (.int .i64 s.most) := by rw [c.blk.cell 2]; rfl
theorem RC.c3 (c : RC w B0 bD bO r vL vD vO s) : w.cell? ⟨r, 3, none⟩ = some (.int .i64 s.tries) := by rw [c.blk.cell 3]; rfl
theorem RC.c4 (c : RC w B0 bD bO r vL vD vO s) : w.cell? ⟨r, 4, none⟩ = some (.int .u64 s.last) := by rw [c.blk.cell 4]; rfl
theorem RC.c5 (c : RC w B0 bD bO r vL vD vO s) : w.cell? ⟨r, 5, none⟩ = some (vL) := by rw [c.blk.cell 5]; rfl
theorem RC.c6 (c : RC w B0 bD bO r vL vD vO s) : w.cell? ⟨r, 6, none⟩ = some (vD) := by rw [c.blk.cell 6]; rfl
theorem RC.c7 (c : RC w B0 bD bO r vL vD vO s) : w.cell? ⟨r, 7, none⟩ = some (vO) := by rw [c.blk.cell 7]; rfl
theorem RC.fz (c : RC w B0 bD bO r vL vD vO s) : ∀ o, w.frozen? ⟨r, o, none⟩ = false := c.blk.frozen
theorem RC.ty (c : RC w B0 bD bO r vL vD vO s) : (∀ {g}, vL.ownBlock = some g → ∃ A, Blk w g 99 A ∧ B0 ≤ g) ∧ (∀ {g}, vD.ownBlock = some g → ∃ A, Blk w g 101 A ∧ bD ≤ g) ∧ (∀ {g}, vO.ownBlock = some g → ∃ A, Blk w g 83 A ∧ bO ≤ g) :=
  ⟨fun hg => by obtain ⟨A, h1, h2, _⟩ := owns_type c.row hg; exact ⟨A, h1, h2⟩, fun hg => by obtain ⟨A, h1, h2, _⟩ := owns_type c.du hg; exact ⟨A, h1, h2⟩, fun hg => by obtain ⟨A, h1, h2, _⟩ := owns_type c.ov hg; exact ⟨A, h1, h2⟩⟩
theorem RC.lslice (c : RC w B0 bD bO r vL vD vO s) : ∃ p cap, vL = .slice p s.L.length cap := owns_slice c.row
theorem RC.dslice (c : RC w B0 bD bO r vL vD vO s) : ∃ p cap, vD = .slice p s.du.length cap := owns_slice c.du
theorem RC.oslice (c : RC w B0 bD bO r vL vD vO s) : ∃ p cap, vO = .slice p s.ov.length cap := owns_slice c.ov
theorem RC.setF5 (a0 a1 a2 a3 a4 a5 a6 a7 v : Value) : (#[a0, a1, a2, a3, a4, a5, a6, a7] : Array Value).setIfInBounds 5 v = #[a0, a1, a2, a3, a4, v, a6, a7] := rfl
theorem RC.appL (c : RC w B0 bD bO r vL vD vO s) {o : C0} {v' : Value} (hinv : SInv { s with L := s.L ++ [o] }) (h6 : w'.ownsRow B0 99 6 v' (s.L.length + 1) (rowsK s.L ++ kcells o)) (o6 : Only (fun k => vL.ownBlock = some k) w w') :
    Blk w' r 97 #[.int .u64 s.inc, .int .i64 s.wait, .int .i64 s.most, .int .i64 s.tries, .int .u64 s.last, vL, vD, vO] ∧ RC (w'.setCell ⟨r, 5, none⟩ v') B0 bD bO r v' vD vO { s with L := s.L ++ [o] } ∧ OnK B0 bD bO r w (w'.setCell ⟨r, 5, none⟩ v') := by
  have hne : ∀ {k : Nat} {T : TypeId} {A : Array Value}, Blk w k T A → T ≠ 99 → ¬ vL.ownBlock = some k := fun hk ht e => by
    obtain ⟨A', hA, _⟩ := c.ty.1 e
    exact ht (blk_ne hk hA)
  have hb := c.blk.only o6 (hne c.blk (by decide))
  have o7 : Only (· = r) w' (w'.setCell ⟨r, 5, none⟩ v') := (Only.refl _ w').set1
  have hsz := o6.size
  have hs2 := setCell_size w' ⟨r, 5, none⟩ v'
  have h7 : (w'.setCell ⟨r, 5, none⟩ v').ownsRow B0 99 6 v' (s.L.length + 1) (rowsK s.L ++ kcells o) := owns_only h6 o7 fun g hg e => by
    obtain ⟨A, hA, _⟩ := owns_type h6 hg
    subst e
    exact absurd (blk_ne hA hb) (by decide)
  have h8 : (w'.setCell ⟨r, 5, none⟩ v').ownsRow B0 99 6 v' (s.L ++ [o]).length (rowsK (s.L ++ [o])) := by simpa [rowsK] using h7
  refine ⟨hb, ⟨?_, h8, (owns_only (owns_only c.du o6 fun g hg => by obtain ⟨A, hA, _⟩ := c.ty.2.1 hg; exact hne hA (by decide)) o7 fun g hg e => by obtain ⟨A, hA, _⟩ := c.ty.2.1 hg; subst e; exact absurd (blk_ne hA c.blk) (by decide)), (owns_only (owns_only c.ov o6 fun g hg => by obtain ⟨A, hA, _⟩ := c.ty.2.2 hg; exact hne hA (by decide)) o7 fun g hg e => by obtain ⟨A, hA, _⟩ := c.ty.2.2 hg; subst e; exact absurd (blk_ne hA c.blk) (by decide)), c.ge, ⟨by have := c.sz; rw [hs2]; omega, by have := c.sz; rw [hs2]; omega⟩, hinv⟩, ?_⟩
  · have := hb.set 5 v'
    rwa [RC.setF5] at this
  · refine ⟨o7.os.trans o6.os, o7.tape.trans o6.tape, o7.output.trans o6.output, by rw [hs2]; exact hsz, fun k hk hn => ?_⟩
    rw [o7.block k (Nat.lt_of_lt_of_le hk hsz) (fun e => hn (.inl e))]
    refine o6.block k hk fun e => hn ?_
    obtain ⟨A, hA, hge⟩ := c.ty.1 e
    exact (.inr (.inl ⟨hge, A, hA⟩))
theorem RC.appD (c : RC w B0 bD bO r vL vD vO s) {o : Int × ByteArray} {v' : Value} (h6 : w'.ownsRow bD 101 2 v' (s.du.length + 1) (rowsD s.du ++ dcells o)) (o6 : Only (fun k => vD.ownBlock = some k) w w') :
    Blk w' r 97 #[.int .u64 s.inc, .int .i64 s.wait, .int .i64 s.most, .int .i64 s.tries, .int .u64 s.last, vL, vD, vO] ∧ RC (w'.setCell ⟨r, 6, none⟩ v') B0 bD bO r vL v' vO { s with du := s.du ++ [o] } ∧ OnK B0 bD bO r w (w'.setCell ⟨r, 6, none⟩ v') := by
  have hne : ∀ {k : Nat} {T : TypeId} {A : Array Value}, Blk w k T A → T ≠ 101 → ¬ vD.ownBlock = some k := fun hk ht e => by
    obtain ⟨A', hA, _⟩ := c.ty.2.1 e
    exact ht (blk_ne hk hA)
  have hb := c.blk.only o6 (hne c.blk (by decide))
  have o7 : Only (· = r) w' (w'.setCell ⟨r, 6, none⟩ v') := (Only.refl _ w').set1
  have hsz := o6.size
  have hs2 := setCell_size w' ⟨r, 6, none⟩ v'
  have h7 : (w'.setCell ⟨r, 6, none⟩ v').ownsRow bD 101 2 v' (s.du.length + 1) (rowsD s.du ++ dcells o) := owns_only h6 o7 fun g hg e => by
    obtain ⟨A, hA, _⟩ := owns_type h6 hg
    subst e
    exact absurd (blk_ne hA hb) (by decide)
  have h8 : (w'.setCell ⟨r, 6, none⟩ v').ownsRow bD 101 2 v' (s.du ++ [o]).length (rowsD (s.du ++ [o])) := by simpa [rowsD] using h7
  refine ⟨hb, ⟨?_, (owns_only (owns_only c.row o6 fun g hg => by obtain ⟨A, hA, _⟩ := c.ty.1 hg; exact hne hA (by decide)) o7 fun g hg e => by obtain ⟨A, hA, _⟩ := c.ty.1 hg; subst e; exact absurd (blk_ne hA c.blk) (by decide)), h8, (owns_only (owns_only c.ov o6 fun g hg => by obtain ⟨A, hA, _⟩ := c.ty.2.2 hg; exact hne hA (by decide)) o7 fun g hg e => by obtain ⟨A, hA, _⟩ := c.ty.2.2 hg; subst e; exact absurd (blk_ne hA c.blk) (by decide)), c.ge, ⟨by have := c.sz; rw [hs2]; omega, by have := c.sz; rw [hs2]; omega⟩, c.inv.rows _ s.ov⟩, ?_⟩
  · have := hb.set 6 v'
    rwa [setIf6] at this
  · refine ⟨o7.os.trans o6.os, o7.tape.trans o6.tape, o7.output.trans o6.output, by rw [hs2]; exact hsz, fun k hk hn => ?_⟩
    rw [o7.block k (Nat.lt_of_lt_of_le hk hsz) (fun e => hn (.inl e))]
    refine o6.block k hk fun e => hn ?_
    obtain ⟨A, hA, hge⟩ := c.ty.2.1 e
    exact (.inr (.inr (.inl ⟨hge, A, hA⟩)))
theorem RC.appO (c : RC w B0 bD bO r vL vD vO s) {o : Ov} {v' : Value} (h6 : w'.ownsRow bO 83 4 v' (s.ov.length + 1) (rowsO s.ov ++ ocells o)) (o6 : Only (fun k => vO.ownBlock = some k) w w') :
    Blk w' r 97 #[.int .u64 s.inc, .int .i64 s.wait, .int .i64 s.most, .int .i64 s.tries, .int .u64 s.last, vL, vD, vO] ∧ RC (w'.setCell ⟨r, 7, none⟩ v') B0 bD bO r vL vD v' { s with ov := s.ov ++ [o] } ∧ OnK B0 bD bO r w (w'.setCell ⟨r, 7, none⟩ v') := by
  have hne : ∀ {k : Nat} {T : TypeId} {A : Array Value}, Blk w k T A → T ≠ 83 → ¬ vO.ownBlock = some k := fun hk ht e => by
    obtain ⟨A', hA, _⟩ := c.ty.2.2 e
    exact ht (blk_ne hk hA)
  have hb := c.blk.only o6 (hne c.blk (by decide))
  have o7 : Only (· = r) w' (w'.setCell ⟨r, 7, none⟩ v') := (Only.refl _ w').set1
  have hsz := o6.size
  have hs2 := setCell_size w' ⟨r, 7, none⟩ v'
  have h7 : (w'.setCell ⟨r, 7, none⟩ v').ownsRow bO 83 4 v' (s.ov.length + 1) (rowsO s.ov ++ ocells o) := owns_only h6 o7 fun g hg e => by
    obtain ⟨A, hA, _⟩ := owns_type h6 hg
    subst e
    exact absurd (blk_ne hA hb) (by decide)
  have h8 : (w'.setCell ⟨r, 7, none⟩ v').ownsRow bO 83 4 v' (s.ov ++ [o]).length (rowsO (s.ov ++ [o])) := by simpa [rowsO] using h7
  refine ⟨hb, ⟨?_, (owns_only (owns_only c.row o6 fun g hg => by obtain ⟨A, hA, _⟩ := c.ty.1 hg; exact hne hA (by decide)) o7 fun g hg e => by obtain ⟨A, hA, _⟩ := c.ty.1 hg; subst e; exact absurd (blk_ne hA c.blk) (by decide)), (owns_only (owns_only c.du o6 fun g hg => by obtain ⟨A, hA, _⟩ := c.ty.2.1 hg; exact hne hA (by decide)) o7 fun g hg e => by obtain ⟨A, hA, _⟩ := c.ty.2.1 hg; subst e; exact absurd (blk_ne hA c.blk) (by decide)), h8, c.ge, ⟨by have := c.sz; rw [hs2]; omega, by have := c.sz; rw [hs2]; omega⟩, c.inv.rows s.du _⟩, ?_⟩
  · have := hb.set 7 v'
    rwa [setIf7] at this
  · refine ⟨o7.os.trans o6.os, o7.tape.trans o6.tape, o7.output.trans o6.output, by rw [hs2]; exact hsz, fun k hk hn => ?_⟩
    rw [o7.block k (Nat.lt_of_lt_of_le hk hsz) (fun e => hn (.inl e))]
    refine o6.block k hk fun e => hn ?_
    obtain ⟨A, hA, hge⟩ := c.ty.2.2 e
    exact (.inr (.inr (.inr ⟨hge, A, hA⟩)))
/-- One of its calls. -/
theorem RC.call (c : RC w B0 bD bO r vL vD vO s) {i : Nat} (hi : i < s.L.length) : ∃ g cap, vL = .slice (some ⟨g, 0, none⟩) s.L.length cap ∧ B0 ≤ g ∧ g < w.heap.size ∧ g ≠ r ∧ (∃ A, Blk w g 99 A) ∧ ∀ j, j < 6 → w.cell? ⟨g, i * 6 + j, none⟩ = (kcells s.L[i])[j]? := by
  obtain ⟨g, cap, ev, hb, hg, _, hc⟩ := owns_cells c.row (by omega)
  have hne : g ≠ r := owns_ne c.row c.blk (by decide) g (by rw [ev]; rfl)
  obtain ⟨A, hA, _⟩ := c.ty.1 (g := g) (by rw [ev]; rfl)
  exact ⟨g, cap, ev, hb, hg, hne, ⟨A, hA⟩, fun j hj => by rw [← flat_at kcells 6 kcells_len s.L i j hi hj]; exact hc (i * 6 + j) (by omega)⟩
set_option maxRecDepth 100000 in
set_option maxHeartbeats 1000000 in
theorem find_any (c : RC w B0 bD bO r vL vD vO s) (x : Int) :
    Calls Try.prog 72 #[.pointer (some ⟨r, 0, none⟩), .int .u64 x] w fun e w' => e = .returned (.int .i64 (ixI s.L x)) ∧ w' = w := by
  have HC := Lib.hid c
  have HL : Hid (s.L.length ≤ 64) := Lib.hid c.inv.len
  have c5 := c.c5
  obtain ⟨pL, cL, eL⟩ := c.lslice
  subst eL
  clear c
  go_enter Try.func72, Try.ntmps72
  go_wp2_with fail
  go_loopw [5] (fun u wr => ∃ i : Nat, u = .int .i64 i ∧ i ≤ s.L.length ∧ (s.L.take i).any (fun c => c.seq == x) = false ∧ wr = w) (fun u _ => ((s.L.length : Int) - intOf u).toNat)
  case atStart => exact ⟨0, rfl, Nat.zero_le _, rfl, rfl⟩
  case round =>
    obtain ⟨i, rfl, hi, hnone, rfl⟩ := hrel
    have HI := Lib.hid (And.intro hi hnone)
    clear hi hnone
    by_cases hil : i < s.L.length
    · have hil' : (i : Int) < (s.L.length : Int) := by omega
      have hi0 : (0 : Int) ≤ (i : Int) := by omega
      obtain ⟨g, cap, ev, _, hg, hgr, _, hz⟩ := HC.out.call hil
      injection ev with e1 e2 e3
      subst e1 e3
      have z0 : wr.cell? ⟨g, i * 6, none⟩ = some (.int .u64 s.L[i].seq) := hz 0 (by decide)
      have HT := Lib.hid (any_take (x := x) hil)
      have HAT := Lib.hid (ix_at (x := x) hil HI.out.2)
      have HLT := Lib.hid hil
      have HE : Hid (wrap64 ((i : Int) + 1) = ((i + 1 : Nat) : Int)) := Lib.hid (Sou.w64n rfl (by have := HL.out; omega))
      clear e2 hz
      generalize s.L[i] = q at *
      clear hil
      by_cases hq : q.seq = x
      · have HIX := Lib.hid (HAT.out hq)
        have hq' : (q.seq == x) = true := by simpa using hq
        clear hq HAT HT
        go_wp2_with fail
        go_ret
        exact ⟨by unfold ixI; rw [HIX.out]; rfl, rfl⟩
      · have hq' : (q.seq == x) = false := by simpa using hq
        have HT2 : Hid ((s.L.take (i + 1)).any (fun c => c.seq == x) = false) := Lib.hid (by rw [HT.out, HI.out.2, hq']; rfl)
        clear hq HAT HT
        go_wp2_with fail
        go_roundw
        case rel => rw [HE.out]; exact ⟨i + 1, rfl, HLT.out, HT2.out, by first | rfl | trivial⟩
        case measure => have := HLT.out; rw [HE.out]; simp [intOf]; omega
    · obtain rfl : i = s.L.length := by have := HI.out; omega
      have hil' : ¬ ((s.L.length : Nat) : Int) < (s.L.length : Int) := by omega
      have HX := Lib.hid (ix_none (x := x) (L := s.L) (by have := HI.out.2; rwa [List.take_length] at this))
      clear hil
      go_wp2_with fail
      go_ret
      exact ⟨by unfold ixI; rw [HX.out]; rfl, rfl⟩
end
end Go.Proofs.Ytgdgonmhgpflcaa


/- The walks of the document's Place, Time, due, gone, NewCaller. No condition but that the caller's rows are not too long. -/
namespace Go.Proofs.Ytgdgonmhgpflcaa
open Go.RowKit Go.Maps Wire Rp
set_option linter.unusedVariables false
set_option linter.unusedSimpArgs false
set_option maxRecDepth 100000 in
theorem rplace_any (n : Int) (w : World) : Calls Try.prog 59 #[.int .i64 n] w fun e w' => e = .returned (.bool (placeB n)) ∧ w' = w := by
  unfold placeB
  by_cases h1 : 0 ≤ n
  · by_cases h2 : n < 1024
    · simp only [h1, h2, decide_true, Bool.and_self]
      go_enter Try.func59, Try.ntmps59
      go_wp2_with fail
      go_ret
      exact ⟨rfl, rfl⟩
    · simp only [h1, h2, decide_true, decide_false, Bool.and_false]
      go_enter Try.func59, Try.ntmps59
      go_wp2_with fail
      go_ret
      exact ⟨rfl, rfl⟩
  · simp only [h1, decide_false, Bool.false_and]
    go_enter Try.func59, Try.ntmps59
    go_wp2_with fail
    go_ret
    exact ⟨rfl, rfl⟩
set_option maxRecDepth 100000 in
theorem rtime_any (n : Int) (w : World) : Calls Try.prog 70 #[.int .i64 n] w fun e w' => e = .returned (.bool (timeB n)) ∧ w' = w := by
  unfold timeB
  by_cases h1 : 0 ≤ n
  · by_cases h2 : n ≤ 17592186044416
    · simp only [h1, h2, decide_true, Bool.and_self]
      go_enter Try.func70, Try.ntmps70
      go_wp2_with fail
      go_ret
      exact ⟨rfl, rfl⟩
    · simp only [h1, h2, decide_true, decide_false, Bool.and_false]
      go_enter Try.func70, Try.ntmps70
      go_wp2_with fail
      go_ret
      exact ⟨rfl, rfl⟩
  · simp only [h1, decide_false, Bool.false_and]
    go_enter Try.func70, Try.ntmps70
    go_wp2_with fail
    go_ret
    exact ⟨rfl, rfl⟩
set_option maxRecDepth 100000 in
set_option maxHeartbeats 1000000 in
theorem rnewc_bad {inc wait most tries : Int} (h : confB inc wait most tries = false) (w : World) : Calls Try.prog 34 #[.int .u64 inc, .agg #[.int .i64 wait, .int .i64 most, .int .i64 tries]] w fun e w' => e = .returned (.pointer none) ∧ Below w.heap.size w w' := by
  have HB := Lib.hid ((Below.refl _ w).alloc (Nat.le_refl _) (.cells #[.int .i64 wait, .int .i64 most, .int .i64 tries] 73))
  unfold confB at h
  by_cases h1 : 1 ≤ inc
  · by_cases h2 : inc ≤ 4611686018427387904
    · by_cases h3 : 1 ≤ wait
      · by_cases h4 : wait ≤ 4294967296
        · by_cases h5 : wait ≤ most
          · by_cases h6 : most ≤ 4294967296
            · by_cases h7 : 1 ≤ tries
              · by_cases h8 : tries ≤ 64
                · simp [h1, h2, h3, h4, h5, h6, h7, h8] at h
                · (clear h; go_enter Try.func34, Try.ntmps34; go_wp2_with fail; go_ret; exact ⟨rfl, HB.out⟩)
              · (clear h; go_enter Try.func34, Try.ntmps34; go_wp2_with fail; go_ret; exact ⟨rfl, HB.out⟩)
            · (clear h; go_enter Try.func34, Try.ntmps34; go_wp2_with fail; go_ret; exact ⟨rfl, HB.out⟩)
          · (clear h; go_enter Try.func34, Try.ntmps34; go_wp2_with fail; go_ret; exact ⟨rfl, HB.out⟩)
        · (clear h; go_enter Try.func34, Try.ntmps34; go_wp2_with fail; go_ret; exact ⟨rfl, HB.out⟩)
      · (clear h; go_enter Try.func34, Try.ntmps34; go_wp2_with fail; go_ret; exact ⟨rfl, HB.out⟩)
    · (clear h; go_enter Try.func34, Try.ntmps34; go_wp2_with fail; go_ret; exact ⟨rfl, HB.out⟩)
  · (clear h; go_enter Try.func34, Try.ntmps34; go_wp2_with fail; go_ret; exact ⟨rfl, HB.out⟩)
def RNewPost (w : World) (B0 : Nat) (s : St) (e : Ending) (w' : World) : Prop := ∃ r, e = .returned (.pointer (some ⟨r, 0, none⟩)) ∧ RC w' B0 w.heap.size w.heap.size r (.slice none 0 0) (.slice none 0 0) (.slice none 0 0) s ∧ Below w.heap.size w w' ∧ w.heap.size ≤ r
set_option maxRecDepth 100000 in
set_option maxHeartbeats 1000000 in
theorem rnewc_any {inc wait most tries : Int} (hc : confB inc wait most tries = true) (w : World) {B0 : Nat} (hB : B0 ≤ w.heap.size) : Calls Try.prog 34 #[.int .u64 inc, .agg #[.int .i64 wait, .int .i64 most, .int .i64 tries]] w (RNewPost w B0 ⟨inc, wait, most, tries, 0, [], [], []⟩) := by
  have HV := Lib.hid (confB_ok hc)
  have HB := Lib.hid hB
  unfold confB at hc
  simp only [Bool.and_eq_true, decide_eq_true_eq] at hc
  obtain ⟨h1, h2, h3, h4, h5, h6, h7, h8⟩ := hc
  clear hB
  go_enter Try.func34, Try.ntmps34
  go_upto_region 3 with fail
  clear h1 h2 h3 h4 h5 h6 h7 h8
  go_wp2_with fail
  go_ret
  refine ⟨w.heap.size + 1, rfl, ⟨?_, World.ownsRow_nil _ _ _ _, World.ownsRow_nil _ _ _ _, World.ownsRow_nil _ _ _ _, ?_, ?_, HV.out⟩, ?_, by omega⟩
  · have := Blk.new (w.alloc (.cells #[.int .i64 wait, .int .i64 most, .int .i64 tries] 73)) 97 #[.int .u64 inc, .int .i64 wait, .int .i64 most, .int .i64 tries, .int .u64 0, .slice none 0 0, .slice none 0 0, .slice none 0 0]
    simpa using this
  · have := HB.out; omega
  · simp; omega
  · exact ((Below.refl _ _).alloc (Nat.le_refl _) _).alloc (by simp) _
section
variable {w w' w1 : World} {B0 bD bO r : Nat} {vL vD vO : Value} {s : St}
/-- A call that leaves the caller with other calls, in a new row; nothing else turns. -/
def GoneP (w : World) (B0 bD bO r : Nat) (vD vO : Value) (s : St) (e : Ending) (w' : World) : Prop :=
  e = .returned (.tuple #[]) ∧ ∃ vL', RC w' B0 bD bO r vL' vD vO s ∧ Only (· = r) w w'
set_option maxRecDepth 100000 in
set_option maxHeartbeats 1000000 in
theorem gone_any (c : RC w B0 bD bO r vL vD vO s) {i : Nat} (hi : i < s.L.length) :
    Calls Try.prog 73 #[.pointer (some ⟨r, 0, none⟩), .int .i64 i] w (GoneP w B0 bD bO r vD vO { s with L := s.L.filter (fun c => !(c.seq == s.L[i].seq)) }) := by
  rw [← erase_filter c.inv.ris hi]
  have HSI : Hid (SInv { s with L := s.L.eraseIdx i }) := Lib.hid (by rw [erase_filter c.inv.ris hi]; exact c.inv.filt _ s.du s.ov)
  have HR := Lib.hid c
  have HL : Hid (s.L.length ≤ 64 ∧ i < s.L.length) := Lib.hid ⟨c.inv.len, hi⟩
  have hL := c.inv.len
  have c5 := c.c5
  obtain ⟨g, cap, cur, ev, hbg, hblk, hcur⟩ := owns_blk c.row (by omega)
  have hcap : s.L.length ≤ cap := by
    have h := c.row
    rw [ev] at h
    obtain ⟨hl, ⟨h1, h2⟩ | ⟨g, cap, cur, h1, hb, hg, h3, h4, h5, h6⟩⟩ := h
    · omega
    · injection h1 with _ _ h1; omega
  subst ev
  have HC1 : Hid (∀ (w : World), Blk w g 99 cur → ∀ j u, (rowsK (s.L.take i))[j]? = some u → w.cell? ⟨g, 0 + j, none⟩ = some u) := Lib.hid fun w hw j u hj => by
    have hjl : j < i * 6 := by
      rcases Nat.lt_or_ge j (i * 6) with h | h
      · exact h
      · rw [List.getElem?_eq_none (by rw [rowsK_len, List.length_take]; omega)] at hj; cases hj
    rw [Nat.zero_add, hw.cell j, hcur j (by omega), ← hj, rowsK_split s.L i, List.getElem?_append_left (by rw [rowsK_len, List.length_take]; omega)]
  have HC2 : Hid (∀ (w : World), Blk w g 99 cur → ∀ j u, (rowsK (s.L.drop (i + 1)))[j]? = some u → w.cell? ⟨g, (i + 1) * 6 + j, none⟩ = some u) := Lib.hid fun w hw j u hj => by
    have hjl : j < (s.L.length - (i + 1)) * 6 := by
      rcases Nat.lt_or_ge j ((s.L.length - (i + 1)) * 6) with h | h
      · exact h
      · rw [List.getElem?_eq_none (by rw [rowsK_len, List.length_drop]; omega)] at hj; cases hj
    rw [hw.cell _, hcur _ (by omega), ← hj, rowsK_split s.L (i + 1), List.getElem?_append_right (by rw [rowsK_len, List.length_take]; omega)]
    congr 1
    rw [rowsK_len, List.length_take]; omega
  have HG := Lib.hid hblk
  have HNIL := Lib.hid (World.ownsRow_nil w w.heap.size 99 6)
  have hgr : g ≠ r := owns_ne c.row c.blk (by decide) g rfl
  have k1 : (i : Int) ≤ (cap : Int) := by omega
  have k2 : (0 : Int) ≤ (i : Int) := by omega
  have k3 : wrap64 ((i : Int) + 1) = ((i + 1 : Nat) : Int) := Sou.w64n rfl (by omega)
  have k4 : (((i + 1 : Nat)) : Int) ≤ (s.L.length : Int) := by omega
  clear c hL hcur hblk hgr
  go_enter Try.func73, Try.ntmps73
  go_upto_region 2 with (at_builtin; refine wpl_append_cells (ys := rowsK (s.L.take i)) rfl rfl rfl rfl Try.underlying95 info_call rfl (by decide) (by decide) HNIL.out (by rw [rowsK_len, List.length_take]; have := HL.out; omega) (HC1.out _ HG.out) (rowsK_one _) (by have := HL.out; omega) (Nat.le_refl _) ?_; intro v5 w5 h5 o5)
  have B5 : Below w.heap.size w w5 := o5.below (Nat.le_refl _) (fun k hk => absurd (show (Value.slice none 0 0).ownBlock = some k from hk) (by simp [Value.ownBlock]))
  have HB5 := Lib.hid B5
  rw [Nat.zero_add, List.nil_append] at h5
  have H5 := Lib.hid h5
  have HG5 := Lib.hid (HG.out.below B5)
  have d1 : w5.cell? ⟨r, 5, none⟩ = some (.slice (some ⟨g, 0, none⟩) s.L.length cap) := by rw [(HR.out.blk.below B5).cell 5]; rfl
  have HRB := Lib.hid (HR.out.blk.below B5)
  clear o5 h5 B5 c5 HC1 HNIL
  obtain ⟨p5, q5, rfl⟩ := owns_slice H5.out
  have HERA : Hid (rowsK (s.L.take i) ++ rowsK (s.L.drop (i + 1)) = rowsK (s.L.eraseIdx i) ∧ i + (s.L.length - (i + 1)) = (s.L.eraseIdx i).length) := Lib.hid ⟨by
    rw [List.eraseIdx_eq_take_drop_succ]; unfold rowsK; rw [List.flatMap_append], by rw [List.length_eraseIdx_of_lt HL.out.2]; have := HL.out; omega⟩
  have HFIN : Hid (∀ v6 w6, w6.ownsRow w.heap.size 99 6 v6 (i + (s.L.length - (i + 1))) (rowsK (s.L.take i) ++ rowsK (s.L.drop (i + 1))) → Only (fun k => (Value.slice p5 i q5).ownBlock = some k) w5 w6 → Blk w6 r 97 #[.int .u64 s.inc, .int .i64 s.wait, .int .i64 s.most, .int .i64 s.tries, .int .u64 s.last, .slice (some ⟨g, 0, none⟩) s.L.length cap, vD, vO] ∧ GoneP w B0 bD bO r vD vO { s with L := s.L.eraseIdx i } (.returned (.tuple #[])) (w6.setCell ⟨r, 5, none⟩ v6)) := Lib.hid fun v6 w6 h6 o6 => by
    have hS : ∀ k, (Value.slice p5 i q5).ownBlock = some k → w.heap.size ≤ k := fun k hk => (owns_type H5.out hk).choose_spec.2.1
    have hr := HR.out.blk.lt
    have b6 := HRB.out.only o6 (fun e => by have := hS _ e; omega)
    have hB6 : Below w.heap.size w w6 := HB5.out.trans (o6.below (B := w.heap.size) HB5.out.size hS)
    rw [HERA.out.1, HERA.out.2] at h6
    have hBw : B0 ≤ w.heap.size := by have := HR.out.ge; omega
    have hR6 := HR.out.below hB6
    have oS := (Only.refl (· = r) w6).set1 (o := 5) (v := v6)
    have hsz := setCell_size w6 ⟨r, 5, none⟩ v6
    refine ⟨b6, rfl, v6, ⟨b6.set 5 _, owns_ge (owns_only h6 oS (owns_ne h6 b6 (by decide))) hBw, owns_only hR6.du oS (owns_ne hR6.du b6 (by decide)), owns_only hR6.ov oS (owns_ne hR6.ov b6 (by decide)), HR.out.ge, ⟨by rw [hsz]; exact hR6.sz.1, by rw [hsz]; exact hR6.sz.2⟩, HSI.out⟩, ?_⟩
    exact (Only.of_below (S := (· = r)) hB6).set1
  have HROW := Lib.hid (show (rowsK (s.L.drop (i + 1))).length = (s.L.length - (i + 1)) * 6 by rw [rowsK_len, List.length_drop])
  have HH : Hid (i + (s.L.length - (i + 1)) < 2147483648) := Lib.hid (by have := HL.out; omega)
  clear HRB HERA HG
  by_cases hcc : cap = i + 1
  · have HC3 : Hid (∀ j u, (rowsK (s.L.drop (i + 1)))[j]? = some u → w5.cell? ⟨g, 0 + j, none⟩ = some u) := Lib.hid fun j u hj => by
      rw [List.getElem?_eq_none (by rw [HROW.out]; have := HL.out; omega)] at hj; cases hj
    clear HC2 hcap HG5
    subst hcc
    go_wp2_with (at_builtin; refine wpl_append_cells (off := 0) (ys := rowsK (s.L.drop (i + 1))) rfl rfl rfl rfl Try.underlying95 info_call rfl (by decide) (by decide) H5.out HROW.out HC3.out (rowsK_one _) HH.out HB5.out.size ?_; intro v6 w6 h6 o6; obtain ⟨p6, c6, rfl⟩ := owns_slice h6; obtain ⟨b6, hf⟩ := HFIN.out _ w6 h6 o6; have HF := Lib.hid hf; have d2 : w6.cell? ⟨r, 5, none⟩ = some (.slice (some ⟨g, 0, none⟩) s.L.length (i + 1)) := (by rw [b6.cell 5]; rfl); have f2 := b6.frozen 5; clear h6 o6 hf b6 d1)
    go_end0
    exact HF.out
  · clear hcap
    go_wp2_with (at_builtin; refine wpl_append_cells (off := (i + 1) * 6) (ys := rowsK (s.L.drop (i + 1))) rfl rfl rfl rfl Try.underlying95 info_call rfl (by decide) (by decide) H5.out HROW.out (HC2.out _ HG5.out) (rowsK_one _) HH.out HB5.out.size ?_; intro v6 w6 h6 o6; obtain ⟨p6, c6, rfl⟩ := owns_slice h6; obtain ⟨b6, hf⟩ := HFIN.out _ w6 h6 o6; have HF := Lib.hid hf; have d2 : w6.cell? ⟨r, 5, none⟩ = some (.slice (some ⟨g, 0, none⟩) s.L.length cap) := (by rw [b6.cell 5]; rfl); have f2 := b6.frozen 5; clear h6 o6 hf b6 d1)
    go_end0
    exact HF.out
end
end Go.Proofs.Ytgdgonmhgpflcaa
