import Derived.Test.YtgdgonmhgpflcaaMgl
import Derived.Test.YtgdgonmhgpflcaaRpcG
import Derived.Test.YtgdgonmhgpflcaaMgd
import Derived.Deep.MidRow

/- What the methods of the caller and of who is called leave of RpcOnce's world, and what its own maps tell. No condition. -/
namespace Go.Proofs.Ytgdgonmhgpflcaa
open Go.RowKit Go.Maps Wire Rp
set_option linter.unusedVariables false
set_option linter.unusedSimpArgs false
theorem zSt (w : World) : (zeroValue 9).run Try.prog w = .ok (.string ⟨#[]⟩) w := Try.zeroValue9 w
theorem zIn (w : World) : (zeroValue 3).run Try.prog w = .ok (.int .i64 0) w := Try.zeroValue3 w
section
variable {w0 w w' : World} {g b h cx hx bd bo ha hd N N' : Nat} {B Bp Mp : Int → Nat} {d : Wd} {vd vo vw vj : Value} {fn : Bool}
theorem w_call (x : OW w0 w g b h cx hx bd bo B Bp Mp d vd vo vw vj ha hd N fn) {wh now : Int} {body : ByteArray} (hn : d.c.du.length ≤ 1000000) (hN : N ≤ 900000) {r : Int × Int × St} (hr : callS d.c wh body now = r) :
    Calls Try.prog 30 #[.pointer (some ⟨b, 0, none⟩), .int .i64 wh, .string body, .int .i64 now] w fun e w' => e = .returned (.tuple #[.int .u64 r.1, .int .i64 r.2.1]) ∧ ∃ B' vd' vo', OW w0 w' g b h cx hx bd bo B' Bp Mp { d with c := r.2.2 } vd' vo' vw vj ha hd (N + 1) fn := by
  refine (call_any x.duo.cw (by omega) (by omega) hr).mono ?_
  rintro e w' ⟨rfl, B', vd', N', hc, hn', ho⟩
  exact ⟨rfl, _, _, _, x.onC (Nat.le_succ N) (hc.mono hn') ho⟩
theorem w_take (x : OW w0 w g b h cx hx bd bo B Bp Mp d vd vo vw vj ha hd N fn) {fr : Int} {p : Pk} (hu : U64 p.seq) (hn : d.c.ov.length ≤ 1000000) {r : Bool × Int × St} (hr : takeS d.c fr p = r) :
    Calls Try.prog 36 #[.pointer (some ⟨b, 0, none⟩), .int .i64 fr, pv p] w fun e w' => e = .returned (.tuple #[.bool r.1, .int .i64 r.2.1]) ∧ ∃ B' vd' vo', OW w0 w' g b h cx hx bd bo B' Bp Mp { d with c := r.2.2 } vd' vo' vw vj ha hd N fn := by
  refine (take_any x.duo.cw hu (by omega) hr).mono ?_
  rintro e w' ⟨rfl, vo', hc, ho⟩
  exact ⟨rfl, _, _, _, x.onC (Nat.le_refl N) hc ho⟩
theorem w_tick (x : OW w0 w g b h cx hx bd bo B Bp Mp d vd vo vw vj ha hd N fn) {now : Int} (hn : d.c.du.length ≤ 1000000 ∧ d.c.ov.length ≤ 1000000) {r : Int × St} (hr : tickS d.c now = r) :
    Calls Try.prog 28 #[.pointer (some ⟨b, 0, none⟩), .int .i64 now] w fun e w' => e = .returned (.int .i64 r.1) ∧ ∃ B' vd' vo', OW w0 w' g b h cx hx bd bo B' Bp Mp { d with c := r.2 } vd' vo' vw vj ha hd N fn := by
  subst hr
  refine (tick_any x.duo.cw hn).mono ?_
  rintro e w' ⟨rfl, vd', vo', hc, ho⟩
  exact ⟨rfl, _, _, _, x.onC (Nat.le_refl N) hc ho⟩
theorem w_due (x : OW w0 w g b h cx hx bd bo B Bp Mp d vd vo vw vj ha hd N fn) :
    Calls Try.prog 31 #[.pointer (some ⟨b, 0, none⟩)] w fun e w' => e = .returned vd ∧ w'.ownsRow bd 101 2 vd d.c.du.length (rowsD d.c.du) ∧ (∀ k, vd.ownBlock = some k → k < w'.heap.size) ∧ OW w0 w' g b h cx hx w.heap.size bo B Bp Mp { d with c := { d.c with du := [] } } (.slice none 0 0) vo vw vj ha hd N fn := by
  refine (due_any x.duo.cw).mono ?_
  rintro e w' ⟨rfl, hc, hrow, ho⟩
  exact ⟨rfl, hrow, fun k hk => (owns_type hrow hk).choose_spec.2.2, x.onC (Nat.le_refl N) hc (onC_b ho)⟩
theorem w_ended (x : OW w0 w g b h cx hx bd bo B Bp Mp d vd vo vw vj ha hd N fn) :
    Calls Try.prog 32 #[.pointer (some ⟨b, 0, none⟩)] w fun e w' => e = .returned vo ∧ w'.ownsRow bo 83 4 vo d.c.ov.length (rowsO d.c.ov) ∧ OW w0 w' g b h cx hx bd w.heap.size B Bp Mp { d with c := { d.c with ov := [] } } vd (.slice none 0 0) vw vj ha hd N fn := by
  refine (ended_any x.duo.cw).mono ?_
  rintro e w' ⟨rfl, hc, hrow, ho⟩
  exact ⟨rfl, hrow, x.onC (Nat.le_refl N) hc (onC_b ho)⟩
theorem w_calls (x : OW w0 w g b h cx hx bd bo B Bp Mp d vd vo vw vj ha hd N fn) :
    Calls Try.prog 24 #[.pointer (some ⟨b, 0, none⟩)] w fun e w' => (∃ p c, e = .returned (.slice p d.c.L.length c)) ∧ OW w0 w' g b h cx hx bd bo B Bp Mp d vd vo vw vj ha hd N fn := by
  refine (calls_any x.duo.cw).mono ?_
  rintro e w' ⟨v, rfl, hrow, hb⟩
  obtain ⟨p, c, rfl⟩ := owns_slice hrow
  exact ⟨⟨p, c, rfl⟩, x.below hb⟩
theorem w_dtake (x : OW w0 w g b h cx hx bd bo B Bp Mp d vd vo vw vj ha hd N fn) {fr : Int} {p : Pk} (hu : U64 p.seq ∧ I64 fr) (hN : N ≤ 900000) {r : (Int × ByteArray × Int) × List Pe} (hr : takeD d.d fr p = r) :
    Calls Try.prog 18 #[.pointer (some ⟨cx, 0, none⟩), .int .i64 fr, pv p] w fun e w' => e = .returned (.tuple #[.int .u8 r.1.1, .string r.1.2.1, .int .i64 r.1.2.2]) ∧ ∃ Bp' Mp', OW w0 w' g b h cx hx bd bo B Bp' Mp' { d with d := r.2 } vd vo vw vj ha hd (N + 2) fn := by
  refine (dtake_any x.duo.cd hu hN hr).mono ?_
  rintro e w' ⟨rfl, B', M', N', hc, hn', ho, hm⟩
  exact ⟨rfl, _, _, x.onD (Nat.le_add_right N 2) (hc.mono hn') ho hm⟩
theorem w_ans (x : OW w0 w g b h cx hx bd bo B Bp Mp d vd vo vw vj ha hd N fn) {fr inc sq : Int} {body : ByteArray} (hu : U64 sq ∧ I64 fr) (hN : N ≤ 900000) {r : (ByteArray × Int) × List Pe} (hr : ansD d.d fr inc sq body = r) :
    Calls Try.prog 16 #[.pointer (some ⟨cx, 0, none⟩), .int .i64 fr, .int .u64 inc, .int .u64 sq, .string body] w fun e w' => e = .returned (.tuple #[.string r.1.1, .int .i64 r.1.2]) ∧ ∃ Bp' Mp', OW w0 w' g b h cx hx bd bo B Bp' Mp' { d with d := r.2 } vd vo vw vj ha hd (N + 2) fn := by
  refine (ans_any x.duo.cd hu hN hr).mono ?_
  rintro e w' ⟨rfl, B', M', N', hc, hn', ho, hm⟩
  exact ⟨rfl, _, _, x.onD (Nat.le_add_right N 2) (hc.mono hn') ho hm⟩
/-! ### The law's own maps -/
theorem OW.asked (x : OW w0 w g b h cx hx bd bo B Bp Mp d vd vo vw vj ha hd N fn) {s : Int} {t : ByteArray} (hm : (s, t) ∈ d.ask) (hu : U64 s) : (Instr.lookup 58 (.map (some ha)) (.int .u64 s) false).run Try.prog w = .ok (.string t) w :=
  x.am.at kdR Try.underlying58 (zSt w) rfl hm (keyR hu)
theorem OW.done (x : OW w0 w g b h cx hx bd bo B Bp Mp d vd vo vw vj ha hd N fn) {s : Int} (hm : s ∈ d.dn) (hu : U64 s) : (Instr.lookup 59 (.map (some hd)) (.int .u64 s) false).run Try.prog w = .ok (.int .i64 1) w :=
  x.dm.at kdR Try.underlying59 (zIn w) rfl (List.mem_map.2 ⟨s, hm, rfl⟩) (keyR hu)
theorem OW.notyet (x : OW w0 w g b h cx hx bd bo B Bp Mp d vd vo vw vj ha hd N fn) {s : Int} (hm : ¬ s ∈ d.dn) (hu : U64 s) : (Instr.lookup 59 (.map (some hd)) (.int .u64 s) false).run Try.prog w = .ok (.int .i64 0) w := by
  obtain ⟨D, o, h1, h2, h3⟩ := x.dm
  obtain ⟨v, ps, hr, hv⟩ := World.ownsMap.lookup o kdR Try.underlying59 (zIn w) (show layN.rd (.int .i64 0) = some (.lit (.int .i64 0), []) from rfl) (keyR hu)
  have hf : Maps.has D (KR s) = false := by
    cases hh : Maps.has D (KR s) with
    | false => rfl
    | true =>
      obtain ⟨a, ha, e⟩ := (h2 (KR s)).1 hh
      obtain ⟨y, hy, rfl⟩ := List.mem_map.1 ha
      have e' : KR y = KR s := e
      exact absurd (Classical.byContradiction fun hn => kr_ne hn e' : y = s) (fun e => hm (e ▸ hy))
  rw [atKey_of_not_has hf] at hv
  rw [hr, idE_inv hv]
/-- Behind a turn of one of them. -/
theorem OW.onA (x : OW w0 w g b h cx hx bd bo B Bp Mp d vd vo vw vj ha hd N fn) {ask' : List (Int × ByteArray)} (m : Ml.At layA Try.prog 22 w' ha ask' N') (hN : N ≤ N') (o : Only (· = ha) w w') : OW w0 w' g b h cx hx bd bo B Bp Mp { d with ask := ask' } vd vo vw vj ha hd N' fn :=
  ⟨(x.mine o (fun k e => .inr (.inl e))).mono hN, x.blk.only o (fun e => at_noblk x.am x.blk e.symm), x.wr.only o (fun k hk e => by obtain ⟨A, hA, _⟩ := x.wr.ty hk; exact at_noblk x.am hA e.symm), owns_only x.jr o (fun k hk e => by obtain ⟨A, hA, _⟩ := owns_type x.jr hk; exact at_noblk x.am hA e.symm), m, (x.dm.only o (fun e => x.ne.2.2.2.2 e.symm)).mono hN, x.ne, x.lo⟩
theorem OW.onN (x : OW w0 w g b h cx hx bd bo B Bp Mp d vd vo vw vj ha hd N fn) {dn' : List Int} (m : Ml.At layN Try.prog 22 w' hd (dn'.map onc1) N') (hN : N ≤ N') (o : Only (· = hd) w w') : OW w0 w' g b h cx hx bd bo B Bp Mp { d with dn := dn' } vd vo vw vj ha hd N' fn :=
  ⟨(x.mine o (fun k e => .inr (.inr (.inl e)))).mono hN, x.blk.only o (fun e => at_noblk x.dm x.blk e.symm), x.wr.only o (fun k hk e => by obtain ⟨A, hA, _⟩ := x.wr.ty hk; exact at_noblk x.dm hA e.symm), owns_only x.jr o (fun k hk e => by obtain ⟨A, hA, _⟩ := owns_type x.jr hk; exact at_noblk x.dm hA e.symm), (x.am.only o (fun e => x.ne.2.2.2.2 e)).mono hN, m, x.ne, x.lo⟩
theorem OW.putA (x : OW w0 w g b h cx hx bd bo B Bp Mp d vd vo vw vj ha hd N fn) {s : Int} {t : ByteArray} (hn : ∀ a ∈ d.ask, a.1 ≠ s) : ∃ D, w.ownsMap Try.prog 22 sdE ha N D ∧ ∀ w5, w5.ownsMap Try.prog 22 sdE ha (N + 1) (D.put (KR s) (.lit (.string t.data.toList))) → w.grownBy w5 (some ha) → OW w0 w5 g b h cx hx bd bo B Bp Mp { d with ask := d.ask ++ [(s, t)] } vd vo vw vj ha hd (N + 1) fn := by
  obtain ⟨D, o, h1, h2, h3⟩ := x.am
  refine ⟨D, o, fun w5 o5 g5 => x.onA (Ml.At.of_put (l := layA) (g := (s, t)) kdR o h1 h2 h3 (fun ⟨a, ha, e⟩ => ?_) o5) (Nat.le_succ N) (only_map g5)⟩
  exact kr_ne (hn a ha) e
theorem OW.putN (x : OW w0 w g b h cx hx bd bo B Bp Mp d vd vo vw vj ha hd N fn) {s : Int} (hn : ¬ s ∈ d.dn) : ∃ D, w.ownsMap Try.prog 22 idE hd N D ∧ ∀ w5, w5.ownsMap Try.prog 22 idE hd (N + 1) (D.put (KR s) (.lit (.int .i64 1))) → w.grownBy w5 (some hd) → OW w0 w5 g b h cx hx bd bo B Bp Mp { d with dn := d.dn ++ [s] } vd vo vw vj ha hd (N + 1) fn := by
  obtain ⟨D, o, h1, h2, h3⟩ := x.dm
  have hno : ¬ ∃ a ∈ d.dn.map onc1, layN.key a = layN.key (onc1 s) := fun ⟨a, ha, e⟩ => by
    obtain ⟨y, hy, rfl⟩ := List.mem_map.1 ha
    exact kr_ne (fun e2 : y = s => hn (e2 ▸ hy)) e
  refine ⟨D, o, fun w5 o5 g5 => ?_⟩
  have m : Ml.At layN Try.prog 22 w5 hd (d.dn.map onc1 ++ [onc1 s]) (N + 1) := Ml.At.of_put (l := layN) (g := onc1 s) kdR o h1 h2 h3 hno o5
  exact x.onN (by rw [List.map_append]; exact m) (Nat.le_succ N) (only_map g5)
end
end Go.Proofs.Ytgdgonmhgpflcaa


/- RpcOnce's world while the caller begins anew; how much is on its way. No condition. -/
namespace Go.Proofs.Ytgdgonmhgpflcaa
open Go.RowKit Go.Maps Wire Rp
set_option linter.unusedVariables false
set_option linter.unusedSimpArgs false
/-- The world without its caller. -/
structure OB (w0 w : World) (g cx hx : Nat) (Bp Mp : Int → Nat) (d : Wd) (vc va vn vw vj : Value) (N : Nat) : Prop where
  cd : CdW w w0.heap.size cx hx Bp Mp d.d N
  bel : Below w0.heap.size w0 w
  blk : Blk w g 61 #[vc, .pointer (some ⟨cx, 0, none⟩), .int .u64 d.inc, .int .i64 d.now, vw, vj, va, vn, .bool true]
  wr : RowV w w0.heap.size 66 2 vw d.ways.length (d.ways.flatMap wrow)
  jr : w.ownsRow w0.heap.size 145 3 vj d.jobs.length (d.jobs.flatMap jrow)
  lo : w0.heap.size ≤ g
section
variable {w0 w w' : World} {g b h cx hx bd bo ha hd N N' : Nat} {B Bp Mp : Int → Nat} {d : Wd} {vd vo vw vj vc va vn v : Value}
theorem OW.ob (x : OW w0 w g b h cx hx bd bo B Bp Mp d vd vo vw vj ha hd N true) : OB w0 w g cx hx Bp Mp d (.pointer (some ⟨b, 0, none⟩)) (.map (some ha)) (.map (some hd)) vw vj N :=
  ⟨x.duo.cd, x.duo.bel, x.blk, x.wr, x.jr, x.lo.1⟩
theorem OB.below (x : OB w0 w g cx hx Bp Mp d vc va vn vw vj N) (hb : Below w.heap.size w w') : OB w0 w' g cx hx Bp Mp d vc va vn vw vj N :=
  ⟨x.cd.below hb, x.bel.trans (hb.mono x.bel.size), x.blk.below hb, x.wr.below hb, owns_below x.jr hb, x.lo⟩
/-- A field turns. -/
theorem OB.set (x : OB w0 w g cx hx Bp Mp d vc va vn vw vj N) {f : Nat} {d' : Wd} {vc' va' vn' : Value} (hc : (#[vc, .pointer (some ⟨cx, 0, none⟩), .int .u64 d.inc, .int .i64 d.now, vw, vj, va, vn, .bool true] : Array Value).setIfInBounds f v = #[vc', .pointer (some ⟨cx, 0, none⟩), .int .u64 d'.inc, .int .i64 d'.now, vw, vj, va', vn', .bool true]) (he : d'.d = d.d ∧ d'.ways = d.ways ∧ d'.jobs = d.jobs) :
    OB w0 (w.setCell ⟨g, f, none⟩ v) g cx hx Bp Mp d' vc' va' vn' vw vj N := by
  obtain ⟨e1, e2, e3⟩ := he
  have o : Only (· = g) w (w.setCell ⟨g, f, none⟩ v) := (Only.refl (· = g) w).set1
  have keyg : ∀ {k : Nat} {T : TypeId} {A : Array Value}, Blk w k T A → T ≠ 61 → ¬ k = g := fun hk ht e => by subst e; exact ht (blk_ne hk x.blk)
  refine ⟨?_, x.bel.trans (Only.below o x.bel.size fun k e => by have e' : k = g := e; have := x.lo; omega), by rw [← hc]; exact x.blk.set f v, ?_, ?_, x.lo⟩
  · rw [e1]
    exact x.cd.only o (keyg x.cd.blk (by decide)) (fun k hk e => by have e' : k = g := e; subst e'; exact mo_noblk x.cd hk x.blk) (fun k A hk => keyg hk (by decide))
  · rw [e2]
    exact x.wr.only o (fun k hk => by obtain ⟨A, hA, _⟩ := x.wr.ty hk; exact keyg hA (by decide))
  · rw [e3]
    exact owns_only x.jr o (fun k hk => by obtain ⟨A, hA, _⟩ := owns_type x.jr hk; exact keyg hA (by decide))
end
namespace Rp
/-- How many steps are left. -/
def pot (d : Wd) : Nat := (d.ways.map fun y => if y.1 then 1 else 3).sum + 2 * d.jobs.length
theorem sum_ge (l : List (Bool × ByteArray)) : l.length ≤ (l.map fun y => if y.1 then 1 else 3).sum := by
  induction l with
  | nil => exact Nat.le_refl _
  | cons a l ih => rw [List.map_cons, List.sum_cons, List.length_cons]; split <;> omega
theorem sum_le (l : List (Bool × ByteArray)) : (l.map fun y => if y.1 then 1 else 3).sum ≤ 3 * l.length := by
  induction l with
  | nil => exact Nat.le_refl _
  | cons a l ih => rw [List.map_cons, List.sum_cons, List.length_cons]; split <;> omega
theorem pot_ways (d : Wd) : d.ways.length ≤ pot d := by have := sum_ge d.ways; unfold pot; omega
theorem pot_jobs (d : Wd) : d.jobs.length ≤ pot d := by unfold pot; omega
theorem pot_way (d : Wd) (y : Bool × ByteArray) : pot { d with ways := d.ways ++ [y] } = pot d + (if y.1 then 1 else 3) := by
  unfold pot
  rw [List.map_append, List.sum_append, List.map_cons, List.map_nil, List.sum_cons, List.sum_nil]
  dsimp only
  omega
theorem pot_job (d : Wd) (j : Int × Int × ByteArray) : pot { d with jobs := d.jobs ++ [j] } = pot d + 2 := by
  unfold pot
  rw [List.length_append, List.length_singleton]
  dsimp only
  omega
theorem sum_cut (l : List (Bool × ByteArray)) (i : Nat) (hi : i < l.length) : ((l.take i ++ l.drop (i + 1)).map fun y => if y.1 then 1 else 3).sum + (if l[i].1 then 1 else 3) = (l.map fun y => if y.1 then 1 else 3).sum := by
  have e : l = l.take i ++ l[i] :: l.drop (i + 1) := by rw [List.getElem_cons_drop, List.take_append_drop]
  have e2 : (l.map fun y => if y.1 then 1 else 3).sum = ((l.take i ++ l[i] :: l.drop (i + 1)).map fun y => if y.1 then 1 else 3).sum := by rw [← e]
  rw [e2, List.map_append, List.sum_append, List.map_append, List.sum_append, List.map_cons, List.sum_cons]
  omega
theorem pot_cut (d : Wd) (i : Nat) (hi : i < d.ways.length) : pot { d with ways := d.ways.take i ++ d.ways.drop (i + 1) } + (if d.ways[i].1 then 1 else 3) = pot d := by
  have := sum_cut d.ways i hi
  unfold pot
  dsimp only
  omega
theorem pot_cutj (d : Wd) (i : Nat) (hi : i < d.jobs.length) : pot { d with jobs := d.jobs.take i ++ d.jobs.drop (i + 1) } + 2 = pot d := by
  unfold pot
  dsimp only
  rw [List.length_append, List.length_take, List.length_drop]
  omega
theorem pot_sends (d : Wd) : pot (sendsW d) = pot d + 3 * d.c.du.length := by
  unfold pot sendsW
  dsimp only
  rw [List.map_append, List.sum_append]
  have : ∀ l : List (Int × ByteArray), ((l.map fun q => ((false, q.2) : Bool × ByteArray)).map fun y => if y.1 then 1 else 3).sum = 3 * l.length := by
    intro l
    induction l with
    | nil => rfl
    | cons a l ih =>
      rw [List.map_cons, List.map_cons, List.sum_cons, ih, List.length_cons]
      rw [if_neg (by simp)]
      omega
  rw [this]
  omega
end Rp
end Go.Proofs.Ytgdgonmhgpflcaa


/- What a text that comes leaves of RpcOnce's world, as data. No program in sight. -/
namespace Go.Proofs.Ytgdgonmhgpflcaa
open Go.RowKit Go.Maps Wire Rp
set_option linter.unusedVariables false
set_option linter.unusedSimpArgs false
namespace Rp
theorem WayOk.pk {d : Wd} {bk : Bool} {t : ByteArray} (h : WayOk d (bk, t)) : ∃ p : Pk, t = pkS p ∧ mayP p = true ∧ p.an = bk ∧ p.inc ≤ d.inc := by
  obtain ⟨p, h1, h2, h3, h4, _⟩ := h
  exact ⟨p, h1, h2, h3, h4⟩
/-- Behind a call's text. -/
inductive Come (d : Wd) (p : Pk) (r : (Int × ByteArray × Int) × List Pe) : Prop
  | new (hk : r.1.1 = 1) (h : OInv { d with d := r.2, jobs := d.jobs ++ [(p.inc, p.seq, p.body)], dn := if p.inc = d.inc then d.dn ++ [p.seq] else d.dn }) (hn : p.inc = d.inc → p.seq ∉ d.dn ∧ (p.seq, p.body) ∈ d.ask)
  | again (hk : r.1.1 = 2) (h : OInv { d with d := r.2, ways := d.ways ++ [(true, r.1.2.1)] })
  | none (hk : r.1.1 = 3 ∨ r.1.1 = 4) (h : OInv { d with d := r.2 })
theorem come_call {d : Wd} (h : OInv d) {p : Pk} (hy : WayOk d (false, pkS p)) (hm : mayP p = true) (ha : p.an = false) (hi : p.inc ≤ d.inc) : (takeD d.d 1 p).1.2.2 = 0 ∧ Come d p (takeD d.d 1 p) := by
  have hc := h.cur hm hi
  have hg : (placeB 1 && mayP p && !p.an) = true := by rw [hm, ha]; rfl
  have ht : takeD d.d 1 p = (((hear (curPe (lookP d.d 1) 1 p) p).1.1, (hear (curPe (lookP d.d 1) 1 p) p).1.2, 0), setPe d.d (hear (curPe (lookP d.d 1) 1 p) p).2) := by
    unfold takeD
    rw [hg, if_neg (by decide)]
  rw [ht]
  refine ⟨rfl, ?_⟩
  generalize curPe (lookP d.d 1) 1 p = x at *
  obtain ⟨h1, hle, hfr⟩ := hc
  have hlk : lookP (setPe d.d x) 1 = some x := look_set_self hfr
  unfold hear
  by_cases hold : p.inc < x.inc ∨ p.seq ≤ x.floor
  · rw [if_pos hold]
    exact .none (.inr rfl) h1
  · rw [if_neg hold]
    have he : p.inc = x.inc := by omega
    cases hl : lookH x.L p.seq with
    | some g =>
      dsimp only
      by_cases hd : g.dn = true
      · rw [if_pos hd]
        have hw := h1.again hlk (lookH_some hl).1 hd
        exact .again rfl (h1.way hw)
      · rw [if_neg hd]
        exact .none (.inl rfl) h1
    | none =>
      dsimp only
      by_cases h64 : 64 ≤ cntD false x.L
      · rw [if_pos h64]
        exact .none (.inl rfl) h1
      · rw [if_neg h64]
        have hw : WayOk { d with d := setPe d.d x } (false, pkS p) := hy.more rfl (fun _ e => e) (fun _ e => e)
        obtain ⟨h2, h3⟩ := h1.new hlk hm ha hw he (fun e => hold (.inr e)) hl
        refine .new rfl ?_ h3
        unfold newW at h2
        dsimp only at h2
        rw [setPe_setPe (show ({ x with L := x.L ++ [⟨p.seq, false, ⟨#[]⟩⟩] } : Pe).fr = x.fr from rfl)] at h2
        exact h2
/-- Time's bound is kept where the calls are fewer. -/
theorem TmB.less {d d' : Wd} {B : Int} (h : TmB d B) (hn : d'.now = d.now) (hl : ∀ x ∈ d'.c.L, x ∈ d.c.L) : TmB d' B := fun x hx => by
  have := h x (hl x hx)
  rw [hn]
  exact this
theorem take_less (s : St) (fr : Int) (p : Pk) : (∀ x ∈ (takeS s fr p).2.2.L, x ∈ s.L) ∧ (takeS s fr p).2.2.du = s.du ∧ (takeS s fr p).2.2.last = s.last ∧ (takeS s fr p).2.2.ov.length ≤ s.ov.length + 1 := by
  unfold takeS
  split
  · exact ⟨fun x hx => hx, rfl, rfl, Nat.le_succ _⟩
  · split
    · exact ⟨fun x hx => hx, rfl, rfl, Nat.le_succ _⟩
    · split
      · refine ⟨fun x hx => (List.mem_filter.1 hx).1, rfl, rfl, ?_⟩
        show (s.ov ++ [_]).length ≤ _
        simp
      · exact ⟨fun x hx => hx, rfl, rfl, Nat.le_succ _⟩
end Rp
end Go.Proofs.Ytgdgonmhgpflcaa


/- How far an act, a text that comes, an answer take RpcOnce's world, as data. No program in sight. -/
namespace Go.Proofs.Ytgdgonmhgpflcaa
open Go.RowKit Go.Maps Wire Rp
set_option linter.unusedVariables false
set_option linter.unusedSimpArgs false
namespace Rp
/-- What holds between two calls of the law's. -/
structure At0 (d : Wd) : Prop where
  inv : OInv d
  du : d.c.du = []
  ov : d.c.ov = []
/-- From d to d', ahead of 'sends'. -/
structure Adv (d : Wd) (N : Nat) (d' : Wd) (N' : Nat) : Prop where
  inv : OInv d'
  du : d'.c.du.length ≤ 64
  ov : d'.c.ov.length ≤ 64
  pt : N' + 3 * pot d' ≤ N + 3 * pot d + 10
  now : d'.now ≤ d.now + 64
  inc : d'.inc ≤ d.inc + 1
  last : d'.c.last ≤ d.c.last + 1
/-- From d to d', an act. -/
structure Step (d : Wd) (N : Nat) (d' : Wd) (N' : Nat) : Prop where
  at0 : At0 d'
  pt : N' + 3 * pot d' ≤ N + 3 * pot d + 600
  now : d'.now ≤ d.now + 64
  inc : d'.inc ≤ d.inc + 1
  last : d'.c.last ≤ d.c.last + 1
theorem Adv.sends {d d' : Wd} {N N' : Nat} (h : Adv d N d' N') : Step d N (sendsW d') N' := by
  refine ⟨⟨h.inv.sends, rfl, rfl⟩, ?_, h.now, h.inc, h.last⟩
  rw [pot_sends]
  have := h.du
  have := h.pt
  omega
theorem Adv.same {d : Wd} {N : Nat} (h : At0 d) : Adv d N d N :=
  ⟨h.inv, by rw [h.du]; exact Nat.zero_le _, by rw [h.ov]; exact Nat.zero_le _, by omega, by omega, by omega, by omega⟩
theorem call_len (s : St) (wh : Int) (b : ByteArray) (now : Int) : (callS s wh b now).2.2.du.length ≤ s.du.length + 1 ∧ (callS s wh b now).2.2.ov = s.ov ∧ s.last ≤ (callS s wh b now).2.2.last ∧ (callS s wh b now).2.2.last ≤ s.last + 1 := by
  unfold callS
  split
  · exact ⟨Nat.le_succ _, rfl, Int.le_refl _, by show s.last ≤ s.last + 1; omega⟩
  · split
    · exact ⟨Nat.le_succ _, rfl, Int.le_refl _, by show s.last ≤ s.last + 1; omega⟩
    · split
      · exact ⟨Nat.le_succ _, rfl, Int.le_refl _, by show s.last ≤ s.last + 1; omega⟩
      · split
        · exact ⟨Nat.le_succ _, rfl, Int.le_refl _, by show s.last ≤ s.last + 1; omega⟩
        · refine ⟨?_, rfl, by show s.last ≤ s.last + 1; omega, Int.le_refl _⟩
          show (s.du ++ [_]).length ≤ _
          simp
theorem Adv.call {d : Wd} {N N' : Nat} (h : At0 d) (s : ByteArray) (hl : d.c.last < 1000000) (hs : SInv (callS d.c 2 s d.now).2.2) (hN : N' ≤ N + 2) : Adv d N (callW d s) N' := by
  have hc := call_len d.c 2 s d.now
  refine ⟨h.inv.call s hl hs, ?_, ?_, ?_, by show d.now ≤ d.now + 64; omega, by show d.inc ≤ d.inc + 1; omega, hc.2.2.2⟩
  · have := hc.1
    rw [h.du] at this
    show (callS d.c 2 s d.now).2.2.du.length ≤ 64
    simp at this
    omega
  · show (callS d.c 2 s d.now).2.2.ov.length ≤ 64
    rw [hc.2.1, h.ov]
    exact Nat.zero_le _
  · show N' + 3 * pot d ≤ _
    omega
theorem tick_du (s : St) (now : Int) (h : s.L.length ≤ 64) : (tickS s now).2.du.length ≤ s.du.length + 64 ∧ (tickS s now).2.ov.length ≤ s.ov.length + 64 ∧ (tickS s now).2.last = s.last := by
  unfold tickS
  split
  · have := tick_len s now s.L.length (Nat.le_refl _)
    exact ⟨by show (tickAt s now s.L.length).du.length ≤ _; omega, by show (tickAt s now s.L.length).ov.length ≤ _; omega, rfl⟩
  · exact ⟨Nat.le_add_right _ _, Nat.le_add_right _ _, rfl⟩
theorem Adv.tick {d : Wd} {N : Nat} (h : At0 d) {now : Int} (hn : d.now ≤ now ∧ now ≤ d.now + 64 ∧ now ≤ 1000000) (hs : SInv (tickS d.c now).2) : Adv d N (tickW d now) N := by
  have hc := tick_du d.c now h.inv.sv.len
  refine ⟨(h.inv.tick ⟨hn.1, hn.2.2⟩ hs).1, ?_, ?_, ?_, hn.2.1, by show d.inc ≤ d.inc + 1; omega, ?_⟩
  · have := hc.1; rw [h.du] at this
    show (tickS d.c now).2.du.length ≤ 64
    simpa using this
  · have := hc.2.1; rw [h.ov] at this
    show (tickS d.c now).2.ov.length ≤ 64
    simpa using this
  · show N + 3 * pot d ≤ _
    omega
  · show (tickS d.c now).2.last ≤ _
    rw [hc.2.2]; omega
theorem Adv.crash {d : Wd} {N : Nat} (h : At0 d) (hi : d.inc < 1000000) (hs : SInv (⟨d.inc + 1, 4, 16, 60, 0, [], [], []⟩ : St)) : Adv d N (crashW d) N := by
  refine ⟨h.inv.crash hi hs, Nat.zero_le _, Nat.zero_le _, ?_, by show d.now ≤ d.now + 64; omega, Int.le_refl _, ?_⟩
  · show N + 3 * pot d ≤ _
    omega
  · show (0 : Int) ≤ d.c.last + 1
    have := h.inv.last
    omega
/-- What a text that comes, or an answer, leaves alone. -/
structure Mid (d d' : Wd) : Prop where
  inv : OInv d'
  now : d'.now = d.now
  inc : d'.inc = d.inc
  last : d'.c.last = d.c.last
  du : d'.c.du = d.c.du
  ov : d'.c.ov.length ≤ d.c.ov.length + 1
  L : ∀ x ∈ d'.c.L, x ∈ d.c.L
theorem Mid.refl {d : Wd} (h : OInv d) : Mid d d := ⟨h, rfl, rfl, rfl, rfl, Nat.le_succ _, fun x hx => hx⟩
/-- Behind an answer that comes. -/
theorem mid_back {d : Wd} (h : OInv d) {p : Pk} (hy : WayOk d (true, pkS p)) (hm : mayP p = true) (hs : SInv (takeS d.c 2 p).2.2) : Mid d (backW d p) ∧ pot (backW d p) = pot d := by
  have ht := take_less d.c 2 p
  exact ⟨⟨h.back hy rfl (dec_enc hm).2 hs, rfl, rfl, ht.2.2.1, ht.2.1, ht.2.2.2, ht.1⟩, rfl⟩
/-- Behind a call's text. -/
def comeW (d : Wd) (p : Pk) (r : (Int × ByteArray × Int) × List Pe) : Wd :=
  if r.1.1 = 1 then { d with d := r.2, jobs := d.jobs ++ [(p.inc, p.seq, p.body)], dn := if p.inc = d.inc then d.dn ++ [p.seq] else d.dn } else if r.1.1 = 2 then { d with d := r.2, ways := d.ways ++ [(true, r.1.2.1)] } else { d with d := r.2 }
theorem mid_come {d : Wd} (h : OInv d) {p : Pk} (hy : WayOk d (false, pkS p)) (hm : mayP p = true) (ha : p.an = false) (hi : p.inc ≤ d.inc) : Mid d (comeW d p (takeD d.d 1 p)) ∧ pot (comeW d p (takeD d.d 1 p)) ≤ pot d + 2 := by
  obtain ⟨_, hc⟩ := come_call h hy hm ha hi
  unfold comeW
  cases hc with
  | new hk h2 hn =>
    rw [if_pos hk]
    exact ⟨⟨h2, rfl, rfl, rfl, rfl, Nat.le_succ _, fun x hx => hx⟩, Nat.le_of_eq (pot_job d (p.inc, p.seq, p.body))⟩
  | again hk h2 =>
    rw [if_neg (by rw [hk]; decide), if_pos hk]
    refine ⟨⟨h2, rfl, rfl, rfl, rfl, Nat.le_succ _, fun x hx => hx⟩, ?_⟩
    have := pot_way d (true, (takeD d.d 1 p).1.2.1)
    rw [if_pos rfl] at this
    show pot { d with ways := d.ways ++ [(true, (takeD d.d 1 p).1.2.1)] } ≤ pot d + 2
    omega
  | none hk h2 =>
    rw [if_neg (by omega), if_neg (by omega)]
    exact ⟨⟨h2, rfl, rfl, rfl, rfl, Nat.le_succ _, fun x hx => hx⟩, Nat.le_add_right _ _⟩
/-- Behind an answer that is given. -/
def doesW (d : Wd) (i : Nat) (j : Int × Int × ByteArray) (r : (ByteArray × Int) × List Pe) : Wd :=
  { d with d := r.2, jobs := d.jobs.take i ++ d.jobs.drop (i + 1), ways := if r.1.2 = 0 then d.ways ++ [(true, r.1.1)] else d.ways }
theorem mid_does {d : Wd} (h : OInv d) (i : Nat) (hi : i < d.jobs.length) : Mid d (doesW d i d.jobs[i] (ansD d.d 1 d.jobs[i].1 d.jobs[i].2.1 (did d.jobs[i].2.2))) ∧ pot (doesW d i d.jobs[i] (ansD d.d 1 d.jobs[i].1 d.jobs[i].2.1 (did d.jobs[i].2.2))) + 1 ≤ pot d := by
  have hj := h.jobs _ (List.getElem_mem hi)
  obtain ⟨h1, h2⟩ := h.ansd hj
  have h3 := h1.lessj (l := d.jobs.take i ++ d.jobs.drop (i + 1)) (fun y hy => by
    rcases List.mem_append.1 hy with hy | hy
    · exact List.mem_of_mem_take hy
    · exact List.mem_of_mem_drop hy)
  have hp := pot_cutj d i hi
  unfold doesW
  generalize ansD d.d 1 d.jobs[i].1 d.jobs[i].2.1 (did d.jobs[i].2.2) = r at *
  by_cases hr : r.1.2 = 0
  · rw [if_pos hr]
    have hw : WayOk { d with d := r.2, jobs := d.jobs.take i ++ d.jobs.drop (i + 1) } (true, r.1.1) := (h2 hr).more rfl (fun _ e => e) (fun _ e => e)
    refine ⟨⟨h3.way hw, rfl, rfl, rfl, rfl, Nat.le_succ _, fun x hx => hx⟩, ?_⟩
    have := pot_way { d with jobs := d.jobs.take i ++ d.jobs.drop (i + 1) } (true, r.1.1)
    rw [if_pos rfl] at this
    show pot { d with jobs := d.jobs.take i ++ d.jobs.drop (i + 1), ways := d.ways ++ [(true, r.1.1)] } + 1 ≤ pot d
    have e : pot { d with jobs := d.jobs.take i ++ d.jobs.drop (i + 1), ways := d.ways ++ [(true, r.1.1)] } = pot { d with jobs := d.jobs.take i ++ d.jobs.drop (i + 1) } + 1 := this
    omega
  · rw [if_neg hr]
    refine ⟨⟨h3, rfl, rfl, rfl, rfl, Nat.le_succ _, fun x hx => hx⟩, ?_⟩
    show pot { d with jobs := d.jobs.take i ++ d.jobs.drop (i + 1) } + 1 ≤ pot d
    omega
theorem Adv.mid {d d' : Wd} {N N' : Nat} (h : At0 d) (m : Mid d d') (hp : N' + 3 * pot d' ≤ N + 3 * pot d + 10) : Adv d N d' N' :=
  ⟨m.inv, by rw [m.du, h.du]; exact Nat.zero_le _, by have := m.ov; rw [h.ov] at this; simp at this; omega, hp, by have := m.now; omega, by have := m.inc; omega, by have := m.last; omega⟩
/-- A text taken off its way. -/
theorem At0.cut {d : Wd} (h : At0 d) (i : Nat) : At0 { d with ways := d.ways.take i ++ d.ways.drop (i + 1) } :=
  ⟨h.inv.less (fun y hy => by
    rcases List.mem_append.1 hy with hy | hy
    · exact List.mem_of_mem_take hy
    · exact List.mem_of_mem_drop hy), h.du, h.ov⟩
end Rp
end Go.Proofs.Ytgdgonmhgpflcaa


/- Loads and stores of whole blocks. No condition. -/
namespace Go.Proofs.Ytgdgonmhgpflcaa
open Go.RowKit
set_option linter.unusedVariables false
set_option linter.unusedSimpArgs false
section
variable {P : Program} {ops : Array Oper} {rest : List Oper} {o : Oper} {a : Act} {Q : Exit → Act → World → Prop}
/-- A load of a whole block. -/
theorem wpl_load_blk {w : World} {g : Nat} {T : TypeId} {c : Array Value} (hb : Blk w g T c) (hgd : o.guard = none) (ty : TypeId) (x : Operand) (ho : o.op = .load ty x) (hx : a.eval x = .pointer (some ⟨g, 0, none⟩)) {d : TypeDesc}
    (hu : P.underlying ty = some d) (hd : (match d with | .struct _ | .array _ _ => true | _ => false) = true) (hi : (P.info? ty).map (·.size) = some c.size)
    (h : wpList P ops Q rest (a.put o.dst (.agg c)) w) : wpList P ops Q (o :: rest) a w :=
  wpList_plain hgd fun K hK => by
    unfold Oper.wp execOp
    simp only [ho, hx, Instr.loadAt, Instr.sureAddr, Sem.run_bind, Sem.run_pure, Result.andThen_ok, run_loadVar_row w g T ty c (0, 0) d hb hu hd hi]
    exact hK _ _ h
theorem wpList_want (hw : Region.wanted o (yielded ops a.tmps) = true) {w : World} (h : ∀ K : Act → World → Prop, (∀ A W, wpList P ops Q rest A W → K A W) → o.wp P a w K Q) : wpList P ops Q (o :: rest) a w := by
  show if Region.wanted o (yielded ops a.tmps) then _ ∨ _ else _
  rw [if_pos hw]
  exact .inl (h _ fun A W h => h)
/-- .. under a guard that holds. -/
theorem wpl_load_blkg {w : World} {g : Nat} {T : TypeId} {c : Array Value} (hb : Blk w g T c) (hw : Region.wanted o (yielded ops a.tmps) = true) (ty : TypeId) (x : Operand) (ho : o.op = .load ty x) (hx : a.eval x = .pointer (some ⟨g, 0, none⟩)) {d : TypeDesc}
    (hu : P.underlying ty = some d) (hd : (match d with | .struct _ | .array _ _ => true | _ => false) = true) (hi : (P.info? ty).map (·.size) = some c.size)
    (h : wpList P ops Q rest (a.put o.dst (.agg c)) w) : wpList P ops Q (o :: rest) a w :=
  wpList_want hw fun K hK => by
    unfold Oper.wp execOp
    simp only [ho, hx, Instr.loadAt, Instr.sureAddr, Sem.run_bind, Sem.run_pure, Result.andThen_ok, run_loadVar_row w g T ty c (0, 0) d hb hu hd hi]
    exact hK _ _ h
/-- A store into a whole block. -/
theorem wpl_store_blk {w : World} {g : Nat} {T : TypeId} {c c' : Array Value} (hb : Blk w g T c) (hgd : o.guard = none) (ty : TypeId) (x y : Operand) (ho : o.op = .store ty x y) (hx : a.eval x = .pointer (some ⟨g, 0, none⟩)) (hy : a.eval y = .agg c')
    (hi : (P.info? ty).map (·.size) = some c'.size) (hs : c.size = c'.size) (h1 : c'.all (·.oneCell') = true)
    (h : ∀ w', Blk w' g T c' → Only (· = g) w w' → wpList P ops Q rest (a.put o.dst undef) w') : wpList P ops Q (o :: rest) a w :=
  wpList_plain hgd fun K hK => by
    unfold Oper.wp execOp
    simp only [ho, hx, hy, Instr.storeAt, Instr.sureAddr, Sem.run_bind, Sem.run_pure, Result.andThen_ok, run_storeVar_row w g T ty c c' hb hi hs h1]
    refine hK _ _ (h _ ?_ ?_)
    · unfold Blk World.setRow
      dsimp only
      rw [Array.getElem?_modify, if_pos rfl, show w.heap[g]? = some (.cells c T (0, 0)) from hb]
      rfl
    · refine ⟨rfl, rfl, rfl, by unfold World.setRow; simp, fun k hk hne => ?_⟩
      unfold World.setRow
      dsimp only
      rw [Array.getElem?_modify, if_neg (fun e => hne e.symm)]
end
theorem al_step {w3 w5 : World} {ob : Obj} (h5 : Only (· = w3.heap.size) (w3.alloc ob) w5) : Below w3.heap.size w3 w5 :=
  ((Below.refl _ w3).alloc (Nat.le_refl _) ob).trans (Only.below h5 (by simp) fun j e => by have e' : j = w3.heap.size := e; omega)
end Go.Proofs.Ytgdgonmhgpflcaa
