import Derived.Test.YtgdgonmhgpflcaaMgc
import Derived.Test.YtgdgonmhgpflcaaMgb
import Derived.Laws.ResultCell
import Derived.Laws.Rows
import Derived.WalkKit
import Derived.Laws.OwnMore
import Derived.Deep.RegionLaw

/- Arguments that are slices of numbers, texts, Booleans; the document's writers. No condition but that numbers fit their kinds. -/
namespace Go.Proofs.Ytgdgonmhgpflcaa
open Go.RowKit Wire
set_option linter.unusedVariables false
section
open Go.ChangeShapes Go.WideShapes Go.Deep
variable {H : Type} {enc : TypeId × Value → H} {P : Program} {W : World} {base : Nat} {held : Bool} {r : Reach} {b0 : Nat} {v : Value} {d : DataW H} {ps : List MemPlace} {t e : TypeId}
theorem open_slic (ht : P.underlying t = some (.slice e)) (hc : P.cellsOf e = 1) (hval : Value.okWide P W r b0 t v) (hd : DataW.Trod enc P W base (fun _ => true) held t v d ps) :
    ∃ n f, Slic W v n f ∧ ∀ i, i < n → ∃ fuel x, DataW.trod enc P W base (fun _ => true) held fuel e [f i] = some x := by
  obtain ⟨p, n, cap, rfl, h⟩ := open_rows ht hc (by decide) hval hd
  by_cases hn : 0 < n
  · obtain ⟨g, off, rfl, hg, hx⟩ := h hn
    have key : ∀ i, i < n → ∃ u : Value, W.cell? ⟨g, off + i, none⟩ = some u ∧ ∃ fuel x, DataW.trod enc P W base (fun _ => true) held fuel e [u] = some x := by
      intro i hi
      obtain ⟨cs, fuel, x, hl, hcell, hy⟩ := hx i hi
      match cs, hl with
      | [u], _ => exact ⟨u, by have := hcell 0 (by decide); simpa using this, fuel, x, hy⟩
    haveI : Inhabited Value := ⟨undef⟩
    obtain ⟨f, hf⟩ := choose_fn key
    exact ⟨n, f, ⟨_, cap, rfl, fun _ => ⟨g, off, rfl, hg, fun i hi => (hf i hi).1⟩⟩, fun i hi => (hf i hi).2⟩
  · exact ⟨n, fun _ => undef, ⟨p, cap, rfl, fun h => absurd h hn⟩, fun i hi => absurd (Nat.lt_of_le_of_lt (Nat.zero_le _) hi) hn⟩
theorem Slic.congr {w : World} {v : Value} {n : Nat} {f g : Nat → Value} (h : Slic w v n f) (e : ∀ i, i < n → f i = g i) : Slic w v n g := by
  obtain ⟨p, cap, rfl, hS⟩ := h
  refine ⟨p, cap, rfl, fun hn => ?_⟩
  obtain ⟨g0, off, rfl, hg, hx⟩ := hS hn
  exact ⟨g0, off, rfl, hg, fun i hi => by rw [hx i hi, e i hi]⟩
theorem open_ints' {k : IntKind} (ht : P.underlying t = some (.slice e)) (he : P.underlying e = some (.int k)) (hc : P.cellsOf e = 1) (hval : Value.okWide P W r b0 t v) (hd : DataW.Trod enc P W base (fun _ => true) held t v d ps) :
    ∃ (n : Nat) (x : Nat → Int), Slic W v n (fun i => .int k (x i)) ∧ ∀ i, i < n → (Lit.int k (x i)).wf = true := by
  obtain ⟨n, f, h1, h2⟩ := open_slic ht hc hval hd
  have key : ∀ i, i < n → ∃ y : Int, f i = .int k y ∧ (Lit.int k y).wf = true := fun i hi => by
    obtain ⟨fuel, x, hx⟩ := h2 i hi
    obtain ⟨y, hy, _, hw⟩ := DataW.trod_int he hx
    exact ⟨y, by simpa using hy, hw⟩
  obtain ⟨x, hx⟩ := choose_fn key
  exact ⟨n, x, h1.congr fun i hi => (hx i hi).1, fun i hi => (hx i hi).2⟩
theorem open_ints_cell {k : IntKind} {fuel : Nat} {u : Value} {x : DataW H × List MemPlace} (ht : P.underlying t = some (.slice e)) (he : P.underlying e = some (.int k)) (hc : P.cellsOf e = 1) (h : DataW.trod enc P W base (fun _ => true) held fuel t [u] = some x) :
    ∃ (n : Nat) (x : Nat → Int), Slic W u n (fun i => .int k (x i)) ∧ ∀ i, i < n → (Lit.int k (x i)).wf = true := by
  rcases open_slice1 ht hc h with ⟨h1, _⟩ | ⟨a, len, cap, m, n, V, D, Pl, h1, hb, hl, hmx, hmm, _, hx⟩
  · have : u = .slice none 0 0 := by simpa using h1
    subst this
    exact ⟨0, fun _ => 0, ⟨none, 0, rfl, fun h => by omega⟩, fun i hi => by omega⟩
  · have : u = .slice (some a) len cap := by simpa using h1
    subst this
    simp only [if_true] at hmm
    have key : ∀ i, i < len → ∃ y : Int, W.cell? (a.add i) = some (.int k y) ∧ (Lit.int k y).wf = true := fun i hi => by
      obtain ⟨h2, h3⟩ := hx i (by omega)
      obtain ⟨y, hy, _, hw⟩ := DataW.trod_int he h3
      exact ⟨y, by rw [h2]; simpa using hy, hw⟩
    obtain ⟨y, hy⟩ := choose_fn key
    refine ⟨len, y, ⟨some a, cap, rfl, fun hn => ?_⟩, fun i hi => (hy i hi).2⟩
    obtain ⟨g, off, spot⟩ := a
    have h0 := (hy 0 hn).1
    have hspot : spot = none := by simpa [Addr.add] using World.cell?_spot h0
    subst hspot
    refine ⟨g, off, rfl, ?_, fun i hi => by rw [← (hy i hi).1, add_plain]⟩
    rcases Nat.lt_or_ge g W.heap.size with h | h
    · exact h
    · simp [Addr.add, World.cell?, Array.getElem?_eq_none h] at h0
theorem open_strs' (ht : P.underlying t = some (.slice e)) (he : P.underlying e = some .string) (hc : P.cellsOf e = 1) (hval : Value.okWide P W r b0 t v) (hd : DataW.Trod enc P W base (fun _ => true) held t v d ps) :
    ∃ (n : Nat) (x : Nat → ByteArray), Slic W v n (fun i => .string (x i)) ∧ ∀ i, i < n → (x i).size ≤ maxLen := by
  obtain ⟨n, f, h1, h2⟩ := open_slic ht hc hval hd
  have key : ∀ i, i < n → ∃ y : ByteArray, f i = .string y ∧ y.size ≤ maxLen := fun i hi => by
    obtain ⟨fuel, x, hx⟩ := h2 i hi
    obtain ⟨y, hy, _, hw⟩ := DataW.trod_string he hx
    exact ⟨y, by simpa using hy, hw⟩
  haveI : Inhabited ByteArray := ⟨⟨#[]⟩⟩
  obtain ⟨x, hx⟩ := choose_fn key
  exact ⟨n, x, h1.congr fun i hi => (hx i hi).1, fun i hi => (hx i hi).2⟩
theorem open_bools' (ht : P.underlying t = some (.slice e)) (he : P.underlying e = some .bool) (hc : P.cellsOf e = 1) (hval : Value.okWide P W r b0 t v) (hd : DataW.Trod enc P W base (fun _ => true) held t v d ps) :
    ∃ (n : Nat) (x : Nat → Bool), Slic W v n (fun i => .bool (x i)) := by
  obtain ⟨n, f, h1, h2⟩ := open_slic ht hc hval hd
  have key : ∀ i, i < n → ∃ y : Bool, f i = .bool y := fun i hi => by
    obtain ⟨fuel, x, hx⟩ := h2 i hi
    obtain ⟨y, hy, _⟩ := DataW.trod_bool he hx
    exact ⟨y, by simpa using hy⟩
  obtain ⟨x, hx⟩ := choose_fn key
  exact ⟨n, x, h1.congr fun i hi => hx i hi⟩
end
theorem Slic.grow {w w' : World} {v : Value} {n : Nat} {f : Nat → Value} (h : Slic w v n f) (hb : Below w.heap.size w w') : Slic w' v n f := by
  obtain ⟨p, cap, rfl, hS⟩ := h
  refine ⟨p, cap, rfl, fun hn => ?_⟩
  obtain ⟨g0, off, rfl, hg, hx⟩ := hS hn
  exact ⟨g0, off, rfl, by have := hb.size; omega, fun i hi => by rw [hb.cell hg]; exact hx i hi⟩
/-! ### The document's writers -/
set_option maxHeartbeats 400000 in
theorem ruint3_any (x : Int) (hx : U64 x) (w : World) : Calls Try.prog 55 #[.int .u64 x] w fun e w' => e = .returned (.string (Num.lebS x)) ∧ Below w.heap.size w w' := by
  have HU := Lib.hid (ruint_any x hx w)
  go_enter Try.func55, Try.ntmps55
  go_wp2_with (go_at_call 90; ((with_reducible refine HU.out.mono ?_); rintro e w' ⟨rfl, hb⟩))
  go_ret
  exact ⟨rfl, hb⟩
set_option maxHeartbeats 400000 in
theorem rtext3_any (s : ByteArray) (hs : s.size ≤ 140737488355328) (w : World) : Calls Try.prog 56 #[.string s] w fun e w' => e = .returned (.string (textS s)) ∧ Below w.heap.size w w' := by
  have hl := lebS_size (x := (s.size : Int)) (by omega)
  have HU := Lib.hid (fun w => ruint3_any s.size (by unfold U64; omega) w)
  go_enter Try.func56, Try.ntmps56
  go_wp2_with (go_at_call 55; ((with_reducible refine (HU.out _).mono ?_); rintro e w1 ⟨rfl, b1⟩))
  go_ret
  exact ⟨rfl, b1⟩
set_option maxHeartbeats 400000 in
theorem rbool3_any (b : Bool) (w : World) : Calls Try.prog 54 #[.bool b] w fun e w' => e = .returned (.string (boolS b)) ∧ w = w' := by
  cases b
  · have : boolS false = ⟨#[0]⟩ := by kernel_rfl
    rw [this]
    go_enter Try.func54, Try.ntmps54
    go_wp2
    go_ret
    exact ⟨rfl, rfl⟩
  · have : boolS true = ⟨#[1]⟩ := by kernel_rfl
    rw [this]
    go_enter Try.func54, Try.ntmps54
    go_wp2
    go_ret
    exact ⟨rfl, rfl⟩
/-! ### The law -/
namespace Wire
def catS (g : Nat → ByteArray) (n : Nat) : ByteArray := ⟨(cat g n).toArray⟩
theorem catS_zero (g : Nat → ByteArray) : catS g 0 = ⟨#[]⟩ := rfl
theorem catS_succ (g : Nat → ByteArray) (n : Nat) : catS g n ++ g n = catS g (n + 1) := by
  apply ByteArray.ext
  rw [ByteArray.data_append]
  unfold catS
  rw [cat_succ]
  simp
def AllS (g : Nat → ByteArray) (n : Nat) (w : World) (e : Ending) (w' : World) : Prop := e = .returned (.string (catS g n)) ∧ Below w.heap.size w w'
theorem alls {f : FuncId} {args : Array Value} {g : Nat → ByteArray} {n : Nat} {w : World} (h : Calls Try.prog f args w (AllPost g n w)) : Calls Try.prog f args w (AllS g n w) := h
theorem catS_size (g : Nat → ByteArray) (n : Nat) : (catS g n).size = (cat g n).length := by simp [catS, ByteArray.size]
end Wire
end Go.Proofs.Ytgdgonmhgpflcaa


/- The walks of the document's reader of bricks. No condition but that numbers fit their kinds. -/
namespace Go.Proofs.Ytgdgonmhgpflcaa
open Go.RowKit Wire
set_option linter.unusedVariables false
/-- The document's reader lies in block c. -/
structure RR (w : World) (c : Nat) (s : ByteArray) (e : Int) : Prop where
  blk : Blk w c 114 #[.string s, .int .i64 e]
  sz : s.size ≤ maxLen
theorem RR.c0 {w : World} {b : Nat} {s : ByteArray} {e : Int} (h : RR w b s e) : w.cell? ⟨b, 0, none⟩ = some (.string s) := h.blk.cell 0
theorem RR.c1 {w : World} {b : Nat} {s : ByteArray} {e : Int} (h : RR w b s e) : w.cell? ⟨b, 1, none⟩ = some (.int .i64 e) := h.blk.cell 1
theorem RR.frozen {w : World} {b : Nat} {s : ByteArray} {e : Int} (h : RR w b s e) (o : Nat) : w.frozen? ⟨b, o, none⟩ = false := h.blk.frozen o
theorem RR.alloc {w : World} {b : Nat} {s : ByteArray} {e : Int} (h : RR w b s e) (o : Obj) : RR (w.alloc o) b s e := ⟨h.blk.alloc o, h.sz⟩
theorem RR.only {S : Nat → Prop} {w w' : World} {b : Nat} {s : ByteArray} {e : Int} (h : RR w b s e) (ho : Only S w w') (hs : ¬ S b) : RR w' b s e := ⟨h.blk.only ho hs, h.sz⟩
theorem RR.below {w w' : World} {b : Nat} {s : ByteArray} {e : Int} (h : RR w b s e) (ho : Below w.heap.size w w') : RR w' b s e := ⟨h.blk.below ho, h.sz⟩
theorem RR.drew {w : World} {b : Nat} {s : ByteArray} {e : Int} (h : RR w b s e) : RR w.drew b s e := ⟨h.blk.drew, h.sz⟩
theorem RR.setE {w : World} {b : Nat} {s : ByteArray} {e : Int} (h : RR w b s e) (e' : Int) : RR (w.setCell ⟨b, 1, none⟩ (.int .i64 e')) b s e' := ⟨h.blk.set 1 _, h.sz⟩
theorem RR.setS {w : World} {b : Nat} {s : ByteArray} {e : Int} (h : RR w b s e) (s' : ByteArray) (hs : s'.size ≤ maxLen) : RR (w.setCell ⟨b, 0, none⟩ (.string s')) b s' e := ⟨h.blk.set 0 _, hs⟩
def RNumPost (b : Nat) (w : World) (v : Int) (s' : ByteArray) (e' : Int) (e : Ending) (w' : World) : Prop := e = .returned (.int .u64 v) ∧ RR w' b s' e' ∧ Only (· = b) w w'
def RIntPost (b : Nat) (w : World) (v : Int) (s' : ByteArray) (e' : Int) (e : Ending) (w' : World) : Prop := e = .returned (.int .i64 v) ∧ RR w' b s' e' ∧ Only (· = b) w w'
def RBoolPost (b : Nat) (w : World) (v : Bool) (s' : ByteArray) (e' : Int) (e : Ending) (w' : World) : Prop := e = .returned (.bool v) ∧ RR w' b s' e' ∧ Only (· = b) w w'
def RTextPost (b : Nat) (w : World) (v : ByteArray) (s' : ByteArray) (e' : Int) (e : Ending) (w' : World) : Prop := e = .returned (.string v) ∧ RR w' b s' e' ∧ Only (· = b) w w'
theorem Only.cellq {S : Nat → Prop} {w w' : World} {g o : Nat} {v : Value} (ho : Only S w w') (hc : w.cell? ⟨g, o, none⟩ = some v) (hne : ¬ S g) : w'.cell? ⟨g, o, none⟩ = some v := by
  have hlt : g < w.heap.size := by
    rcases Nat.lt_or_ge g w.heap.size with h | h
    · exact h
    · simp [World.cell?, Array.getElem?_eq_none h] at hc
  rw [← hc]; simp only [World.cell?]; rw [ho.block g hlt hne]
theorem ba_eq {s t : ByteArray} (h : s.data.toList = t.data.toList) : s = t := by
  cases s; cases t; congr; exact Array.toList_inj.1 h
set_option maxHeartbeats 400000 in
theorem rfail_any {b : Nat} {s : ByteArray} {e0 : Int} {w : World} (h : RR w b s e0) (e : Int) : Calls Try.prog 88 #[.pointer (some ⟨b, 0, none⟩), .int .i64 e] w fun x w' => x = .returned (.tuple #[]) ∧ w' = w.setCell ⟨b, 1, none⟩ (.int .i64 e) := by
  have c1 := h.c1
  have hf : ∀ o, w.frozen? ⟨b, o, none⟩ = false := h.frozen
  clear h
  go_enter Try.func88, Try.ntmps88
  go_wp2
  go_end0
  exact ⟨rfl, rfl⟩
set_option maxHeartbeats 1000000 in
theorem ruintm_any {b : Nat} {s : ByteArray} {e0 : Int} {w : World} (h : RR w b s e0) (most : Int) :
    Calls Try.prog 51 #[.pointer (some ⟨b, 0, none⟩), .int .u64 most] w (RNumPost b w (numV s e0 (uC s most)) (numS s e0 (uC s most)) (numE s e0 (uC s most))) := by
  have HH := Lib.hid h
  have c0 := h.c0
  have c1 := h.c1
  have hsz := h.sz
  unfold maxLen at hsz
  clear h
  by_cases he : e0 = 0
  · subst he
    by_cases hr : (rdS s).2.2 = 0
    · have r1 : ((((rdS s).2.2 : Nat) : Int) == 0) = true := by simp [hr]
      have r2 : ((((rdS s).2.2 : Nat) : Int) != 0) = false := by simp [hr]
      by_cases hm : most < xI s
      · have ev : numV s 0 (uC s most) = 0 := by simp [numV, uC, hm]
        have es : numS s 0 (uC s most) = s := by simp [numS, uC, hm]
        have ee : numE s 0 (uC s most) = 9 := by simp [numE, uC, hm, hr]
        rw [ev, es, ee]
        unfold xI at hm
        clear ev es ee hr
        go_enter Try.func51, Try.ntmps51
        go_wp2_with (first | (go_at_call 87; ((with_reducible refine (rread_raw s HH.out.sz _).mono ?_); rintro e w1 ⟨rfl, b1⟩; have H1 := Lib.hid (HH.out.below b1); have d0 := H1.out.c0; have d1 := H1.out.c1; have hf1 : ∀ o, w1.frozen? ⟨b, o, none⟩ = false := H1.out.frozen)) | (go_at_call 88; ((with_reducible refine (rfail_any H1.out 9).mono ?_); rintro e w2 ⟨rfl, rfl⟩)))
        go_ret
        exact ⟨rfl, H1.out.setE 9, ((Only.refl _ _).step b1).set1⟩
      · have ev : numV s 0 (uC s most) = xI s := by simp [numV, uC, hm, hr]; rfl
        have es : numS s 0 (uC s most) = tl s (rdS s).2.1 := by simp [numS, uC, hm, hr]
        have ee : numE s 0 (uC s most) = 0 := by simp [numE, uC, hm, hr]
        rw [ev, es, ee]
        have hle := rd_le hr
        unfold xI at hm ⊢
        have hm' : (((rdS s).1 : Nat) : Int) ≤ most := by omega
        clear ev es ee hr hm
        go_enter Try.func51, Try.ntmps51
        go_wp2_with (first | (go_at_call 87; ((with_reducible refine (rread_raw s HH.out.sz _).mono ?_); rintro e w1 ⟨rfl, b1⟩; have H1 := Lib.hid (HH.out.below b1); have d0 := H1.out.c0; have d1 := H1.out.c1; have hf1 : ∀ o, w1.frozen? ⟨b, o, none⟩ = false := H1.out.frozen)))
        go_ret
        exact ⟨rfl, H1.out.setS _ (Nat.le_trans (tl_size s _) HH.out.sz), ((Only.refl _ _).step b1).set1⟩
    · have r1 : ((((rdS s).2.2 : Nat) : Int) == 0) = false := by simp [hr]
      have r2 : ((((rdS s).2.2 : Nat) : Int) != 0) = true := by simp [hr]
      have ev : numV s 0 (uC s most) = 0 := by simp [numV, hr]
      have es : numS s 0 (uC s most) = s := by simp [numS, hr]
      have ee : numE s 0 (uC s most) = ((rdS s).2.2 : Nat) := by simp [numE, hr]
      rw [ev, es, ee]
      clear ev es ee hr
      go_enter Try.func51, Try.ntmps51
      go_wp2_with (first | (go_at_call 87; ((with_reducible refine (rread_raw s HH.out.sz _).mono ?_); rintro e w1 ⟨rfl, b1⟩; have H1 := Lib.hid (HH.out.below b1); have d0 := H1.out.c0; have d1 := H1.out.c1; have hf1 : ∀ o, w1.frozen? ⟨b, o, none⟩ = false := H1.out.frozen)) | (go_at_call 88; ((with_reducible refine (rfail_any H1.out ((rdS s).2.2 : Nat)).mono ?_); rintro e w2 ⟨rfl, rfl⟩)))
      go_ret
      exact ⟨rfl, H1.out.setE _, ((Only.refl _ _).step b1).set1⟩
  · have ev : numV s e0 (uC s most) = 0 := by simp [numV, he]
    have es : numS s e0 (uC s most) = s := by simp [numS, he]
    have ee : numE s e0 (uC s most) = e0 := by simp [numE, he]
    rw [ev, es, ee]
    have he' : (e0 != 0) = true := by simpa using he
    clear ev es ee he
    go_enter Try.func51, Try.ntmps51
    go_wp2
    go_ret
    exact ⟨rfl, HH.out, Only.refl _ _⟩
theorem zag0 : Num.zag 0 = 0 := rfl
end Go.Proofs.Ytgdgonmhgpflcaa


/- The walks of the document's reader of bricks, second part. No condition but that numbers fit their kinds. -/
namespace Go.Proofs.Ytgdgonmhgpflcaa
open Go.RowKit Wire
set_option linter.unusedVariables false
theorem uC_max (s : ByteArray) : uC s 18446744073709551615 = 0 := by
  unfold uC; rw [if_neg]; have := (xI_U64 s).2; omega
theorem num0_bad {s : ByteArray} {e : Int} (h : ¬ (e = 0 ∧ (rdS s).2.2 = 0)) (c : Int) : numV s e c = 0 ∧ numS s e c = s ∧ numE s e c = numE s e 0 ∧ numE s e 0 ≠ 0 := by
  refine ⟨?_, ?_, ?_, ?_⟩
  · unfold numV; rw [if_neg]; exact fun hh => h ⟨hh.1, hh.2.1⟩
  · unfold numS; rw [if_neg]; exact fun hh => h ⟨hh.1, hh.2.1⟩
  · unfold numE
    by_cases he : e = 0
    · rw [if_pos he, if_pos he, if_neg (fun hr => h ⟨he, hr⟩), if_neg (fun hr => h ⟨he, hr⟩)]
    · rw [if_neg he, if_neg he]
  · unfold numE
    by_cases he : e = 0
    · rw [if_pos he, if_neg (fun hr => h ⟨he, hr⟩)]
      intro hh; exact h ⟨he, by omega⟩
    · rw [if_neg he]; exact he
theorem num0_ok {s : ByteArray} (h : (rdS s).2.2 = 0) : numV s 0 0 = xI s ∧ numS s 0 0 = tl s (rdS s).2.1 ∧ numE s 0 0 = 0 := by
  refine ⟨by unfold numV; rw [if_pos ⟨rfl, h, rfl⟩]; rfl, by unfold numS; rw [if_pos ⟨rfl, h, rfl⟩], by unfold numE; rw [if_pos rfl, if_pos h]⟩
theorem numc {s : ByteArray} (h : (rdS s).2.2 = 0) {c : Int} (hc : c ≠ 0) : numV s 0 c = 0 ∧ numS s 0 c = s ∧ numE s 0 c = c := by
  refine ⟨by unfold numV; rw [if_neg (fun hh => hc hh.2.2)], by unfold numS; rw [if_neg (fun hh => hc hh.2.2)], by unfold numE; rw [if_pos rfl, if_pos h]⟩
theorem rmax {b : Nat} {s : ByteArray} {e0 : Int} {w : World} (h : RR w b s e0) :
    Calls Try.prog 51 #[.pointer (some ⟨b, 0, none⟩), .int .u64 18446744073709551615] w (RNumPost b w (numV s e0 0) (numS s e0 0) (numE s e0 0)) := by
  have := ruintm_any h 18446744073709551615; rw [uC_max] at this; exact this
set_option maxRecDepth 100000 in
set_option maxHeartbeats 1000000 in
theorem rtag_any {b : Nat} {s : ByteArray} {e0 : Int} {w : World} (h : RR w b s e0) {n : Nat} {xs : Nat → Int} {v : Value} (hv : Slic w v n fun i => .int .u64 (xs i)) (hn : n < 1099511627776) (hb : ∀ g off cap, v = .slice (some ⟨g, off, none⟩) n cap → 0 < n → g ≠ b) :
    Calls Try.prog 86 #[.pointer (some ⟨b, 0, none⟩), v] w (RNumPost b w (numV s e0 (tC s xs n)) (numS s e0 (tC s xs n)) (numE s e0 (tC s xs n))) := by
  have HH := Lib.hid h
  have c0 := h.c0
  have c1 := h.c1
  have HM := Lib.hid (rmax h)
  obtain ⟨p, cap, rfl, hS⟩ := hv
  clear h
  by_cases hk : e0 = 0 ∧ (rdS s).2.2 = 0
  · obtain ⟨rfl, hr⟩ := hk
    have h0 := num0_ok hr
    rw [h0.1, h0.2.1, h0.2.2] at HM
    have HS := Lib.hid hS
    have HB := Lib.hid hb
    clear hS hb h0
    have hx := xI_U64 s
    go_enter Try.func86, Try.ntmps86
    go_wp2_with (go_at_call 51; ((with_reducible refine HM.out.mono ?_); rintro e w1 ⟨rfl, h1, o1⟩; have H1 := Lib.hid h1; have d0 := h1.c0; have d1 := h1.c1; have hf1 : ∀ o, w1.frozen? ⟨b, o, none⟩ = false := h1.frozen; clear h1))
    go_loopw [7] (fun u wr => (∃ i : Nat, i ≤ n ∧ u = .int .i64 i ∧ has xs i (xI s) = false) ∧ wr = w1) (fun u _ => ((n : Int) - intOf u).toNat)
    case atStart => exact ⟨⟨0, by omega, rfl, rfl⟩, rfl⟩
    case round =>
      obtain ⟨⟨k, hk1, rfl, hno⟩, rfl⟩ := hrel
      by_cases hk : k < n
      · obtain ⟨g0, off, rfl, hg, hx0⟩ := HS.out (by omega)
        have x0 : wr.cell? ⟨g0, off + k, none⟩ = some (.int .u64 (xs k)) := o1.cellq (hx0 k hk) (HB.out g0 off cap rfl (by omega))
        clear hx0
        by_cases he : xs k = xI s
        · have hb : (xs k == xI s) = true := by simpa using he
          have hh : has xs n (xI s) = true := has_of hk he
          have ht : tC s xs n = 0 := by unfold tC; rw [if_pos hh]
          have hr0 := num0_ok hr
          clear he
          go_wp2
          go_ret
          exact ⟨by rw [ht, hr0.1]; rfl, by rw [ht, hr0.2.1, hr0.2.2]; exact H1.out, o1⟩
        · have hb : (xs k == xI s) = false := by simpa using he
          have hs : has xs (k + 1) (xI s) = false := by rw [has_succ, hno]; simpa using he
          clear he
          go_wp2
          go_roundw
          case rel => exact ⟨⟨k + 1, by omega, rfl, hs⟩, by trivial⟩
          case measure => simp [intOf]; omega
      · have : k = n := by omega
        subst this
        have ht : tC s xs k = 8 := by unfold tC; rw [if_neg (by simp [hno])]
        have hr0 := numc hr (c := 8) (by decide)
        go_wp2
        go_ret
        exact ⟨by rw [ht, hr0.1]; rfl, by rw [ht, hr0.2.1, hr0.2.2]; exact (H1.out.setS s HH.out.sz).setE 8, o1.set1.set1⟩
  · have h0 := num0_bad hk 0
    have ht := num0_bad hk (tC s xs n)
    rw [ht.1, ht.2.1, ht.2.2.1]
    rw [h0.1, h0.2.1] at HM
    have hne : (numE s e0 0 != 0) = true := by simpa using h0.2.2.2
    clear hS hb h0 ht hk
    generalize numE s e0 0 = e1 at *
    go_enter Try.func86, Try.ntmps86
    go_wp2_with (go_at_call 51; ((with_reducible refine HM.out.mono ?_); rintro e w1 ⟨rfl, h1, o1⟩; have H1 := Lib.hid h1; have d0 := h1.c0; have d1 := h1.c1; have hf1 : ∀ o, w1.frozen? ⟨b, o, none⟩ = false := h1.frozen; clear h1))
    go_ret
    exact ⟨rfl, H1.out, o1⟩
set_option maxHeartbeats 1000000 in
theorem rbool_any {b : Nat} {s : ByteArray} {e0 : Int} {w : World} (h : RR w b s e0) :
    Calls Try.prog 50 #[.pointer (some ⟨b, 0, none⟩)] w (RBoolPost b w (numV s e0 (bC s) == 1) (numS s e0 (bC s)) (numE s e0 (bC s))) := by
  have hlt := h.blk.lt
  have hv : Slic (w.alloc (.cells #[.int .u64 0, .int .u64 1] 22)) (.slice (some ⟨w.heap.size, 0, none⟩) 2 2) 2 (fun i => .int .u64 (xs01 i)) := slic2 w _ _ _ _ rfl rfl
  have HN := Lib.hid (rtag_any (h.alloc (.cells #[.int .u64 0, .int .u64 1] 22)) hv (by omega) (fun g off cap e _ => by injection e with e1; injection e1 with e2; injection e2 with e3; omega))
  clear h hv
  go_enter Try.func50, Try.ntmps50
  go_wp2_with (go_at_call 86; ((with_reducible refine HN.out.mono ?_); rintro e w' ⟨rfl, hP, hO⟩))
  go_ret
  exact ⟨rfl, hP, ((Only.refl _ _).alloc _).trans hO⟩
theorem cC_cases (s : ByteArray) (most : Int) : ((most < 0 ∨ most < xI s) ∧ cC s most = 4) ∨ (0 ≤ most ∧ xI s ≤ most ∧ s.size - nI s < xI s ∧ cC s most = 10) ∨ (0 ≤ most ∧ xI s ≤ most ∧ xI s ≤ s.size - nI s ∧ cC s most = 0) := by
  unfold cC cntC
  by_cases h1 : most < 0 ∨ most < xI s
  · exact .inl ⟨h1, by rw [if_pos h1]⟩
  · by_cases h2 : (s.size : Int) - nI s < xI s
    · exact .inr (.inl ⟨by omega, by omega, h2, by rw [if_neg h1, if_pos h2]⟩)
    · exact .inr (.inr ⟨by omega, by omega, by omega, by rw [if_neg h1, if_neg h2]⟩)
set_option maxHeartbeats 1000000 in
theorem rcount_any {b : Nat} {s : ByteArray} {e0 : Int} {w : World} (h : RR w b s e0) (most : Int) (hm : I64 most) :
    Calls Try.prog 89 #[.pointer (some ⟨b, 0, none⟩), .int .i64 most] w (RIntPost b w (numV s e0 (cC s most)) (numS s e0 (cC s most)) (numE s e0 (cC s most))) := by
  have HH := Lib.hid h
  have c0 := h.c0
  have c1 := h.c1
  have HM := Lib.hid (rmax h)
  have hm0 := hm.1
  have hm1 := hm.2
  have hsz := h.sz
  unfold maxLen at hsz
  clear h hm
  by_cases hk : e0 = 0 ∧ (rdS s).2.2 = 0
  · obtain ⟨rfl, hr⟩ := hk
    have h0 := num0_ok hr
    have hle := rd_le hr
    have htl := tl_len s (rdS s).2.1 hle
    have hx := xI_U64 s
    have hx0 := hx.1
    have hx1 := hx.2
    have hc := cC_cases s most
    have hni : nI s = ((rdS s).2.1 : Nat) := rfl
    rw [hni] at hc
    generalize cC s most = c at *
    rcases hc with ⟨hc, rfl⟩ | ⟨q1, q2, q3, rfl⟩ | ⟨q1, q2, q3, rfl⟩
    · have hr0 := numc hr (c := 4) (by decide)
      rw [h0.1, h0.2.1, h0.2.2] at HM
      rw [hr0.1, hr0.2.1, hr0.2.2]
      have hc' : most < 0 ∨ (0 ≤ most ∧ most < xI s) := by omega
      generalize xI s = x at *
      generalize tl s (rdS s).2.1 = s1 at *
      clear hr0 h0 hc hr hx hni
      rcases hc' with hc | ⟨hc, hc2⟩
      · go_enter Try.func89, Try.ntmps89
        go_wp2_with (go_at_call 51; ((with_reducible refine HM.out.mono ?_); rintro e w1 ⟨rfl, h1, o1⟩; have H1 := Lib.hid h1; have d0 := h1.c0; have d1 := h1.c1; have hf1 : ∀ o, w1.frozen? ⟨b, o, none⟩ = false := h1.frozen; clear h1))
        go_ret
        exact ⟨rfl, (H1.out.setS s HH.out.sz).setE 4, o1.set1.set1⟩
      · go_enter Try.func89, Try.ntmps89
        go_wp2_with (go_at_call 51; ((with_reducible refine HM.out.mono ?_); rintro e w1 ⟨rfl, h1, o1⟩; have H1 := Lib.hid h1; have d0 := h1.c0; have d1 := h1.c1; have hf1 : ∀ o, w1.frozen? ⟨b, o, none⟩ = false := h1.frozen; clear h1))
        go_ret
        exact ⟨rfl, (H1.out.setS s HH.out.sz).setE 4, o1.set1.set1⟩
    · have hr0 := numc hr (c := 10) (by decide)
      rw [h0.1, h0.2.1, h0.2.2] at HM
      rw [hr0.1, hr0.2.1, hr0.2.2]
      generalize xI s = x at *
      generalize tl s (rdS s).2.1 = s1 at *
      have q3' : (s1.size : Int) < x := by omega
      clear hr0 h0 hr hx hni
      go_enter Try.func89, Try.ntmps89
      go_wp2_with (go_at_call 51; ((with_reducible refine HM.out.mono ?_); rintro e w1 ⟨rfl, h1, o1⟩; have H1 := Lib.hid h1; have d0 := h1.c0; have d1 := h1.c1; have hf1 : ∀ o, w1.frozen? ⟨b, o, none⟩ = false := h1.frozen; clear h1))
      go_ret
      exact ⟨rfl, (H1.out.setS s HH.out.sz).setE 10, o1.set1.set1⟩
    · rw [h0.1, h0.2.1, h0.2.2] at HM ⊢
      generalize xI s = x at *
      generalize tl s (rdS s).2.1 = s1 at *
      have q3' : x ≤ (s1.size : Int) := by omega
      clear h0 hr hx hni
      go_enter Try.func89, Try.ntmps89
      go_wp2_with (go_at_call 51; ((with_reducible refine HM.out.mono ?_); rintro e w1 ⟨rfl, h1, o1⟩; have H1 := Lib.hid h1; have d0 := h1.c0; have d1 := h1.c1; have hf1 : ∀ o, w1.frozen? ⟨b, o, none⟩ = false := h1.frozen; clear h1))
      go_ret
      exact ⟨rfl, H1.out, o1⟩
  · have h0 := num0_bad hk 0
    have ht := num0_bad hk (cC s most)
    rw [ht.1, ht.2.1, ht.2.2.1]
    rw [h0.1, h0.2.1] at HM
    have hne : (numE s e0 0 != 0) = true := by simpa using h0.2.2.2
    clear h0 ht hk
    generalize numE s e0 0 = e1 at *
    go_enter Try.func89, Try.ntmps89
    go_wp2_with (go_at_call 51; ((with_reducible refine HM.out.mono ?_); rintro e w1 ⟨rfl, h1, o1⟩; have H1 := Lib.hid h1; have d0 := h1.c0; have d1 := h1.c1; have hf1 : ∀ o, w1.frozen? ⟨b, o, none⟩ = false := h1.frozen; clear h1))
    go_ret
    exact ⟨rfl, H1.out, o1⟩
theorem tl_zero (s : ByteArray) : tl s 0 = s := by
  apply ba_eq; unfold tl; simp
set_option maxHeartbeats 1000000 in
theorem rtext_any {b : Nat} {s : ByteArray} {e0 : Int} {w : World} (h : RR w b s e0) (most : Int) (hm : I64 most) :
    Calls Try.prog 52 #[.pointer (some ⟨b, 0, none⟩), .int .i64 most] w (RTextPost b w (txV s e0 most) (txS s e0 most) (txE s e0 most)) := by
  have HN := Lib.hid (rcount_any h most hm)
  have hr := cnt_range (s := s) (e := e0) hm
  have hr1 := hr.1
  have hfit := cnt_fit (s := s) (e := e0) (most := most)
  have hS : txS s e0 most = tl (numS s e0 (cC s most)) (numV s e0 (cC s most)).toNat := by
    unfold txS
    split
    · rfl
    · rename_i he
      rw [numV_zero he]
      exact (tl_zero _).symm
  rw [hS]
  unfold txV txE
  clear h hm hr hS
  generalize numV s e0 (cC s most) = x at *
  generalize numS s e0 (cC s most) = s1 at *
  generalize numE s e0 (cC s most) = e1 at *
  obtain ⟨n, rfl⟩ := Int.eq_ofNat_of_zero_le hr1
  simp only [Int.toNat_natCast] at *
  go_enter Try.func52, Try.ntmps52
  go_wp2_with (go_at_call 89; ((with_reducible refine HN.out.mono ?_); rintro e w1 ⟨rfl, h1, o1⟩; have H1 := Lib.hid h1; have d0 := h1.c0; have d1 := h1.c1; have hsz := h1.sz; unfold maxLen at hsz; have hf1 : ∀ o, w1.frozen? ⟨b, o, none⟩ = false := h1.frozen; clear h1))
  go_ret
  exact ⟨rfl, H1.out.setS _ (Nat.le_trans (tl_size s1 _) H1.out.sz), o1.set1⟩
set_option maxHeartbeats 1000000 in
theorem rend_any {b : Nat} {s : ByteArray} {e0 : Int} {w : World} (h : RR w b s e0) : Calls Try.prog 53 #[.pointer (some ⟨b, 0, none⟩)] w (RIntPost b w (endE s e0) s (endE s e0)) := by
  have HH := Lib.hid h
  have c0 := h.c0
  have c1 := h.c1
  have hf : ∀ o, w.frozen? ⟨b, o, none⟩ = false := h.frozen
  clear h
  by_cases he : e0 = 0
  · subst he
    by_cases hs : s.size = 0
    · have := empty_of hs
      subst this
      have e1 : endE ⟨#[]⟩ 0 = 0 := by unfold endE; rw [if_neg (by simp [ByteArray.size])]
      rw [e1]
      clear hs e1
      go_enter Try.func53, Try.ntmps53
      go_wp2
      go_ret
      exact ⟨rfl, HH.out, Only.refl _ _⟩
    · have e1 : endE s 0 = 8 := by unfold endE; rw [if_pos ⟨rfl, hs⟩]
      rw [e1]
      have hne := ne_empty hs
      clear hs e1
      go_enter Try.func53, Try.ntmps53
      go_wp2
      go_ret
      exact ⟨rfl, HH.out.setE 8, (Only.refl _ _).set1⟩
  · have e1 : endE s e0 = e0 := by unfold endE; rw [if_neg (fun h => he h.1)]
    rw [e1]
    have he1 : (e0 == 0) = false := by simpa using he
    clear he e1
    go_enter Try.func53, Try.ntmps53
    go_wp2
    go_ret
    exact ⟨rfl, HH.out, Only.refl _ _⟩
end Go.Proofs.Ytgdgonmhgpflcaa


/- Results of which the first is a struct in a block of the call's own. No condition. -/
namespace Go.Proofs.Ytgdgonmhgpflcaa
open Go.RowKit
theorem results_pair {P : Program} {fn : Func} {p u : Tmp} {ty T : TypeId} (h : fn.results = #[.cell p ty, .tmp u]) (tmps : Array Value) (w : World) {g : Nat} {cs : Array Value} {d : TypeDesc}
    (hp : tmps.getD p undef = .pointer (some ⟨g, 0, none⟩)) (hg : Blk w g T cs)
    (hu : P.underlying ty = some d) (hd : (match d with | .struct _ | .array _ _ => true | _ => false) = true) (hi : (P.info? ty).map (·.size) = some cs.size) :
    (results fn tmps).run P w = .ok (.tuple #[.agg cs, tmps.getD u undef]) w := by
  rw [results_cell_tmp h, hp]
  simp [asAddr, run_loadVar_row w g T ty cs (0, 0) d hg hu hd hi]
theorem ret_pair {P : Program} {fn : Func} {R : Ending → World → Prop} {a : Act} {p u : Tmp} {ty T : TypeId} {w : World} {g : Nat} {cs : Array Value} {d : TypeDesc} {v : Value} (h : fn.results = #[.cell p ty, .tmp u])
    (hp : a.tmps.getD p undef = .pointer (some ⟨g, 0, none⟩)) (hv : a.tmps.getD u undef = v) (hg : Blk w g T cs)
    (hu : P.underlying ty = some d) (hd : (match d with | .struct _ | .array _ _ => true | _ => false) = true) (hi : (P.info? ty).map (·.size) = some cs.size) (hdf : a.defers = [])
    (hR : R (.returned (.tuple #[.agg cs, v])) w) : bodyPost P fn R .ret a w := by
  subst hv
  exact bodyPost_ret (results_pair h _ w hp hg hu hd hi) hdf hR
theorem ret_cell {P : Program} {fn : Func} {R : Ending → World → Prop} {a : Act} {p : Tmp} {ty T : TypeId} {w : World} {g : Nat} {cs : Array Value} {d : TypeDesc} (h : fn.results = #[.cell p ty])
    (hp : a.tmps.getD p undef = .pointer (some ⟨g, 0, none⟩)) (hg : Blk w g T cs)
    (hu : P.underlying ty = some d) (hd : (match d with | .struct _ | .array _ _ => true | _ => false) = true) (hi : (P.info? ty).map (·.size) = some cs.size) (hdf : a.defers = [])
    (hR : R (.returned (.agg cs)) w) : bodyPost P fn R .ret a w :=
  bodyPost_ret (results_cell_row h _ w g T cs (0, 0) d hp hg hu hd hi) hdf hR
end Go.Proofs.Ytgdgonmhgpflcaa


/- Rows of the call's own: appended to, told apart by their types, kept. No condition. -/
namespace Go.Proofs.Ytgdgonmhgpflcaa
open Go.RowKit
set_option linter.unusedVariables false
section
variable {P : Program} {ops : Array Oper} {rest : List Oper} {o : Oper} {a : Act} {Q : Exit → Act → World → Prop}
/-- 's = append(s, x)', x a row of cells that was laid just now; and what else is as it was. -/
theorem wpl_append_row2 {w0 : World} {ys : List Value} {e' : TypeId} {s x : Operand} {t e : TypeId} {z : Value} {size bytes : Nat} {base : Nat} {v : Value} {n : Nat} {xs : List Value} {nb : Nat}
    (hgd : o.guard = none) (ho : o.op = .call { callee := .builtin .append, args := #[s, x], argTypes := #[t, t] })
    (hx : a.eval x = .slice (some ⟨nb, 0, none⟩) 1 1) (hs : a.eval s = v)
    (ht : P.underlying t = some (.slice e)) (hi : Info P e z size bytes) (hz : z.cells.size = size) (hy : ys.all (·.oneCell') = true) (hl : ys.length = 1 * size) (hsz : 0 < size) (hb : bytes ≤ 1024)
    (hown : w0.ownsRow base e size v n xs) (hn : n < 2147483648) (hbase : base ≤ w0.heap.size) (hnb : nb = w0.heap.size)
    (h : ∀ v' w', w'.ownsRow base e size v' (n + 1) (xs ++ ys) → Only (fun k => v.ownBlock = some k) w0 w' → wpList P ops Q rest (a.put o.dst v') w') :
    wpList P ops Q (o :: rest) a (w0.alloc (.cells ys.toArray e')) := by
  subst hnb
  obtain ⟨i, hi1, hi2, hi3, hi4⟩ := info_parts hi
  refine wpList_append_own _ hgd s x t ho base e i z size bytes ht hi1 hi2 hi3 hi4 hz hsz v n xs hs (hown.alloc _) _ 1 1 ys hx hl ?_ (fun u hu => List.all_eq_true.1 hy u hu)
    (by unfold maxLen; omega) (by have : (n + 1) * bytes ≤ 2147483648 * 1024 := Nat.mul_le_mul (by omega) hb; omega) (by simp; omega) ?_
  · intro j u hj
    have : (⟨w0.heap.size, 0, none⟩ : Addr).add j = ⟨w0.heap.size, j, none⟩ := by unfold Addr.add; split <;> simp_all
    rw [this, (Blk.new w0 e' ys.toArray).cell j]; simpa using hj
  intro v' w' h1 h2 _
  exact h v' w' h1 ⟨h2.os, h2.tape, h2.output, by have := h2.size; simp at this; omega, fun k hk hne => (h2.block k (by simp; omega) (fun e => hne e.symm)).trans (Below.heap_alloc _ _ _ hk)⟩
end
section
variable {P : Program} {ops : Array Oper} {rest : List Oper} {o : Oper} {a : Act} {Q : Exit → Act → World → Prop}
/-- 's = append(s, xs...)', xs cells that can be read; and what else is as it was. -/
theorem wpl_append_cells {w : World} {ys : List Value} {s x : Operand} {t e : TypeId} {z : Value} {size bytes : Nat} {base : Nat} {v : Value} {n : Nat} {xs : List Value} {g off m cap : Nat}
    (hgd : o.guard = none) (ho : o.op = .call { callee := .builtin .append, args := #[s, x], argTypes := #[t, t] })
    (hx : a.eval x = .slice (some ⟨g, off, none⟩) m cap) (hs : a.eval s = v)
    (ht : P.underlying t = some (.slice e)) (hi : Info P e z size bytes) (hz : z.cells.size = size) (hsz : 0 < size) (hb : bytes ≤ 1024)
    (hown : w.ownsRow base e size v n xs) (hl : ys.length = m * size) (hc : ∀ j u, ys[j]? = some u → w.cell? ⟨g, off + j, none⟩ = some u) (hy : ∀ u ∈ ys, u.oneCell' = true) (hn : n + m < 2147483648) (hbase : base ≤ w.heap.size)
    (h : ∀ v' w', w'.ownsRow base e size v' (n + m) (xs ++ ys) → Only (fun k => v.ownBlock = some k) w w' → wpList P ops Q rest (a.put o.dst v') w') :
    wpList P ops Q (o :: rest) a w := by
  obtain ⟨i, hi1, hi2, hi3, hi4⟩ := info_parts hi
  refine wpList_append_own _ hgd s x t ho base e i z size bytes ht hi1 hi2 hi3 hi4 hz hsz v n xs hs hown _ m cap ys hx hl ?_ hy
    (by unfold maxLen; omega) (by have : (n + m) * bytes ≤ 2147483648 * 1024 := Nat.mul_le_mul (by omega) hb; omega) (by omega) ?_
  · intro j u hj
    have : (⟨g, off, none⟩ : Addr).add j = ⟨g, off + j, none⟩ := by unfold Addr.add; split <;> simp_all
    rw [this]; exact hc j u hj
  intro v' w' h1 h2 _
  exact h v' w' h1 ⟨h2.os, h2.tape, h2.output, h2.size, fun k hk hne => h2.block k hk (fun e => hne e.symm)⟩
/-- 'make([]T, n)', T of one cell. -/
theorem wpl_make {w : World} {x : Operand} {t e : TypeId} {z zv : Value} {bytes n : Nat} {c : Int}
    (hgd : o.guard = none) (ho : o.op = .makeSlice t x x) (hx : a.eval x = .int .i64 c) (hc : c = (n : Nat))
    (ht : P.underlying t = some (.slice e)) (hi : Info P e z 1 bytes) (hz : z.cells = #[zv]) (hb : bytes ≤ 1024) (hn : n ≤ 1000000)
    (h : wpList P ops Q rest (a.put o.dst (.slice (some ⟨w.heap.size, 0, none⟩) n n)) (w.alloc (.cells (List.replicate n zv).toArray e))) :
    wpList P ops Q (o :: rest) a w := by
  subst hc
  obtain ⟨i, hi1, hi2, hi3, hi4⟩ := info_parts hi
  have hr := run_make (P := P) (w := w) t e i z ht hi1 hi2 .i64 .i64 n n (by omega) (Int.le_refl _) (by rw [hi4]; have : bytes * n ≤ 1024 * 1000000 := Nat.mul_le_mul hb hn; omega) (by omega)
  have e1 : madeCells z.cells (n * i.size) = (List.replicate n zv).toArray := by
    rw [hi3, hz, Nat.mul_one]
    apply Array.toList_inj.1
    apply List.ext_getElem?
    intro k
    unfold madeCells
    rw [Array.getElem?_toList, Array.getElem?_map, List.toList_toArray, List.getElem?_replicate, Array.getElem?_range]
    by_cases hk : k < n
    · rw [if_pos hk, if_pos hk]
      simp [Nat.mod_one]
    · rw [if_neg hk, if_neg hk]
      rfl
  simp only [Int.toNat_natCast, e1] at hr
  refine wpList_plain hgd fun K hK => ?_
  unfold Oper.wp execOp
  simp only [ho, hx, hr, Sem.run_bind, Result.andThen_ok, Sem.run_pure]
  exact hK _ _ h
end
theorem owns_only {S : Nat → Prop} {w w' : World} {base size : Nat} {e : TypeId} {v : Value} {n : Nat} {xs : List Value} (h : w.ownsRow base e size v n xs) (ho : Only S w w') (hS : ∀ g, v.ownBlock = some g → ¬ S g) : w'.ownsRow base e size v n xs := by
  obtain ⟨hl, h | ⟨g, cap, cur, rfl, hb, hg, h1, h2, h3, h4⟩⟩ := h
  · exact ⟨hl, .inl h⟩
  · exact ⟨hl, .inr ⟨g, cap, cur, rfl, hb, by rw [ho.block g (Array.getElem?_eq_some_iff.1 hg).1 (hS g rfl)]; exact hg, h1, h2, h3, h4⟩⟩
theorem owns_type {w : World} {base size : Nat} {e : TypeId} {v : Value} {n : Nat} {xs : List Value} (h : w.ownsRow base e size v n xs) {g : Nat} (hv : v.ownBlock = some g) : ∃ cur, w.heap[g]? = some (.cells cur e (0, 0)) ∧ base ≤ g ∧ g < w.heap.size := by
  obtain ⟨hl, ⟨rfl, _⟩ | ⟨g', cap, cur, rfl, hb, hg, _⟩⟩ := h
  · cases hv
  · cases hv; exact ⟨cur, hg, hb, (Array.getElem?_eq_some_iff.1 hg).1⟩
theorem owns_ne {w : World} {base size : Nat} {e T : TypeId} {v : Value} {n : Nat} {xs : List Value} (h : w.ownsRow base e size v n xs) {b : Nat} {A : Array Value} (hb : Blk w b T A) (hT : T ≠ e) : ∀ g, v.ownBlock = some g → g ≠ b := by
  intro g hg e'
  subst e'
  obtain ⟨cur, h1, _, _⟩ := owns_type h hg
  unfold Blk at hb
  rw [hb] at h1
  injection h1 with h1
  injection h1 with _ h1
  exact hT h1
theorem owns_ge {w : World} {base size : Nat} {e : TypeId} {v : Value} {n : Nat} {xs : List Value} (h : w.ownsRow base e size v n xs) {B : Nat} (hB : B ≤ base) : w.ownsRow B e size v n xs := by
  obtain ⟨hl, h | ⟨g, cap, cur, rfl, hb, h⟩⟩ := h
  · exact ⟨hl, .inl h⟩
  · exact ⟨hl, .inr ⟨g, cap, cur, rfl, Nat.le_trans hB hb, h⟩⟩
theorem owns_below {w w' : World} {base size : Nat} {e : TypeId} {v : Value} {n : Nat} {xs : List Value} (h : w.ownsRow base e size v n xs) (hb : Below w.heap.size w w') : w'.ownsRow base e size v n xs := owns_only h (Only.of_below (S := fun _ => False) hb) (fun _ _ h => h)
theorem owns_slice {w : World} {base size : Nat} {e : TypeId} {v : Value} {n : Nat} {xs : List Value} (h : w.ownsRow base e size v n xs) : ∃ p cap, v = .slice p n cap := by
  obtain ⟨hl, ⟨rfl, h0⟩ | ⟨g, cap, cur, rfl, _⟩⟩ := h
  · exact ⟨none, 0, by rw [h0]⟩
  · exact ⟨_, _, rfl⟩
theorem owns_cells {w : World} {base size : Nat} {e : TypeId} {v : Value} {n : Nat} {xs : List Value} (h : w.ownsRow base e size v n xs) (hn : 0 < n) : ∃ g cap, v = .slice (some ⟨g, 0, none⟩) n cap ∧ base ≤ g ∧ g < w.heap.size ∧ (∀ o, w.frozen? ⟨g, o, none⟩ = false) ∧ ∀ j, j < n * size → w.cell? ⟨g, j, none⟩ = xs[j]? := by
  obtain ⟨hl, ⟨rfl, h0⟩ | ⟨g, cap, cur, rfl, hb, hg, h1, h2, h3, h4⟩⟩ := h
  · omega
  · refine ⟨g, cap, rfl, hb, (Array.getElem?_eq_some_iff.1 hg).1, fun o => Blk.frozen (T := e) (A := cur) hg o, fun j hj => ?_⟩
    rw [(show Blk w g e cur from hg).cell j, ← Array.getElem?_toList, ← h4, List.getElem?_take, if_pos hj]
section
variable {P : Program} {ops : Array Oper} {o : Oper} {a : Act} {K : Act → World → Prop} {Q : Exit → Act → World → Prop} {E : Prop}
/-- A call that returns, as a step of a region that draws its order. -/
theorem step_call {R : Ending → World → Prop} {w : World} (hg : o.guard = none) (f : FuncId) (args : Array Value) (hrun : (execOp a.eval o).run P w = .ok (.enter f args) w) (hc : Calls P f args w R)
    (hr : ∀ e w', R e w' → ∃ v, e = .returned v) (h : ∀ v w', R (.returned v) w' → K (a.put o.dst v) w') : if Region.wanted o (yielded ops a.tmps) = true then Oper.wp P o a w K Q else E := by
  rw [if_pos (by simp [Region.wanted, hg])]
  unfold Oper.wp
  rw [hrun]
  simp only [Oper.upon]
  refine hc.mono fun e w' hR => ?_
  obtain ⟨v, rfl⟩ := hr e w' hR
  exact h v w' hR
/-- 's = append(s, x)', x a row of cells that was laid just now, as such a step. -/
theorem step_append_row2 {w0 : World} {ys : List Value} {e' : TypeId} {s x : Operand} {t e : TypeId} {z : Value} {size bytes : Nat} {base : Nat} {v : Value} {n : Nat} {xs : List Value} {nb : Nat}
    (hgd : o.guard = none) (ho : o.op = .call { callee := .builtin .append, args := #[s, x], argTypes := #[t, t] })
    (hx : a.eval x = .slice (some ⟨nb, 0, none⟩) 1 1) (hs : a.eval s = v)
    (ht : P.underlying t = some (.slice e)) (hi : Info P e z size bytes) (hz : z.cells.size = size) (hy : ys.all (·.oneCell') = true) (hl : ys.length = 1 * size) (hsz : 0 < size) (hb : bytes ≤ 1024)
    (hown : w0.ownsRow base e size v n xs) (hn : n < 2147483648) (hbase : base ≤ w0.heap.size) (hnb : nb = w0.heap.size)
    (h : ∀ v' w', w'.ownsRow base e size v' (n + 1) (xs ++ ys) → Only (fun k => v.ownBlock = some k) w0 w' → K (a.put o.dst v') w') :
    if Region.wanted o (yielded ops a.tmps) = true then Oper.wp P o a (w0.alloc (.cells ys.toArray e')) K Q else E := by
  rw [if_pos (by simp [Region.wanted, hgd])]
  subst hnb
  obtain ⟨i, hi1, hi2, hi3, hi4⟩ := info_parts hi
  refine wp_append_own _ s x t ho base e i z size bytes ht hi1 hi2 hi3 hi4 hz hsz v n xs hs (hown.alloc _) _ 1 1 ys hx hl ?_ (fun u hu => List.all_eq_true.1 hy u hu)
    (by unfold maxLen; omega) (by have : (n + 1) * bytes ≤ 2147483648 * 1024 := Nat.mul_le_mul (by omega) hb; omega) (by simp; omega) ?_
  · intro j u hj
    have : (⟨w0.heap.size, 0, none⟩ : Addr).add j = ⟨w0.heap.size, j, none⟩ := by unfold Addr.add; split <;> simp_all
    rw [this, (Blk.new w0 e' ys.toArray).cell j]; simpa using hj
  intro v' w' h1 h2 _
  exact h v' w' h1 ⟨h2.os, h2.tape, h2.output, by have := h2.size; simp at this; omega, fun k hk hne => (h2.block k (by simp; omega) (fun e => hne e.symm)).trans (Below.heap_alloc _ _ _ hk)⟩
end
theorem owns_blk {w : World} {base size : Nat} {e : TypeId} {v : Value} {n : Nat} {xs : List Value} (h : w.ownsRow base e size v n xs) (hn : 0 < n) : ∃ g cap cur, v = .slice (some ⟨g, 0, none⟩) n cap ∧ base ≤ g ∧ Blk w g e cur ∧ ∀ j, j < n * size → cur[j]? = xs[j]? := by
  obtain ⟨hl, ⟨rfl, h0⟩ | ⟨g, cap, cur, rfl, hb, hg, h1, h2, h3, h4⟩⟩ := h
  · omega
  · refine ⟨g, cap, cur, rfl, hb, hg, fun j hj => ?_⟩
    rw [← Array.getElem?_toList, ← h4, List.getElem?_take, if_pos hj]
theorem owns_zero {w : World} {base size : Nat} {e : TypeId} {v : Value} {xs : List Value} (h : w.ownsRow base e size v 0 xs) : xs = [] := List.eq_nil_of_length_eq_zero (by simpa using h.1)
/-- The j-th cell of the i-th of rows of equal length. -/
theorem flat_at {α β : Type} (f : α → List β) (m : Nat) (hf : ∀ x, (f x).length = m) : ∀ (l : List α) (i j : Nat) (hi : i < l.length), j < m → (l.flatMap f)[i * m + j]? = (f l[i])[j]? := by
  intro l
  induction l with
  | nil => intro i j hi; simp at hi
  | cons x l ih =>
    intro i j hi hj
    rw [List.flatMap_cons]
    cases i with
    | zero => rw [Nat.zero_mul, Nat.zero_add, List.getElem?_append_left (by rw [hf]; exact hj)]; rfl
    | succ i =>
      rw [List.getElem?_append_right (by rw [hf, Nat.succ_mul]; omega), hf, show (i + 1) * m + j - m = i * m + j by rw [Nat.succ_mul]; omega]
      exact ih i j (by simpa using hi) hj
end Go.Proofs.Ytgdgonmhgpflcaa


/- Packets: which may be, what bytes are read as: the program and the document. No condition but that a text fits its type. -/
namespace Go.Proofs.Ytgdgonmhgpflcaa
open Go.RowKit Wire
set_option linter.unusedVariables false
set_option linter.unusedSimpArgs false
namespace Rp
structure Pk where
  an : Bool
  inc : Int
  seq : Int
  body : ByteArray
def pcells (p : Pk) : Array Value := #[.bool p.an, .int .u64 p.inc, .int .u64 p.seq, .string p.body]
def pv (p : Pk) : Value := .agg (pcells p)
def p0 : Pk := ⟨false, 0, 0, ⟨#[]⟩⟩
def far : Int := 4611686018427387904
def mayP (p : Pk) : Bool := decide (1 ≤ p.inc) && (decide (p.inc ≤ 4611686018427387904) && (decide (1 ≤ p.seq) && (decide (p.seq ≤ 4611686018427387904) && decide (p.body.size ≤ 8192))))
/-- What bytes are read as, part by part. -/
def q1V (s : ByteArray) : Bool := numV s 0 (bC s) == 1
def q1S (s : ByteArray) : ByteArray := numS s 0 (bC s)
def q1E (s : ByteArray) : Int := numE s 0 (bC s)
def q2V (s : ByteArray) : Int := numV (q1S s) (q1E s) (uC (q1S s) 4611686018427387904)
def q2S (s : ByteArray) : ByteArray := numS (q1S s) (q1E s) (uC (q1S s) 4611686018427387904)
def q2E (s : ByteArray) : Int := numE (q1S s) (q1E s) (uC (q1S s) 4611686018427387904)
def q3V (s : ByteArray) : Int := numV (q2S s) (q2E s) (uC (q2S s) 4611686018427387904)
def q3S (s : ByteArray) : ByteArray := numS (q2S s) (q2E s) (uC (q2S s) 4611686018427387904)
def q3E (s : ByteArray) : Int := numE (q2S s) (q2E s) (uC (q2S s) 4611686018427387904)
def q4V (s : ByteArray) : ByteArray := txV (q3S s) (q3E s) 8192
def q4S (s : ByteArray) : ByteArray := txS (q3S s) (q3E s) 8192
def q4E (s : ByteArray) : Int := txE (q3S s) (q3E s) 8192
def pk (s : ByteArray) : Pk := ⟨q1V s, q2V s, q3V s, q4V s⟩
/-- Bytes are a packet's. -/
def okP (s : ByteArray) : Bool := (endE (q4S s) (q4E s) == 0) && mayP (pk s)
def decP (s : ByteArray) : Pk := if okP s then pk s else p0
end Rp
open Rp
set_option maxRecDepth 100000 in
theorem pmay_any (p : Pk) (w : World) : Calls Try.prog 41 #[pv p] w fun e w' => e = .returned (.bool (mayP p)) ∧ Below w.heap.size w w' := by
  obtain ⟨an, inc, sq, body⟩ := p
  unfold mayP pv pcells
  dsimp only
  have hB := (Below.refl _ w).alloc (Nat.le_refl _) (.cells #[.bool an, .int .u64 inc, .int .u64 sq, .string body] 24)
  have HB := Lib.hid hB
  clear hB
  have hsz : ((body.size : Nat) : Int) ≤ 8192 ↔ body.size ≤ 8192 := by omega
  by_cases h1 : 1 ≤ inc
  · by_cases h2 : inc ≤ 4611686018427387904
    · by_cases h3 : 1 ≤ sq
      · by_cases h4 : sq ≤ 4611686018427387904
        · by_cases h5 : body.size ≤ 8192
          · have h5' : (body.size : Int) ≤ 8192 := by omega
            simp only [h1, h2, h3, h4, h5, decide_true, Bool.true_and]
            clear h5 hsz
            go_enter Try.func41, Try.ntmps41
            go_wp2_with fail
            go_ret
            exact ⟨rfl, HB.out⟩
          · have h5' : ¬ (body.size : Int) ≤ 8192 := by omega
            simp only [h1, h2, h3, h4, h5, decide_true, decide_false, Bool.true_and]
            clear h5 hsz
            go_enter Try.func41, Try.ntmps41
            go_wp2_with fail
            go_ret
            exact ⟨rfl, HB.out⟩
        · simp only [h1, h2, h3, h4, decide_true, decide_false, Bool.true_and, Bool.false_and]
          clear hsz
          go_enter Try.func41, Try.ntmps41
          go_wp2_with fail
          go_ret
          exact ⟨rfl, HB.out⟩
      · simp only [h1, h2, h3, decide_true, decide_false, Bool.true_and, Bool.false_and]
        clear hsz
        go_enter Try.func41, Try.ntmps41
        go_wp2_with fail
        go_ret
        exact ⟨rfl, HB.out⟩
    · simp only [h1, h2, decide_true, decide_false, Bool.true_and, Bool.false_and]
      clear hsz
      go_enter Try.func41, Try.ntmps41
      go_wp2_with fail
      go_ret
      exact ⟨rfl, HB.out⟩
  · simp only [h1, decide_false, Bool.false_and]
    clear hsz
    go_enter Try.func41, Try.ntmps41
    go_wp2_with fail
    go_ret
    exact ⟨rfl, HB.out⟩
set_option maxRecDepth 100000 in
    theorem rmay_any (p : Pk) (w : World) : Calls Try.prog 13 #[pv p] w fun e w' => e = .returned (.bool (mayP p)) ∧ Below w.heap.size w w' := by
      obtain ⟨an, inc, sq, body⟩ := p
      unfold mayP pv pcells
      dsimp only
      have hB := (Below.refl _ w).alloc (Nat.le_refl _) (.cells #[.bool an, .int .u64 inc, .int .u64 sq, .string body] 24)
      have HB := Lib.hid hB
      clear hB
      have hsz : ((body.size : Nat) : Int) ≤ 8192 ↔ body.size ≤ 8192 := by omega
      by_cases h1 : 1 ≤ inc
      · by_cases h2 : inc ≤ 4611686018427387904
        · by_cases h3 : 1 ≤ sq
          · by_cases h4 : sq ≤ 4611686018427387904
            · by_cases h5 : body.size ≤ 8192
              · have h5' : (body.size : Int) ≤ 8192 := by omega
                simp only [h1, h2, h3, h4, h5, decide_true, Bool.true_and]
                clear h5 hsz
                go_enter Try.func13, Try.ntmps13
                go_wp2_with fail
                go_ret
                exact ⟨rfl, HB.out⟩
              · have h5' : ¬ (body.size : Int) ≤ 8192 := by omega
                simp only [h1, h2, h3, h4, h5, decide_true, decide_false, Bool.true_and]
                clear h5 hsz
                go_enter Try.func13, Try.ntmps13
                go_wp2_with fail
                go_ret
                exact ⟨rfl, HB.out⟩
            · simp only [h1, h2, h3, h4, decide_true, decide_false, Bool.true_and, Bool.false_and]
              clear hsz
              go_enter Try.func13, Try.ntmps13
              go_wp2_with fail
              go_ret
              exact ⟨rfl, HB.out⟩
          · simp only [h1, h2, h3, decide_true, decide_false, Bool.true_and, Bool.false_and]
            clear hsz
            go_enter Try.func13, Try.ntmps13
            go_wp2_with fail
            go_ret
            exact ⟨rfl, HB.out⟩
        · simp only [h1, h2, decide_true, decide_false, Bool.true_and, Bool.false_and]
          clear hsz
          go_enter Try.func13, Try.ntmps13
          go_wp2_with fail
          go_ret
          exact ⟨rfl, HB.out⟩
      · simp only [h1, decide_false, Bool.false_and]
        clear hsz
        go_enter Try.func13, Try.ntmps13
        go_wp2_with fail
        go_ret
        exact ⟨rfl, HB.out⟩
theorem i64_8192 : I64 8192 := by unfold I64; omega
theorem bo {Q b : Nat} {w w2 w3 : World} (h : Below Q w w2) (hq : Q < w2.heap.size) (ho : Only (· = b) w2 w3) (hb : Q ≤ b) : Below Q w w3 := h.trans (ho.below (B := Q) (by omega) (fun k hk => by omega))
section
variable {s : ByteArray} {b : Nat} {w : World}
theorem pq1 (h : PR w b s 0) : Calls Try.prog 46 #[.pointer (some ⟨b, 0, none⟩)] w (BoolPost b w (q1V s) (q1S s) (q1E s)) := pbool_any h
theorem pq2 (h : PR w b (q1S s) (q1E s)) : Calls Try.prog 47 #[.pointer (some ⟨b, 0, none⟩), .int .u64 4611686018427387904] w (NumPost b w (q2V s) (q2S s) (q2E s)) := puint_any h _
theorem pq3 (h : PR w b (q2S s) (q2E s)) : Calls Try.prog 47 #[.pointer (some ⟨b, 0, none⟩), .int .u64 4611686018427387904] w (NumPost b w (q3V s) (q3S s) (q3E s)) := puint_any h _
theorem pq4 (h : PR w b (q3S s) (q3E s)) : Calls Try.prog 48 #[.pointer (some ⟨b, 0, none⟩), .int .i64 8192] w (TextPost b w (q4V s) (q4S s) (q4E s)) := ptext_any h _ i64_8192
end
def DcPost (w : World) (s : ByteArray) (v : Value) (e : Ending) (w' : World) : Prop := e = .returned (.tuple #[pv (decP s), v]) ∧ Below w.heap.size w w'
set_option maxRecDepth 100000 in
set_option maxHeartbeats 2000000 in
theorem pdec_any (s : ByteArray) (hs : s.size ≤ maxLen) {k : Int} (hk : (if okP s then 0 else 8) = k) (w : World) : Calls Try.prog 11 #[.string s] w (DcPost w s (.int .i64 k)) := by
  have HS := Lib.hid hs
  clear hs
  have HK := Lib.hid hk
  clear hk
  go_enter Try.func11, Try.ntmps11
  have hB0 := (Below.refl _ w).alloc (Nat.le_refl _) (.cells #[.bool false, .int .u64 0, .int .u64 0, .string ⟨#[]⟩] 24)
  have HB0 := Lib.hid hB0
  have HZ0 := Lib.hid (Blk.new w 24 #[.bool false, .int .u64 0, .int .u64 0, .string ⟨#[]⟩])
  clear hB0
  go_upto_region 1 with fail
  generalize w.alloc (.cells #[.bool false, .int .u64 0, .int .u64 0, .string ⟨#[]⟩] 24) = w1 at *
  generalize hQ0 : w.heap.size = Q at *
  have HQ0 := Lib.hid hQ0
  clear hQ0
  have HNW := Lib.hid (wnew_any s HS.out w1)
  go_upto_region 2 with (go_at_call 45; ((with_reducible refine Calls.mono HNW.out ?_); rintro e w2 ⟨rfl, hp2, hb2⟩; have HP2 := Lib.hid hp2; have HB2 := Lib.hid (HB0.out.trans (hb2.mono (by have := HZ0.out.lt; omega))); have HZ2 := Lib.hid (HZ0.out.below hb2); have HQR : Hid (Q ≠ w1.heap.size) := Lib.hid (by have := HZ0.out.lt; omega); have HRG : Hid (Q ≤ w1.heap.size) := Lib.hid (by have := HZ0.out.lt; omega); clear hp2 hb2))
  generalize w1.heap.size = b at *
  clear HB0 HZ0 HNW
  have HBO := Lib.hid (pq1 HP2.out)
  go_upto_region 3 with (go_at_call 46; ((with_reducible refine Calls.mono HBO.out ?_); rintro e w3 ⟨rfl, hp3, ho3⟩; have HP3 : Hid (PR w3 b (q1S s) (q1E s)) := Lib.hid hp3; have HO3 := Lib.hid ho3; clear hp3 ho3))
  have HB3 := Lib.hid ((bo HB2.out HZ2.out.lt HO3.out HRG.out).alloc (by have := HZ2.out.lt; have := HO3.out.size; omega) (.cells #[.bool (q1V s), .int .u64 0, .int .u64 0, .string ⟨#[]⟩] 24))
  have HP4 := Lib.hid (HP3.out.alloc (.cells #[.bool (q1V s), .int .u64 0, .int .u64 0, .string ⟨#[]⟩] 24))
  have HX4 := Lib.hid (Blk.new w3 24 #[.bool (q1V s), .int .u64 0, .int .u64 0, .string ⟨#[]⟩])
  have HZ4 := Lib.hid ((HZ2.out.only HO3.out HQR.out).alloc (.cells #[.bool (q1V s), .int .u64 0, .int .u64 0, .string ⟨#[]⟩] 24))
  have HXN : Hid (w3.heap.size ≠ b ∧ w3.heap.size ≠ Q ∧ Q ≤ w3.heap.size) := Lib.hid (by have := HP3.out.blk.lt; have := (HZ2.out.only HO3.out HQR.out).lt; omega)
  clear HBO HP2 HP3 HO3 HZ2 HB2
  generalize w3.alloc (.cells #[.bool (q1V s), .int .u64 0, .int .u64 0, .string ⟨#[]⟩] 24) = w4 at *
  generalize w3.heap.size = X at *
  have HU1 := Lib.hid (pq2 HP4.out)
  go_upto_region 4 with (go_at_call 47; first
    | ((with_reducible refine Calls.mono HU2.out ?_); rintro e w6 ⟨rfl, hp6, ho6⟩; have HP6 : Hid (PR w6 b (q3S s) (q3E s)) := Lib.hid hp6; have HX6 := Lib.hid (HX5.out.only ho6 HXN.out.1); have HZ6 := Lib.hid (HZ5.out.only ho6 HQR.out); have HB6 := Lib.hid (bo HB5.out HZ5.out.lt ho6 HRG.out); have x6 : ∀ o, w6.frozen? ⟨X, o, none⟩ = false := HX6.out.frozen; have x61 : w6.cell? ⟨X, 1, none⟩ = some (.int .u64 0) := (by rw [HX6.out.cell 1]; rfl); have x62 : w6.cell? ⟨X, 2, none⟩ = some (.int .u64 0) := (by rw [HX6.out.cell 2]; rfl); clear hp6 ho6)
    | ((with_reducible refine Calls.mono HU1.out ?_); rintro e w5 ⟨rfl, hp5, ho5⟩; have HP5 : Hid (PR w5 b (q2S s) (q2E s)) := Lib.hid hp5; have HU2 := Lib.hid (pq3 hp5); have HX5 := Lib.hid (HX4.out.only ho5 HXN.out.1); have HZ5 := Lib.hid (HZ4.out.only ho5 HQR.out); have HB5 := Lib.hid (bo HB3.out HZ4.out.lt ho5 HRG.out); clear hp5 ho5))
  have HX7 := Lib.hid ((HX6.out.set 1 (.int .u64 (q2V s))).set 2 (.int .u64 (q3V s)))
  have HP7 := Lib.hid (HP6.out.only (S := (· = X)) (((Only.refl (· = X) w6).set1 (o := 1) (v := .int .u64 (q2V s))).set1 (o := 2) (v := .int .u64 (q3V s))) (fun e => HXN.out.1 e.symm))
  have HZ7 := Lib.hid (HZ6.out.only (S := (· = X)) (((Only.refl (· = X) w6).set1 (o := 1) (v := .int .u64 (q2V s))).set1 (o := 2) (v := .int .u64 (q3V s))) (fun e => HXN.out.2.1 e.symm))
  have HB7 := Lib.hid (bo HB6.out HZ6.out.lt (((Only.refl (· = X) w6).set1 (o := 1) (v := .int .u64 (q2V s))).set1 (o := 2) (v := .int .u64 (q3V s))) HXN.out.2.2)
  clear x6 x61 x62 HX6 HP6 HZ6 HB6 HU1 HU2 HX5 HZ5 HB5 HX4 HZ4 HB3 HP4 HP5
  generalize (w6.setCell ⟨X, 1, none⟩ (.int .u64 (q2V s))).setCell ⟨X, 2, none⟩ (.int .u64 (q3V s)) = w7 at *
  have HTX := Lib.hid (pq4 HP7.out)
  have HX7' := Lib.hid (show Blk w7 X 24 #[.bool (q1V s), .int .u64 (q2V s), .int .u64 (q3V s), .string ⟨#[]⟩] from HX7.out)
  clear HX7
  go_upto_region 5 with (go_at_call 48; ((with_reducible refine Calls.mono HTX.out ?_); rintro e w8 ⟨rfl, hp8, ho8⟩; have HP8 := Lib.hid hp8; have HX8 := Lib.hid (HX7'.out.only ho8 HXN.out.1); have HZ8 := Lib.hid (HZ7.out.only ho8 HQR.out); have HB8 := Lib.hid (bo HB7.out HZ7.out.lt ho8 HRG.out); have x8 : ∀ o, w8.frozen? ⟨X, o, none⟩ = false := HX8.out.frozen; have x83 : w8.cell? ⟨X, 3, none⟩ = some (.string ⟨#[]⟩) := (by rw [HX8.out.cell 3]; rfl); clear hp8 ho8))
  have HX9 := Lib.hid (show Blk (w8.setCell ⟨X, 3, none⟩ (.string (q4V s))) X 24 #[.bool (q1V s), .int .u64 (q2V s), .int .u64 (q3V s), .string (q4V s)] from HX8.out.set 3 _)
  have HP9 := Lib.hid (HP8.out.only (S := (· = X)) ((Only.refl (· = X) w8).set1 (o := 3) (v := .string (q4V s))) (fun e => HXN.out.1 e.symm))
  have HZ9 := Lib.hid (HZ8.out.only (S := (· = X)) ((Only.refl (· = X) w8).set1 (o := 3) (v := .string (q4V s))) (fun e => HXN.out.2.1 e.symm))
  have HB9 := Lib.hid (bo HB8.out HZ8.out.lt ((Only.refl (· = X) w8).set1 (o := 3) (v := .string (q4V s))) HXN.out.2.2)
  clear x8 x83 HX8 HP8 HZ8 HB8 HX7' HP7 HZ7 HB7 HTX
  generalize w8.setCell ⟨X, 3, none⟩ (.string (q4V s)) = w9 at *
  have HEN := Lib.hid (pend_any HP9.out)
  have HMY := Lib.hid (fun W => pmay_any (pk s) W)
  have hz := HZ9.out.cell
  by_cases hE : endE (q4S s) (q4E s) = 0
  · rw [hE] at HEN
    have hokm : okP s = mayP (pk s) := by unfold okP; rw [hE]; rfl
    cases hm : mayP (pk s) with
    | true =>
      rw [hm] at HMY hokm
      have HKK : Hid (k = 0 ∧ decP s = pk s) := Lib.hid ⟨by rw [← HK.out, hokm]; rfl, by unfold decP; rw [hokm]; rfl⟩
      clear hE hm hokm hz
      have y0 : ∀ W, Blk W X 24 #[.bool (q1V s), .int .u64 (q2V s), .int .u64 (q3V s), .string (q4V s)] → W.cell? ⟨X, 0, none⟩ = some (.bool (q1V s)) ∧ W.cell? ⟨X, 1, none⟩ = some (.int .u64 (q2V s)) ∧ W.cell? ⟨X, 2, none⟩ = some (.int .u64 (q3V s)) ∧ W.cell? ⟨X, 3, none⟩ = some (.string (q4V s)) := fun W h => ⟨by rw [h.cell 0]; rfl, by rw [h.cell 1]; rfl, by rw [h.cell 2]; rfl, by rw [h.cell 3]; rfl⟩
      have HY0 := Lib.hid y0
      clear y0
      go_upto_region 7 with (first
        | (go_at_call 49; ((with_reducible refine Calls.mono HEN.out ?_); rintro e w10 ⟨rfl, _, ho10⟩; have HX10 := Lib.hid (HX9.out.only ho10 HXN.out.1); have HZ10 := Lib.hid (HZ9.out.only ho10 HQR.out); have HB10 := Lib.hid (bo HB9.out HZ9.out.lt ho10 HRG.out); obtain ⟨c0, c1, c2, c3⟩ := HY0.out _ HX10.out; have HMW : Hid (Calls Try.prog 41 #[.agg #[.bool (q1V s), .int .u64 (q2V s), .int .u64 (q3V s), .string (q4V s)]] w10 _) := Lib.hid (HMY.out w10); clear ho10))
        | (go_at_call 41; ((with_reducible refine Calls.mono HMW.out ?_); rintro e w11 ⟨rfl, hb11⟩; have HX11 := Lib.hid (HX10.out.below hb11); have HZ11 := Lib.hid (HZ10.out.below hb11); have HB11 := Lib.hid (HB10.out.trans (hb11.mono (by have := HZ10.out.lt; omega))); clear c0 c1 c2 c3; obtain ⟨c0, c1, c2, c3⟩ := HY0.out _ HX11.out; clear hb11)))
      have zc0 : (w11).cell? ⟨Q, 0, none⟩ = some (.bool false) := by rw [HZ11.out.cell 0]; rfl
      have zc1 : (w11).cell? ⟨Q, 1, none⟩ = some (.int .u64 0) := by rw [HZ11.out.cell 1]; rfl
      have zc2 : (w11).cell? ⟨Q, 2, none⟩ = some (.int .u64 0) := by rw [HZ11.out.cell 2]; rfl
      have zc3 : (w11).cell? ⟨Q, 3, none⟩ = some (.string ⟨#[]⟩) := by rw [HZ11.out.cell 3]; rfl
      have zcf := HZ11.out.frozen
      go_wp2_with fail
      rw [HKK.out.1]
      exact ret_pair (cs := pcells (pk s)) (T := 24) rfl rfl rfl ((((HZ11.out.set 0 _).set 1 _).set 2 _).set 3 _) Try.underlying24 rfl (by kernel_rfl) rfl ⟨by rw [HKK.out.2]; rfl, by rw [HQ0.out]; exact bo HB11.out HZ11.out.lt ((((((Only.refl (· = Q) w11).set1 (o := 0)).set1 (o := 1)).set1 (o := 2)).set1 (o := 3))) (Nat.le_refl _)⟩
    | false =>
      rw [hm] at HMY hokm
      have HKK : Hid (k = 8 ∧ decP s = p0) := Lib.hid ⟨by rw [← HK.out, hokm]; rfl, by unfold decP; rw [hokm]; rfl⟩
      clear hE hm hokm hz
      have y0 : ∀ W, Blk W X 24 #[.bool (q1V s), .int .u64 (q2V s), .int .u64 (q3V s), .string (q4V s)] → W.cell? ⟨X, 0, none⟩ = some (.bool (q1V s)) ∧ W.cell? ⟨X, 1, none⟩ = some (.int .u64 (q2V s)) ∧ W.cell? ⟨X, 2, none⟩ = some (.int .u64 (q3V s)) ∧ W.cell? ⟨X, 3, none⟩ = some (.string (q4V s)) := fun W h => ⟨by rw [h.cell 0]; rfl, by rw [h.cell 1]; rfl, by rw [h.cell 2]; rfl, by rw [h.cell 3]; rfl⟩
      have HY0 := Lib.hid y0
      clear y0
      go_upto_region 6 with (first
        | (go_at_call 49; ((with_reducible refine Calls.mono HEN.out ?_); rintro e w10 ⟨rfl, _, ho10⟩; have HX10 := Lib.hid (HX9.out.only ho10 HXN.out.1); have HZ10 := Lib.hid (HZ9.out.only ho10 HQR.out); have HB10 := Lib.hid (bo HB9.out HZ9.out.lt ho10 HRG.out); obtain ⟨c0, c1, c2, c3⟩ := HY0.out _ HX10.out; have HMW : Hid (Calls Try.prog 41 #[.agg #[.bool (q1V s), .int .u64 (q2V s), .int .u64 (q3V s), .string (q4V s)]] w10 _) := Lib.hid (HMY.out w10); clear ho10))
        | (go_at_call 41; ((with_reducible refine Calls.mono HMW.out ?_); rintro e w11 ⟨rfl, hb11⟩; have HX11 := Lib.hid (HX10.out.below hb11); have HZ11 := Lib.hid (HZ10.out.below hb11); have HB11 := Lib.hid (HB10.out.trans (hb11.mono (by have := HZ10.out.lt; omega))); clear c0 c1 c2 c3; obtain ⟨c0, c1, c2, c3⟩ := HY0.out _ HX11.out; clear hb11)))
      have zc0 : (w11).cell? ⟨Q, 0, none⟩ = some (.bool false) := by rw [HZ11.out.cell 0]; rfl
      have zc1 : (w11).cell? ⟨Q, 1, none⟩ = some (.int .u64 0) := by rw [HZ11.out.cell 1]; rfl
      have zc2 : (w11).cell? ⟨Q, 2, none⟩ = some (.int .u64 0) := by rw [HZ11.out.cell 2]; rfl
      have zc3 : (w11).cell? ⟨Q, 3, none⟩ = some (.string ⟨#[]⟩) := by rw [HZ11.out.cell 3]; rfl
      have zcf := HZ11.out.frozen
      go_wp2_with fail
      rw [HKK.out.1]
      exact ret_pair (cs := pcells p0) (T := 24) rfl rfl rfl ((((HZ11.out.set 0 _).set 1 _).set 2 _).set 3 _) Try.underlying24 rfl (by kernel_rfl) rfl ⟨by rw [HKK.out.2]; rfl, by rw [HQ0.out]; exact bo HB11.out HZ11.out.lt ((((((Only.refl (· = Q) w11).set1 (o := 0)).set1 (o := 1)).set1 (o := 2)).set1 (o := 3))) (Nat.le_refl _)⟩
  · have HKK : Hid (k = 8 ∧ decP s = p0) := Lib.hid (by
      have : okP s = false := by unfold okP; rw [beq_false_of_ne hE]; rfl
      exact ⟨by rw [← HK.out, this]; rfl, by unfold decP; rw [this]; rfl⟩)
    have hE' : (endE (q4S s) (q4E s) != 0) = true := by simpa using hE
    clear hE hz
    generalize endE (q4S s) (q4E s) = E at *
    go_upto_region 6 with (go_at_call 49; ((with_reducible refine Calls.mono HEN.out ?_); rintro e w11 ⟨rfl, _, ho10⟩; have HZ11 := Lib.hid (HZ9.out.only ho10 HQR.out); have HB11 := Lib.hid (bo HB9.out HZ9.out.lt ho10 HRG.out); clear ho10))
    have zc0 : (w11).cell? ⟨Q, 0, none⟩ = some (.bool false) := by rw [HZ11.out.cell 0]; rfl
    have zc1 : (w11).cell? ⟨Q, 1, none⟩ = some (.int .u64 0) := by rw [HZ11.out.cell 1]; rfl
    have zc2 : (w11).cell? ⟨Q, 2, none⟩ = some (.int .u64 0) := by rw [HZ11.out.cell 2]; rfl
    have zc3 : (w11).cell? ⟨Q, 3, none⟩ = some (.string ⟨#[]⟩) := by rw [HZ11.out.cell 3]; rfl
    have zcf := HZ11.out.frozen
    go_wp2_with fail
    rw [HKK.out.1]
    exact ret_pair (cs := pcells p0) (T := 24) rfl rfl rfl ((((HZ11.out.set 0 _).set 1 _).set 2 _).set 3 _) Try.underlying24 rfl (by kernel_rfl) rfl ⟨by rw [HKK.out.2]; rfl, by rw [HQ0.out]; exact bo HB11.out HZ11.out.lt ((((((Only.refl (· = Q) w11).set1 (o := 0)).set1 (o := 1)).set1 (o := 2)).set1 (o := 3))) (Nat.le_refl _)⟩
end Go.Proofs.Ytgdgonmhgpflcaa
