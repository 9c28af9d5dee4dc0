import Derived.Test.YtpidhcogaoehhaaMgb
import Derived.Test.YtpidhcogaoehhaaMga
import Derived.Test.YtpidhcogaoehhaaRows
import Derived.Shelf.Strings.Builder1
import Derived.Deep.DeepCutAuto
import Derived.Deep.CutBlock
import Derived.Deep.RegionWith

/- The walks of the document's readers of layer 1, of how many bytes a number has, and of the statements' own example. No condition but that a text is no longer than Go lets it be. -/
namespace Go.Proofs.Ytpidhcogaoehhaa
open Go.RowKit
set_option linter.unusedVariables false

/-- The document's loop that looks for the last byte. -/
def RRel1 (s : ByteArray) (n : Value) : Prop := ∃ k : Nat, k ≤ s.size ∧ k ≤ 10 ∧ n = .int .i64 k ∧ Num.Up s.data.toList k
/-- The document's loop that adds up. -/
def vmod (s : ByteArray) (n j : Nat) : Int := ((Num.val ((s.data.toList.take (n + 1)).drop j) % 18446744073709551616 : Nat) : Int)
theorem vmod_range (s : ByteArray) (n j : Nat) : 0 ≤ vmod s n j ∧ vmod s n j ≤ 18446744073709551615 := by unfold vmod; omega
def RRel2 (s : ByteArray) (n : Nat) (x i : Value) : Prop :=
  ∃ j : Nat, j ≤ n + 1 ∧ i = .int .i64 ((j : Int) - 1) ∧ x = .int .u64 (vmod s n j)
theorem rr_step {s : ByteArray} {n j : Nat} (hn : n < s.size) (hj : j ≤ n) :
    IntKind.u64.wrap (IntKind.u64.wrap (128 * vmod s n (j + 1)) + (s[j].toNat : Int) % 128) = vmod s n j := by
  unfold vmod
  have hl : j < (s.data.toList.take (n + 1)).length := by rw [List.length_take, bl]; omega
  rw [Num.val_drop hl, IntKind.wrap_u64, IntKind.wrap_u64]
  have hb : (s.data.toList.take (n + 1))[j] = s[j] := by rw [List.getElem_take]; exact bat s j (by omega)
  rw [hb]
  omega
theorem take_mk (s : ByteArray) (n : Nat) (x : ByteArray) : x = s.extract 0 (n + 1) ↔ x.data.toList = s.data.toList.take (n + 1) := by
  constructor
  · intro h; subst h; simp [ByteArray.data_extract]
  · intro h; apply ByteArray.ext; apply Array.toList_inj.1; rw [h]; simp [ByteArray.data_extract]
def RReadPost (s : ByteArray) (w : World) (e : Ending) (w' : World) : Prop :=
  e = .returned (.tuple #[.int .u64 ((rdS s).1 : Nat), .int .i64 ((rdS s).2.1 : Nat), .int .i64 ((rdS s).2.2 : Nat)]) ∧ Below w.heap.size w w'
theorem rread_post {s : ByteArray} {w w' : World} {a b c : Nat} {a' b' c' : Int} (h : rdS s = (a, b, c)) (h1 : a' = a) (h2 : b' = b) (h3 : c' = c) (hb : Below w.heap.size w w') : RReadPost s w (.returned (.tuple #[.int .u64 a', .int .i64 b', .int .i64 c'])) w' := by
  unfold RReadPost; rw [h, h1, h2, h3]; exact ⟨rfl, hb⟩
theorem rread_yes {s : ByteArray} {k : Nat} (h : Num.Up s.data.toList k) (h1 : k < s.size) (h2 : k < 10) (h3 : s[k].toNat < 128)
    (he : Num.lebS (vmod s k 0) = s.extract 0 (k + 1)) : rdS s = (Num.val (s.data.toList.take (k + 1)) % 18446744073709551616, k + 1, 0) := by
  rw [take_mk] at he
  exact (Num.rd_ref h h1 h2 (by rw [bat s k h1]; exact h3)).1 (by simpa only [Num.lebS, vmod, Int.toNat_natCast, List.drop_zero] using he)
theorem rread_no {s : ByteArray} {k : Nat} (h : Num.Up s.data.toList k) (h1 : k < s.size) (h2 : k < 10) (h3 : s[k].toNat < 128)
    (he : ¬ Num.lebS (vmod s k 0) = s.extract 0 (k + 1)) : rdS s = (0, 0, 8) := by
  rw [take_mk] at he
  exact (Num.rd_ref h h1 h2 (by rw [bat s k h1]; exact h3)).2 (by simpa only [Num.lebS, vmod, Int.toNat_natCast, List.drop_zero] using he)
/-! ### ReadInt -/
def readIntV (s : ByteArray) : Value := .tuple #[.int .i64 (Num.zag ((rdS s).1 : Nat)), .int .i64 ((rdS s).2.1 : Nat), .int .i64 ((rdS s).2.2 : Nat)]
theorem rdS_U64 (s : ByteArray) : U64 ((rdS s).1 : Nat) := by
  have h : (rdS s).1 < 18446744073709551616 := by
    rcases hr : rdS s with ⟨x, n, e⟩
    by_cases he : e = 0
    · subst he; exact (Num.rd_ok hr).2.2.1
    · have := Num.rd_err (l := s.data.toList)
      unfold rdS at hr
      rw [hr] at this
      simp at this
      rcases this with h | h
      · exact absurd h he
      · show x < _; omega
  unfold U64; omega
end Go.Proofs.Ytpidhcogaoehhaa


/- Steps of the theorem on regions that draw their order. No condition. -/
namespace Go.Proofs.Ytpidhcogaoehhaa
namespace Reg
open Go.RowKit
set_option linter.unusedVariables false
section
variable {P : Program} {ops : Array Oper} {I : World → Prop} {a0 : Act} {R : Act → World → Prop} {o : Oper} {rest : List Oper} {K : List (Option Tmp × Spec)} {Gs : List (World → World → Prop)} {Js : List (World → Prop)} {w0 : World}
theorem looks1 {t : Tmp} (hop : o.op.operands = #[.tmp t]) : t ∈ o.looksAt ops := by simp [Oper.looksAt, hop]
theorem looksB {t : Tmp} (h : (o.looksAt ops).contains t = true) : t ∈ o.looksAt ops := by simpa using h
theorem looksN {t : Tmp} {os : Array Operand} (hop : o.op.operands = os) (h : Operand.tmp t ∈ os.toList) : t ∈ o.looksAt ops := by
  unfold Oper.looksAt
  rw [hop]
  exact List.mem_append_left _ (List.mem_filterMap.2 ⟨_, h, rfl⟩)
/-- An operation on one slot. -/
theorem rely_one (t : Tmp) (u c : Value) (hg : o.guard = none) (hop : o.op.operands = #[.tmp t]) (hu : ∀ v w, Fact K a0 t v w → v = u)
    (hrun : ∀ (ρ : Operand → Value) w, ρ (.tmp t) = u → I w → (execOp ρ o).run P w = .ok (.value c) w)
    (hr : Rely P ops I w0 a0 R rest ((o.dst, Is c) :: K) Gs Js) : Rely P ops I w0 a0 R (o :: rest) K Gs Js :=
  rely_is c (fun a w hI hF => det_plain hg (hrun _ w (hu _ w (hF t (looks1 hop))) hI)) hr
theorem rely_move (t : Tmp) (u : Value) (hg : o.guard = none) (hop : o.op = .move (.tmp t)) (hu : ∀ v w, Fact K a0 t v w → v = u)
    (hr : Rely P ops I w0 a0 R rest ((o.dst, Is u) :: K) Gs Js) : Rely P ops I w0 a0 R (o :: rest) K Gs Js :=
  rely_one t u u hg (by rw [hop]; rfl) hu (fun ρ w h _ => by simp [execOp, hop, h]) hr
/-- A call of a function whose arguments lie in slots. -/
theorem rely_call (S : Spec) (G : World → World → Prop) (J : World → Prop) (hS : Stab S Grow) (hG : ∀ G ∈ Gs, Stab S G) (hI : ∀ w w', G w w' → I w → I w')
    (hK : ∀ p ∈ K, Stab p.2 G) (hg : o.guard = none) (hJ : StJ J Grow) (hJ0 : J w0) (hJG : ∀ G' ∈ Gs, StJ J G') (hJJ : ∀ J' ∈ Js, StJ J' G)
    (f : FuncId) (args : Array Value) (hrun : ∀ (a : Act) (w : World), I w → (∀ t ∈ o.looksAt ops, Fact K a0 t (a.tmps.getD t undef) w) → (execOp a.eval o).run P w = .ok (.enter f args) w)
    (hc : ∀ w, I w → J w → Calls P f args w fun e w' => ∃ v, e = .returned v ∧ S v w' ∧ G w w')
    (hr : Rely P ops I w0 a0 R rest ((o.dst, S) :: K) (G :: Gs) (J :: Js)) : Rely P ops I w0 a0 R (o :: rest) K Gs Js := by
  refine rely_turn S G J hS hG hI hK hg hJ hJ0 hJG hJJ (fun a w hi hj hF => ?_) hr
  unfold Oper.wp
  rw [hrun a w hi hF]
  simp only [Oper.upon]
  refine (hc w hi hj).mono fun e w' ⟨v, he, h1, h2⟩ => ?_
  subst he
  exact ⟨v, rfl, h1, h2⟩
end
end Reg
end Go.Proofs.Ytpidhcogaoehhaa


/- The library's contracts of strings.Builder, laid at this program: each body is the kernel's comparison. No condition. -/
namespace Go.Proofs.Ytpidhcogaoehhaa
open Go.RowKit Go.Shelf
set_option linter.unusedVariables false
namespace Bld
/-- The library's numbers at this program. -/
def ren : Ren := ⟨fun n => if n = 166 then 73 else if n = 240 then 91 else if n = 276 then 94 else if n = 169 then 74 else 0,
  fun n => if n = 0 then 0 else if n = 3 then 3 else if n = 4 then 4 else if n = 5 then 5 else if n = 9 then 9 else if n = 20 then 20 else if n = 37 then 124 else if n = 70 then 123 else if n = 72 then 126 else if n = 75 then 128 else if n = 80 then 131 else if n = 127 then 146 else if n = 164 then 152 else 0, fun n => n⟩
set_option maxRecDepth 100000 in
theorem lays166 : Lays.n166 Try.prog ren where
  mixed := by kernel_rfl
  f166 := by kernel_rfl
  f240 := by kernel_rfl
  f276 := by kernel_rfl
  t0 := by kernel_rfl
  a0 := fun w => by kernel_rfl
  z0 := fun w => by kernel_rfl
  v0 := fun w => by kernel_rfl
  t3 := by kernel_rfl
  a3 := fun w => by kernel_rfl
  z3 := fun w => by kernel_rfl
  v3 := fun w => by kernel_rfl
  t4 := by kernel_rfl
  a4 := fun w => by kernel_rfl
  z4 := fun w => by kernel_rfl
  v4 := fun w => by kernel_rfl
  t9 := by kernel_rfl
  a9 := fun w => by kernel_rfl
  z9 := fun w => by kernel_rfl
  v9 := fun w => by kernel_rfl
  t20 := by kernel_rfl
  a20 := fun w => by kernel_rfl
  z20 := fun w => by kernel_rfl
  v20 := fun w => by kernel_rfl
  t37 := by kernel_rfl
  a37 := fun w => by kernel_rfl
  z37 := fun w => by kernel_rfl
  v37 := fun w => by kernel_rfl
  t70 := by kernel_rfl
  a70 := fun w => by kernel_rfl
  z70 := fun w => by kernel_rfl
  v70 := fun w => by kernel_rfl
  t72 := by kernel_rfl
  a72 := fun w => by kernel_rfl
  z72 := fun w => by kernel_rfl
  v72 := fun w => by kernel_rfl
  t75 := by kernel_rfl
  a75 := fun w => by kernel_rfl
  z75 := fun w => by kernel_rfl
  v75 := fun w => by kernel_rfl
  t164 := by kernel_rfl
  a164 := fun w => by kernel_rfl
  z164 := fun w => by kernel_rfl
  v164 := fun w => by kernel_rfl
set_option maxRecDepth 100000 in
theorem lays169 : Lays.n169 Try.prog ren where
  mixed := by kernel_rfl
  f169 := by kernel_rfl
  t0 := by kernel_rfl
  a0 := fun w => by kernel_rfl
  z0 := fun w => by kernel_rfl
  v0 := fun w => by kernel_rfl
  t3 := by kernel_rfl
  a3 := fun w => by kernel_rfl
  z3 := fun w => by kernel_rfl
  v3 := fun w => by kernel_rfl
  t9 := by kernel_rfl
  a9 := fun w => by kernel_rfl
  z9 := fun w => by kernel_rfl
  v9 := fun w => by kernel_rfl
  t37 := by kernel_rfl
  a37 := fun w => by kernel_rfl
  z37 := fun w => by kernel_rfl
  v37 := fun w => by kernel_rfl
  t70 := by kernel_rfl
  a70 := fun w => by kernel_rfl
  z70 := fun w => by kernel_rfl
  v70 := fun w => by kernel_rfl
  t72 := by kernel_rfl
  a72 := fun w => by kernel_rfl
  z72 := fun w => by kernel_rfl
  v72 := fun w => by kernel_rfl
  t127 := by kernel_rfl
  a127 := fun w => by kernel_rfl
  z127 := fun w => by kernel_rfl
  v127 := fun w => by kernel_rfl
set_option maxRecDepth 100000 in
theorem extra : Builder.Extra Try.prog ren where
  sizeBuilder := by kernel_rfl
  liesBuilder := by kernel_rfl
  t5 := by kernel_rfl
  a5 := fun w => by kernel_rfl
  z5 := fun w => by kernel_rfl
  v5 := fun w => by kernel_rfl
  infoByte := by kernel_rfl
  cellsByte := by kernel_rfl
  sizeByte := by kernel_rfl
  neB5 := by decide
/-- A builder in block b that holds the bytes l, all its own from B on. -/
def Is (B b : Nat) (l : List UInt8) (w : World) : Prop := Lib.IsBuilder 126 5 B b (Go.Lib.byteCells l) w
theorem fresh (w : World) : Is w.heap.size w.heap.size [] (w.alloc (.cells #[.pointer none, .slice none 0 0] 126)) :=
  .inl ⟨Nat.le_refl _, .slice none 0 0, heap_alloc_new w _, World.ownsRow_nil _ _ _ _, by simp [Value.ownBlock]⟩
theorem at_below {T e : TypeId} {B b : Nat} {p : Value} {bs : List Value} {W W' : World} (h : Lib.BuilderAt T e B b p bs W) (hb : Below W.heap.size W W') : Lib.BuilderAt T e B b p bs W' := by
  have hlt := h.lt
  obtain ⟨hB, v, hv, hown, hne⟩ := h
  exact ⟨hB, v, (hb.block b hlt).trans hv, hown.kept (row := none) ⟨hb.os, hb.tape, hb.output, hb.size, fun k hk _ => hb.block k hk⟩ (Classical.em _), hne⟩
theorem Is.below {B b : Nat} {l : List UInt8} {W W' : World} (h : Is B b l W) (hb : Below W.heap.size W W') : Is B b l W' := h.elim (fun x => .inl (at_below x hb)) (fun x => .inr (at_below x hb))
set_option maxRecDepth 100000 in
theorem write {B b : Nat} {l : List UInt8} {w : World} (h : Is B b l w) (s : ByteArray) (hlen : l.length + s.size ≤ 140737488355328) (hBw : B ≤ w.heap.size) :
    Calls Try.prog 73 #[.pointer (some ⟨b, 0, none⟩), .string s] w fun e w' => e = .returned (.tuple #[.int .i64 s.size, .nilIface]) ∧ Is B b (l ++ s.data.toList) w' ∧ Below B w w' := by
  have := Any.Builder_WriteString lays166 extra B b (Go.Lib.byteCells l) s w h (by simpa [Go.Lib.byteCells] using hlen) hBw
  refine Calls.mono this fun e w' h => ⟨h.1, ?_, h.2.2⟩
  have h1 := h.2.1
  refine .inr ?_
  have e : Go.Lib.byteCells (l ++ s.data.toList) = Go.Lib.byteCells l ++ Go.Lib.strCells s := by simp [Go.Lib.byteCells, Go.Lib.strCells]
  rw [e]; exact h1
set_option maxRecDepth 100000 in
theorem string {B b : Nat} {l : List UInt8} {w : World} (h : Is B b l w) (hBw : B ≤ w.heap.size) :
    Calls Try.prog 74 #[.pointer (some ⟨b, 0, none⟩)] w fun e w' => e = .returned (.string ⟨l.toArray⟩) ∧ Below B w w' :=
  Any.Builder_String_any lays169 extra B b l w h hBw
end Bld
end Go.Proofs.Ytpidhcogaoehhaa


/- The walks of the program's writers of bricks. No condition but that numbers fit their kinds and that the bytes are not too many. -/
namespace Go.Proofs.Ytpidhcogaoehhaa
open Go.RowKit
set_option linter.unusedVariables false
/-- The value is a slice of n elements, one cell each. -/
def Slic (w : World) (v : Value) (n : Nat) (f : Nat → Value) : Prop :=
  ∃ p cap, v = .slice p n cap ∧ (0 < n → ∃ g off, p = some ⟨g, off, none⟩ ∧ g < w.heap.size ∧ ∀ i, i < n → w.cell? ⟨g, off + i, none⟩ = some (f i))
/-- The bytes of the first n, one behind the other. -/
def cat (g : Nat → ByteArray) (n : Nat) : List UInt8 := (List.range n).flatMap fun i => (g i).data.toList
theorem cat_zero (g : Nat → ByteArray) : cat g 0 = [] := rfl
theorem cat_succ (g : Nat → ByteArray) (n : Nat) : cat g (n + 1) = cat g n ++ (g n).data.toList := by simp [cat, List.range_succ, List.flatMap_append]
theorem cat_le (g : Nat → ByteArray) {i n : Nat} (h : i ≤ n) : (cat g i).length ≤ (cat g n).length := by
  induction n with
  | zero => have : i = 0 := by omega
            subst this; exact Nat.le_refl _
  | succ n ih =>
    by_cases e : i = n + 1
    · subst e; exact Nat.le_refl _
    · rw [cat_succ, List.length_append]; have := ih (by omega); omega
def AllPost (g : Nat → ByteArray) (n : Nat) (w : World) (e : Ending) (w' : World) : Prop := e = .returned (.string ⟨(cat g n).toArray⟩) ∧ Below w.heap.size w w'
def AllRel (g : Nat → ByteArray) (n : Nat) (w : World) (u : Value) (wr : World) : Prop := ∃ i : Nat, i ≤ n ∧ u = .int .i64 i ∧ Bld.Is w.heap.size w.heap.size (cat g i) wr ∧ Below w.heap.size w wr
set_option maxRecDepth 100000 in
set_option maxHeartbeats 1000000 in
theorem all_u64 {g : Nat → ByteArray} {n : Nat} {f : Nat → Value} {w : World} {v : Value} (hv : Slic w v n f) (hn : n < 4611686018427387904) (hlen : (cat g n).length ≤ 140737488355328)
    (hf : ∀ i, i < n → ∀ w, Calls Try.prog 47 #[f i] w fun e w' => e = .returned (.string (g i)) ∧ Below w.heap.size w w') :
    Calls Try.prog 46 #[.func (.func 47) #[] #[], v] w (AllPost g n w) := by
  obtain ⟨p, cap, rfl, hS⟩ := hv
  have HS := Lib.hid hS
  have HF := Lib.hid hf
  have HB := Lib.hid (Bld.fresh w)
  have hrfl := (Below.refl w.heap.size w).alloc (Nat.le_refl _) (.cells #[.pointer none, .slice none 0 0] 126)
  clear hS hf
  go_enter Try.func46, Try.ntmps46
  go_wp2
  go_loopw [10] (fun u wr => AllRel g n w u wr) (fun u _ => ((n : Int) - intOf u).toNat)
  case atStart => exact ⟨0, by omega, rfl, HB.out, hrfl⟩
  case round =>
    obtain ⟨k, hk1, rfl, hB, hb⟩ := hrel
    by_cases hk : k < n
    · obtain ⟨g0, off, rfl, hg, hx⟩ := HS.out (by omega)
      have x0 : wr.cell? ⟨g0, off + k, none⟩ = some (f k) := by rw [hb.cell hg]; exact hx k hk
      have HK := Lib.hid (HF.out k hk)
      have HBk := Lib.hid hB
      have Hb := Lib.hid hb
      clear hx hB hb
      generalize f k = fk at *
      have hl1 : (cat g (k + 1)).length ≤ 140737488355328 := Nat.le_trans (cat_le g hk) hlen
      go_wp2_with (first | (go_at_call 47; ((with_reducible refine (HK.out _).mono ?_); rintro e w1 ⟨rfl, b1⟩; have HB1 := Lib.hid (HBk.out.below b1); have HW := Lib.hid (Bld.write HB1.out (g k) (by rw [cat_succ, List.length_append] at hl1; simpa using hl1) (Nat.le_trans Hb.out.size b1.size)))) | (go_at_call 73; ((with_reducible refine HW.out.mono ?_); rintro e w2 ⟨rfl, hB2, b2⟩)))
      go_roundw
      case rel => exact ⟨k + 1, by omega, rfl, by rw [cat_succ]; exact hB2, (Hb.out.trans (b1.mono Hb.out.size)).trans b2⟩
      case measure => simp [intOf]; omega
    · have : k = n := by omega
      subst this
      have Hb := Lib.hid hb
      have HW := Lib.hid (Bld.string hB hb.size)
      clear hb hB
      go_wp2_with (go_at_call 74; ((with_reducible refine HW.out.mono ?_); rintro e w2 ⟨rfl, b2⟩))
      go_ret
      exact ⟨rfl, Hb.out.trans b2⟩
set_option maxRecDepth 100000 in
      set_option maxHeartbeats 1000000 in
      theorem all_i64 {g : Nat → ByteArray} {n : Nat} {f : Nat → Value} {w : World} {v : Value} (hv : Slic w v n f) (hn : n < 4611686018427387904) (hlen : (cat g n).length ≤ 140737488355328)
          (hf : ∀ i, i < n → ∀ w, Calls Try.prog 77 #[f i] w fun e w' => e = .returned (.string (g i)) ∧ Below w.heap.size w w') :
          Calls Try.prog 76 #[.func (.func 77) #[] #[], v] w (AllPost g n w) := by
        obtain ⟨p, cap, rfl, hS⟩ := hv
        have HS := Lib.hid hS
        have HF := Lib.hid hf
        have HB := Lib.hid (Bld.fresh w)
        have hrfl := (Below.refl w.heap.size w).alloc (Nat.le_refl _) (.cells #[.pointer none, .slice none 0 0] 126)
        clear hS hf
        go_enter Try.func76, Try.ntmps76
        go_wp2
        go_loopw [10] (fun u wr => AllRel g n w u wr) (fun u _ => ((n : Int) - intOf u).toNat)
        case atStart => exact ⟨0, by omega, rfl, HB.out, hrfl⟩
        case round =>
          obtain ⟨k, hk1, rfl, hB, hb⟩ := hrel
          by_cases hk : k < n
          · obtain ⟨g0, off, rfl, hg, hx⟩ := HS.out (by omega)
            have x0 : wr.cell? ⟨g0, off + k, none⟩ = some (f k) := by rw [hb.cell hg]; exact hx k hk
            have HK := Lib.hid (HF.out k hk)
            have HBk := Lib.hid hB
            have Hb := Lib.hid hb
            clear hx hB hb
            generalize f k = fk at *
            have hl1 : (cat g (k + 1)).length ≤ 140737488355328 := Nat.le_trans (cat_le g hk) hlen
            go_wp2_with (first | (go_at_call 77; ((with_reducible refine (HK.out _).mono ?_); rintro e w1 ⟨rfl, b1⟩; have HB1 := Lib.hid (HBk.out.below b1); have HW := Lib.hid (Bld.write HB1.out (g k) (by rw [cat_succ, List.length_append] at hl1; simpa using hl1) (Nat.le_trans Hb.out.size b1.size)))) | (go_at_call 73; ((with_reducible refine HW.out.mono ?_); rintro e w2 ⟨rfl, hB2, b2⟩)))
            go_roundw
            case rel => exact ⟨k + 1, by omega, rfl, by rw [cat_succ]; exact hB2, (Hb.out.trans (b1.mono Hb.out.size)).trans b2⟩
            case measure => simp [intOf]; omega
          · have : k = n := by omega
            subst this
            have Hb := Lib.hid hb
            have HW := Lib.hid (Bld.string hB hb.size)
            clear hb hB
            go_wp2_with (go_at_call 74; ((with_reducible refine HW.out.mono ?_); rintro e w2 ⟨rfl, b2⟩))
            go_ret
            exact ⟨rfl, Hb.out.trans b2⟩
namespace Wire
def textS (s : ByteArray) : ByteArray := Num.lebS s.size ++ s
def boolS (b : Bool) : ByteArray := Num.lebS (if b = true then 1 else 0)
end Wire
open Wire
theorem small_cat {g : Nat → ByteArray} {n : Nat} (h : ∀ i, i < n → (g i).size ≤ 10) : (cat g n).length ≤ 10 * n := by
  induction n with
  | zero => simp [cat]
  | succ n ih =>
    rw [cat_succ, List.length_append]
    have h1 := ih fun i hi => h i (by omega)
    have h2 := h n (by omega)
    have h3 : (g n).data.toList.length = (g n).size := by simp
    omega
set_option maxHeartbeats 400000 in
theorem uints_any {n : Nat} {x : Nat → Int} {w : World} {v : Value} (hv : Slic w v n fun i => .int .u64 (x i)) (hn : n < 1099511627776) (hx : ∀ i, i < n → U64 (x i)) :
    Calls Try.prog 24 #[v] w (AllPost (fun i => Num.lebS (x i)) n w) := by
  have H := Lib.hid (all_u64 hv (by omega) (g := fun i => Num.lebS (x i)) (by have := small_cat (g := fun i => Num.lebS (x i)) (n := n) (fun i hi => lebS_size (hx i hi).2); omega) (fun i hi w => uint_any (x i) (hx i hi) w))
  obtain ⟨p, cap, rfl, hS⟩ := hv
  clear hS hx
  go_enter Try.func24, Try.ntmps24
  go_wp2_with (go_at_call 46; ((with_reducible refine H.out.mono ?_); rintro e w1 ⟨rfl, b1⟩))
  go_ret
  exact ⟨rfl, b1⟩
set_option maxHeartbeats 400000 in
theorem ints_any {n : Nat} {x : Nat → Int} {w : World} {v : Value} (hv : Slic w v n fun i => .int .i64 (x i)) (hn : n < 1099511627776) (hx : ∀ i, i < n → I64 (x i)) :
    Calls Try.prog 49 #[v] w (AllPost (fun i => intS (x i)) n w) := by
  have H := Lib.hid (all_i64 hv (by omega) (g := fun i => intS (x i)) (by have := small_cat (g := fun i => intS (x i)) (n := n) (fun i hi => lebS_size (U64_zig (hx i hi)).2); omega) (fun i hi w => int_any (x i) (hx i hi) w))
  obtain ⟨p, cap, rfl, hS⟩ := hv
  clear hS hx
  go_enter Try.func49, Try.ntmps49
  go_wp2_with (go_at_call 76; ((with_reducible refine H.out.mono ?_); rintro e w1 ⟨rfl, b1⟩))
  go_ret
  exact ⟨rfl, b1⟩
end Go.Proofs.Ytpidhcogaoehhaa


/- The walks of what says whether a program has its form: 'reg', 'formed'. No condition but that numbers fit their kinds. -/
namespace Go.Proofs.Ytpidhcogaoehhaa
open Go.RowKit Cd
set_option linter.unusedVariables false
theorem creg1_any (x : Int) (w : World) : Calls Try.prog 70 #[.int .i64 x] w fun e w' => e = .returned (.bool (!regB x)) ∧ w = w' := by
  by_cases h0 : x < 0
  · have e : regB x = false := by unfold regB; rw [Bool.and_eq_false_iff, decide_eq_false_iff_not]; omega
    rw [e]
    clear e
    go_enter Try.func70, Try.ntmps70
    go_wp2
    go_ret
    exact ⟨rfl, rfl⟩
  · have h0' : 0 ≤ x := by omega
    by_cases h1 : 16 < x
    · have e : regB x = false := by unfold regB; rw [Bool.and_eq_false_iff, decide_eq_false_iff_not, decide_eq_false_iff_not]; omega
      rw [e]
      clear e h0
      go_enter Try.func70, Try.ntmps70
      go_wp2
      go_ret
      exact ⟨rfl, rfl⟩
    · have e : regB x = true := by simp [regB]; omega
      have h1' : decide (16 < x) = false := decide_eq_false h1
      have h0'' : decide (x < 0) = false := decide_eq_false h0
      rw [e]
      clear e h0 h1
      go_enter Try.func70, Try.ntmps70
      go_wp2
      go_ret
      exact ⟨rfl, rfl⟩
def oddI (x : Nat → Int) (n : Nat) : Bool := (List.range n).any fun i => !regB (x i)
theorem oddI_succ (x : Nat → Int) (n : Nat) : oddI x (n + 1) = (oddI x n || !regB (x n)) := by simp [oddI, List.range_succ]
theorem oddI_of {x : Nat → Int} {n : Nat} {k : Nat} (h : k < n) (e : regB (x k) = false) : oddI x n = true := by
  unfold oddI; rw [List.any_eq_true]; exact ⟨k, List.mem_range.2 h, by simp [e]⟩
set_option maxRecDepth 100000 in
set_option maxHeartbeats 1000000 in
theorem cidxI_any {n : Nat} {x : Nat → Int} {w : World} {v : Value} (hv : Slic w v n fun i => .int .i64 (x i)) (hn : n < 1099511627776) :
    Calls Try.prog 90 #[v, .func (.func 70) #[] #[]] w fun e w' => (∃ r : Int, e = .returned (.int .i64 r) ∧ decide (0 ≤ r) = oddI x n) ∧ w = w' := by
  obtain ⟨p, cap, rfl, hS⟩ := hv
  have HS := Lib.hid hS
  clear hS
  go_enter Try.func90, Try.ntmps90
  go_wp2
  go_loopw [8] (fun u wr => (∃ i : Nat, i ≤ n ∧ u = .int .i64 i ∧ oddI x i = false) ∧ wr = w) (fun u _ => ((n : Int) - intOf u).toNat)
  case atStart => exact ⟨⟨0, by omega, rfl, rfl⟩, rfl⟩
  case round =>
    obtain ⟨⟨k, hk1, rfl, hno⟩, rfl⟩ := hrel
    by_cases hk : k < n
    · obtain ⟨g0, off, rfl, hg, hx⟩ := HS.out (by omega)
      have x0 : wr.cell? ⟨g0, off + k, none⟩ = some (.int .i64 (x k)) := hx k hk
      have HR := Lib.hid (creg1_any (x k) wr)
      clear hx
      cases he : regB (x k) with
      | false =>
        have hh : oddI x n = true := oddI_of hk he
        rw [he] at HR
        clear he
        go_wp2_with (go_at_call 70; ((with_reducible refine HR.out.mono ?_); rintro e w' ⟨rfl, rfl⟩))
        go_ret
        exact ⟨⟨k, rfl, by rw [hh]; simp⟩, rfl⟩
      | true =>
        have hs : oddI x (k + 1) = false := by rw [oddI_succ, hno, he]; rfl
        rw [he] at HR
        clear he
        go_wp2_with (go_at_call 70; ((with_reducible refine HR.out.mono ?_); rintro e w' ⟨rfl, rfl⟩))
        go_roundw
        case rel => exact ⟨⟨k + 1, by omega, rfl, hs⟩, by trivial⟩
        case measure => simp [intOf]; omega
    · have : k = n := by omega
      subst this
      go_wp2
      go_ret
      exact ⟨⟨-1, rfl, by rw [hno]; rfl⟩, rfl⟩
set_option maxHeartbeats 400000 in
theorem cconI_any {n : Nat} {x : Nat → Int} {w : World} {v : Value} (hv : Slic w v n fun i => .int .i64 (x i)) (hn : n < 1099511627776) :
    Calls Try.prog 69 #[v, .func (.func 70) #[] #[]] w fun e w' => e = .returned (.bool (oddI x n)) ∧ w = w' := by
  have HI := Lib.hid (cidxI_any hv hn)
  obtain ⟨p, cap, rfl, hS⟩ := hv
  clear hS
  go_enter Try.func69, Try.ntmps69
  go_wp2_with (go_at_call 90; ((with_reducible refine HI.out.mono ?_); rintro e w' ⟨⟨r, rfl, hr⟩, rfl⟩))
  go_ret
  exact ⟨by show Ending.returned (.bool _) = _; rw [← hr], rfl⟩
set_option maxHeartbeats 400000 in
theorem creg_any {n : Nat} {x : Nat → Int} {w : World} {v : Value} (hv : Slic w v n fun i => .int .i64 (x i)) (hn : n < 1099511627776) :
    Calls Try.prog 41 #[v] w fun e w' => e = .returned (.bool (!oddI x n)) ∧ w = w' := by
  have HI := Lib.hid (cconI_any hv hn)
  obtain ⟨p, cap, rfl, hS⟩ := hv
  clear hS
  cases hh : oddI x n with
  | true =>
    rw [hh] at HI
    go_enter Try.func41, Try.ntmps41
    go_wp2_with (go_at_call 69; ((with_reducible refine HI.out.mono ?_); rintro e w' ⟨rfl, rfl⟩))
    go_ret
    exact ⟨rfl, rfl⟩
  | false =>
    rw [hh] at HI
    go_enter Try.func41, Try.ntmps41
    go_wp2_with (go_at_call 69; ((with_reducible refine HI.out.mono ?_); rintro e w' ⟨rfl, rfl⟩))
    go_ret
    exact ⟨rfl, rfl⟩
theorem creg3_any {d a b : Int} {w : World} {g : Nat} {T : TypeId} (hb : Blk w g T #[.int .i64 d, .int .i64 a, .int .i64 b]) :
    Calls Try.prog 41 #[.slice (some ⟨g, 0, none⟩) 3 3] w fun e w' => e = .returned (.bool (regB d && (regB a && regB b))) ∧ w = w' := by
  have := creg_any (w := w) (v := .slice (some ⟨g, 0, none⟩) 3 3) (n := 3) (x := fun i => if i = 0 then d else if i = 1 then a else b) ⟨_, _, rfl, fun _ => ⟨g, 0, rfl, hb.lt, fun i hi => by
    have := hb.cell i
    rw [Nat.zero_add, this]
    have : i = 0 ∨ i = 1 ∨ i = 2 := by omega
    rcases this with rfl | rfl | rfl <;> rfl⟩⟩ (by decide)
  have e : (!oddI (fun i => if i = 0 then d else if i = 1 then a else b) 3) = (regB d && (regB a && regB b)) := by
    rw [oddI_succ, oddI_succ, oddI_succ]
    show (!(((false || !regB d) || !regB a) || !regB b)) = _
    cases regB d <;> cases regB a <;> cases regB b <;> rfl
  rw [e] at this
  exact this
theorem creg2_any {d a : Int} {w : World} {g : Nat} {T : TypeId} (hb : Blk w g T #[.int .i64 d, .int .i64 a]) :
    Calls Try.prog 41 #[.slice (some ⟨g, 0, none⟩) 2 2] w fun e w' => e = .returned (.bool (regB d && regB a)) ∧ w = w' := by
  have := creg_any (w := w) (v := .slice (some ⟨g, 0, none⟩) 2 2) (n := 2) (x := fun i => if i = 0 then d else a) ⟨_, _, rfl, fun _ => ⟨g, 0, rfl, hb.lt, fun i hi => by
    have := hb.cell i
    rw [Nat.zero_add, this]
    have : i = 0 ∨ i = 1 := by omega
    rcases this with rfl | rfl <;> rfl⟩⟩ (by decide)
  have e : (!oddI (fun i => if i = 0 then d else a) 2) = (regB d && regB a) := by
    rw [oddI_succ, oddI_succ]
    show (!((false || !regB d) || !regB a)) = _
    cases regB d <;> cases regB a <;> rfl
  rw [e] at this
  exact this
end Go.Proofs.Ytpidhcogaoehhaa


/- The walks of what looks at an op: 'must', 'below', 'right'. No condition but that the op has its form. -/
namespace Go.Proofs.Ytpidhcogaoehhaa
open Go.RowKit Cd
set_option linter.unusedVariables false
set_option linter.unusedSimpArgs false
theorem must_no {w : World} {b : Nat} {e0 fn op e : Int} {is : Bool} (h : Blk w b 52 #[.int .i64 e0, .int .i64 fn, .int .i64 op]) (hc : e0 = 0 → is = true) :
    Calls Try.prog 33 #[.pointer (some ⟨b, 0, none⟩), .bool is, .int .i64 e] w fun x w' => x = .returned (.tuple #[]) ∧ w = w' := by
  have c0 : w.cell? ⟨b, 0, none⟩ = some (.int .i64 e0) := h.cell 0
  by_cases h0 : e0 = 0
  · have := hc h0
    subst h0
    subst this
    clear hc h
    go_enter Try.func33, Try.ntmps33
    go_wp2
    go_end0
    exact ⟨rfl, rfl⟩
  · have h0' : (e0 == 0) = false := by simpa using h0
    clear hc h h0
    go_enter Try.func33, Try.ntmps33
    go_wp2
    go_end0
    exact ⟨rfl, rfl⟩
theorem must_yes {w : World} {b : Nat} {fn op e : Int} (h : Blk w b 52 #[.int .i64 0, .int .i64 fn, .int .i64 op]) :
    Calls Try.prog 33 #[.pointer (some ⟨b, 0, none⟩), .bool false, .int .i64 e] w fun x w' => x = .returned (.tuple #[]) ∧ w.setCell ⟨b, 0, none⟩ (.int .i64 e) = w' := by
  have c0 : w.cell? ⟨b, 0, none⟩ = some (.int .i64 0) := h.cell 0
  have f0 := h.frozen
  clear h
  go_enter Try.func33, Try.ntmps33
  go_wp2
  go_end0
  exact ⟨rfl, rfl⟩
theorem below1_any {w : World} {c : Nat} {r : Int} (h : Blk w c 3 #[.int .i64 r]) (x : Int) : Calls Try.prog 83 #[.int .i64 x, .pointer (some ⟨c, 0, none⟩)] w fun e w' => e = .returned (.bool (decide (r ≤ x))) ∧ w = w' := by
  have c0 : w.cell? ⟨c, 0, none⟩ = some (.int .i64 r) := h.cell 0
  clear h
  by_cases hx : r ≤ x
  · have hx' : decide (r ≤ x) = true := decide_eq_true hx
    rw [hx']
    go_enter Try.func83, Try.ntmps83
    go_wp2
    go_ret
    exact ⟨by simp, rfl⟩
  · have hx' : decide (r ≤ x) = false := decide_eq_false hx
    rw [hx']
    go_enter Try.func83, Try.ntmps83
    go_wp2
    go_ret
    exact ⟨by simp, rfl⟩
def offI (r : Int) (x : Nat → Int) (n : Nat) : Bool := (List.range n).any fun i => decide (r ≤ x i)
theorem offI_succ (r : Int) (x : Nat → Int) (n : Nat) : offI r x (n + 1) = (offI r x n || decide (r ≤ x n)) := by simp [offI, List.range_succ]
theorem offI_of {r : Int} {x : Nat → Int} {n : Nat} {k : Nat} (h : k < n) (e : decide (r ≤ x k) = true) : offI r x n = true := by
  unfold offI; rw [List.any_eq_true]; exact ⟨k, List.mem_range.2 h, e⟩
set_option maxRecDepth 100000 in
set_option maxHeartbeats 1000000 in
theorem bidx_any {n : Nat} {x : Nat → Int} {w : World} {v : Value} {c : Nat} {r : Int} (hv : Slic w v n fun i => .int .i64 (x i)) (hn : n < 1099511627776) (hc : Blk w c 3 #[.int .i64 r]) :
    Calls Try.prog 90 #[v, .func (.func 83) #[] #[.pointer (some ⟨c, 0, none⟩)]] w fun e w' => (∃ r' : Int, e = .returned (.int .i64 r') ∧ decide (0 ≤ r') = offI r x n) ∧ w = w' := by
  obtain ⟨p, cap, rfl, hS⟩ := hv
  have HS := Lib.hid hS
  have HC := Lib.hid hc
  clear hS hc
  go_enter Try.func90, Try.ntmps90
  go_wp2
  go_loopw [8] (fun u wr => (∃ i : Nat, i ≤ n ∧ u = .int .i64 i ∧ offI r x i = false) ∧ wr = w) (fun u _ => ((n : Int) - intOf u).toNat)
  case atStart => exact ⟨⟨0, by omega, rfl, rfl⟩, rfl⟩
  case round =>
    obtain ⟨⟨k, hk1, rfl, hno⟩, rfl⟩ := hrel
    by_cases hk : k < n
    · obtain ⟨g0, off, rfl, hg, hx⟩ := HS.out (by omega)
      have x0 : wr.cell? ⟨g0, off + k, none⟩ = some (.int .i64 (x k)) := hx k hk
      have HR := Lib.hid (below1_any HC.out (x k))
      clear hx
      cases he : decide (r ≤ x k) with
      | true =>
        have hh : offI r x n = true := offI_of hk he
        rw [he] at HR
        clear he
        go_wp2_with (go_at_call 83; ((with_reducible refine HR.out.mono ?_); rintro e w' ⟨rfl, rfl⟩))
        go_ret
        exact ⟨⟨k, rfl, by rw [hh]; simp⟩, rfl⟩
      | false =>
        have hs : offI r x (k + 1) = false := by rw [offI_succ, hno, he]; rfl
        rw [he] at HR
        clear he
        go_wp2_with (go_at_call 83; ((with_reducible refine HR.out.mono ?_); rintro e w' ⟨rfl, rfl⟩))
        go_roundw
        case rel => exact ⟨⟨k + 1, by omega, rfl, hs⟩, by trivial⟩
        case measure => simp [intOf]; omega
    · have : k = n := by omega
      subst this
      go_wp2
      go_ret
      exact ⟨⟨-1, rfl, by rw [hno]; rfl⟩, rfl⟩
set_option maxHeartbeats 400000 in
theorem bcon_any {n : Nat} {x : Nat → Int} {w : World} {v : Value} {c : Nat} {r : Int} (hv : Slic w v n fun i => .int .i64 (x i)) (hn : n < 1099511627776) (hc : Blk w c 3 #[.int .i64 r]) :
    Calls Try.prog 69 #[v, .func (.func 83) #[] #[.pointer (some ⟨c, 0, none⟩)]] w fun e w' => e = .returned (.bool (offI r x n)) ∧ w = w' := by
  have HI := Lib.hid (bidx_any hv hn hc)
  obtain ⟨p, cap, rfl, hS⟩ := hv
  clear hS hc
  go_enter Try.func69, Try.ntmps69
  go_wp2_with (go_at_call 90; ((with_reducible refine HI.out.mono ?_); rintro e w' ⟨⟨r, rfl, hr⟩, rfl⟩))
  go_ret
  exact ⟨by show Ending.returned (.bool _) = _; rw [← hr], rfl⟩
theorem Slic.alloc' {w : World} {v : Value} {n : Nat} {x : Nat → Int} (hv : Slic w v n fun i => .int .i64 (x i)) (o : Obj) : Slic (w.alloc o) v n fun i => .int .i64 (x i) := by
  obtain ⟨p, cap, rfl, hS⟩ := hv
  refine ⟨p, cap, rfl, fun hn => ?_⟩
  obtain ⟨g, off, e, hg, hc⟩ := hS hn
  exact ⟨g, off, e, by simp; omega, fun i hi => by rw [((Below.refl _ w).alloc (Nat.le_refl _) o).cell (p := ⟨g, _, none⟩) hg]; exact hc i hi⟩
set_option maxHeartbeats 400000 in
theorem below_any {n : Nat} {x : Nat → Int} {w : World} {v : Value} {r : Int} {t : Bool} (hv : Slic w v n fun i => .int .i64 (x i)) (hn : n < 1099511627776) (ht : offI r x n = t) :
    Calls Try.prog 57 #[.int .i64 r, v] w fun e w' => e = .returned (.bool (!t)) ∧ Below w.heap.size w w' := by
  subst ht
  have HI := Lib.hid (bcon_any (hv.alloc' (.cells #[.int .i64 r] 3)) hn (Blk.new w 3 #[.int .i64 r]))
  have HB := Lib.hid ((Below.refl _ w).alloc (Nat.le_refl _) (.cells #[.int .i64 r] 3))
  obtain ⟨p, cap, rfl, hS⟩ := hv
  clear hS
  cases hh : offI r x n with
  | true =>
    rw [hh] at HI
    go_enter Try.func57, Try.ntmps57
    go_wp2_with (go_at_call 69; ((with_reducible refine HI.out.mono ?_); rintro e w' ⟨rfl, rfl⟩))
    go_ret
    exact ⟨rfl, HB.out⟩
  | false =>
    rw [hh] at HI
    go_enter Try.func57, Try.ntmps57
    go_wp2_with (go_at_call 69; ((with_reducible refine HI.out.mono ?_); rintro e w' ⟨rfl, rfl⟩))
    go_ret
    exact ⟨rfl, HB.out⟩
theorem below_10 {w : World} {g : Nat} {T : TypeId} {r x : Int} {t : Bool} (hb : Blk w g T #[.int .i64 x]) (ht : decide (r ≤ x) = t) :
    Calls Try.prog 57 #[.int .i64 r, .slice (some ⟨g, 0, none⟩) 1 1] w fun e w' => e = .returned (.bool (!t)) ∧ Below w.heap.size w w' :=
  below_any (n := 1) (x := fun _ => x) ⟨_, _, rfl, fun _ => ⟨g, 0, rfl, hb.lt, fun i hi => by
    have := hb.cell i
    rw [Nat.zero_add, this]
    have : i = 0 := by omega
    subst this; rfl⟩⟩ (by decide) (by rw [offI_succ]; show (false || _) = _; rw [Bool.false_or]; exact ht)
theorem below_20 {w : World} {g : Nat} {T : TypeId} {r x y : Int} {t : Bool} (hb : Blk w g T #[.int .i64 x, .int .i64 y]) (ht : (decide (r ≤ x) || decide (r ≤ y)) = t) :
    Calls Try.prog 57 #[.int .i64 r, .slice (some ⟨g, 0, none⟩) 2 2] w fun e w' => e = .returned (.bool (!t)) ∧ Below w.heap.size w w' :=
  below_any (n := 2) (x := fun i => if i = 0 then x else y) ⟨_, _, rfl, fun _ => ⟨g, 0, rfl, hb.lt, fun i hi => by
    have := hb.cell i
    rw [Nat.zero_add, this]
    have : i = 0 ∨ i = 1 := by omega
    rcases this with rfl | rfl <;> rfl⟩⟩ (by decide) (by rw [offI_succ, offI_succ]; show ((false || _) || _) = _; rw [Bool.false_or]; exact ht)
theorem below_30 {w : World} {g : Nat} {T : TypeId} {r x y z : Int} {t : Bool} (hb : Blk w g T #[.int .i64 x, .int .i64 y, .int .i64 z]) (ht : (decide (r ≤ x) || decide (r ≤ y) || decide (r ≤ z)) = t) :
    Calls Try.prog 57 #[.int .i64 r, .slice (some ⟨g, 0, none⟩) 3 3] w fun e w' => e = .returned (.bool (!t)) ∧ Below w.heap.size w w' :=
  below_any (n := 3) (x := fun i => if i = 0 then x else if i = 1 then y else z) ⟨_, _, rfl, fun _ => ⟨g, 0, rfl, hb.lt, fun i hi => by
    have := hb.cell i
    rw [Nat.zero_add, this]
    have : i = 0 ∨ i = 1 ∨ i = 2 := by omega
    rcases this with rfl | rfl | rfl <;> rfl⟩⟩ (by decide) (by rw [offI_succ, offI_succ, offI_succ]; show (((false || _) || _) || _) = _; rw [Bool.false_or]; exact ht)
theorem below_1 {w : World} {g : Nat} {T : TypeId} {r x : Int} {t : Bool} (hb : Blk w g T #[.int .i64 x]) (ht : decide (r ≤ x) = !t) :
    Calls Try.prog 57 #[.int .i64 r, .slice (some ⟨g, 0, none⟩) 1 1] w fun e w' => e = .returned (.bool t) ∧ Below w.heap.size w w' :=
  (below_10 hb ht).mono fun e w' ⟨h, hb⟩ => ⟨by rw [h, Bool.not_not], hb⟩
theorem below_2 {w : World} {g : Nat} {T : TypeId} {r x y : Int} {t : Bool} (hb : Blk w g T #[.int .i64 x, .int .i64 y]) (ht : (decide (r ≤ x) || decide (r ≤ y)) = !t) :
    Calls Try.prog 57 #[.int .i64 r, .slice (some ⟨g, 0, none⟩) 2 2] w fun e w' => e = .returned (.bool t) ∧ Below w.heap.size w w' :=
  (below_20 hb ht).mono fun e w' ⟨h, hb⟩ => ⟨by rw [h, Bool.not_not], hb⟩
theorem below_3 {w : World} {g : Nat} {T : TypeId} {r x y z : Int} {t : Bool} (hb : Blk w g T #[.int .i64 x, .int .i64 y, .int .i64 z]) (ht : (decide (r ≤ x) || decide (r ≤ y) || decide (r ≤ z)) = !t) :
    Calls Try.prog 57 #[.int .i64 r, .slice (some ⟨g, 0, none⟩) 3 3] w fun e w' => e = .returned (.bool t) ∧ Below w.heap.size w w' :=
  (below_30 hb ht).mono fun e w' ⟨h, hb⟩ => ⟨by rw [h, Bool.not_not], hb⟩
end Go.Proofs.Ytpidhcogaoehhaa
