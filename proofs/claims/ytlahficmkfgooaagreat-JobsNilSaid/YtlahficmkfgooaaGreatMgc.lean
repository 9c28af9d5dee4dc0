import Derived.Test.YtlahficmkfgooaaGreatMga
import Derived.Test.YtlahficmkfgooaaGreatRows
import Derived.Shelf.Strings.Builder1
import Derived.Test.YtlahficmkfgooaaGreatMgb
import Derived.Deep.DeepCutAuto
import Derived.Deep.CutBlock
import Derived.Deep.RegionWith

/- Steps of the theorem on regions that draw their order. No condition. -/
namespace Go.Proofs.YtlahficmkfgooaaGreat
namespace Reg
open Go.RowKit
set_option linter.unusedVariables false
section
variable {P : Program} {ops : Array Oper} {I : World → Prop} {a0 : Act} {R : Act → World → Prop} {o : Oper} {rest : List Oper} {K : List (Option Tmp × Spec)} {Gs : List (World → World → Prop)} {Js : List (World → Prop)} {w0 : World}
theorem looks1 {t : Tmp} (hop : o.op.operands = #[.tmp t]) : t ∈ o.looksAt ops := by simp [Oper.looksAt, hop]
theorem looksB {t : Tmp} (h : (o.looksAt ops).contains t = true) : t ∈ o.looksAt ops := by simpa using h
theorem looksN {t : Tmp} {os : Array Operand} (hop : o.op.operands = os) (h : Operand.tmp t ∈ os.toList) : t ∈ o.looksAt ops := by
  unfold Oper.looksAt
  rw [hop]
  exact List.mem_append_left _ (List.mem_filterMap.2 ⟨_, h, rfl⟩)
/-- An operation on one slot. -/
theorem rely_one (t : Tmp) (u c : Value) (hg : o.guard = none) (hop : o.op.operands = #[.tmp t]) (hu : ∀ v w, Fact K a0 t v w → v = u)
    (hrun : ∀ (ρ : Operand → Value) w, ρ (.tmp t) = u → I w → (execOp ρ o).run P w = .ok (.value c) w)
    (hr : Rely P ops I w0 a0 R rest ((o.dst, Is c) :: K) Gs Js) : Rely P ops I w0 a0 R (o :: rest) K Gs Js :=
  rely_is c (fun a w hI hF => det_plain hg (hrun _ w (hu _ w (hF t (looks1 hop))) hI)) hr
theorem rely_move (t : Tmp) (u : Value) (hg : o.guard = none) (hop : o.op = .move (.tmp t)) (hu : ∀ v w, Fact K a0 t v w → v = u)
    (hr : Rely P ops I w0 a0 R rest ((o.dst, Is u) :: K) Gs Js) : Rely P ops I w0 a0 R (o :: rest) K Gs Js :=
  rely_one t u u hg (by rw [hop]; rfl) hu (fun ρ w h _ => by simp [execOp, hop, h]) hr
/-- A call of a function whose arguments lie in slots. -/
theorem rely_call (S : Spec) (G : World → World → Prop) (J : World → Prop) (hS : Stab S Grow) (hG : ∀ G ∈ Gs, Stab S G) (hI : ∀ w w', G w w' → I w → I w')
    (hK : ∀ p ∈ K, Stab p.2 G) (hg : o.guard = none) (hJ : StJ J Grow) (hJ0 : J w0) (hJG : ∀ G' ∈ Gs, StJ J G') (hJJ : ∀ J' ∈ Js, StJ J' G)
    (f : FuncId) (args : Array Value) (hrun : ∀ (a : Act) (w : World), I w → (∀ t ∈ o.looksAt ops, Fact K a0 t (a.tmps.getD t undef) w) → (execOp a.eval o).run P w = .ok (.enter f args) w)
    (hc : ∀ w, I w → J w → Calls P f args w fun e w' => ∃ v, e = .returned v ∧ S v w' ∧ G w w')
    (hr : Rely P ops I w0 a0 R rest ((o.dst, S) :: K) (G :: Gs) (J :: Js)) : Rely P ops I w0 a0 R (o :: rest) K Gs Js := by
  refine rely_turn S G J hS hG hI hK hg hJ hJ0 hJG hJJ (fun a w hi hj hF => ?_) hr
  unfold Oper.wp
  rw [hrun a w hi hF]
  simp only [Oper.upon]
  refine (hc w hi hj).mono fun e w' ⟨v, he, h1, h2⟩ => ?_
  subst he
  exact ⟨v, rfl, h1, h2⟩
end
end Reg
end Go.Proofs.YtlahficmkfgooaaGreat


/- The library's contracts of strings.Builder, laid at this program: each body is the kernel's comparison. No condition. -/
namespace Go.Proofs.YtlahficmkfgooaaGreat
open Go.RowKit Go.Shelf
set_option linter.unusedVariables false
namespace Bld
/-- The library's numbers at this program. -/
def ren : Ren := ⟨fun n => if n = 166 then 92 else if n = 240 then 110 else if n = 276 then 122 else if n = 169 then 93 else 0,
  fun n => if n = 0 then 0 else if n = 3 then 3 else if n = 4 then 4 else if n = 5 then 5 else if n = 9 then 9 else if n = 20 then 20 else if n = 37 then 144 else if n = 70 then 143 else if n = 72 then 146 else if n = 75 then 148 else if n = 80 then 151 else if n = 127 then 178 else if n = 164 then 196 else 0, fun n => n⟩
set_option maxRecDepth 100000 in
theorem lays166 : Lays.n166 Tryz.prog ren where
  mixed := by kernel_rfl
  f166 := by kernel_rfl
  f240 := by kernel_rfl
  f276 := by kernel_rfl
  t0 := by kernel_rfl
  a0 := fun w => by kernel_rfl
  z0 := fun w => by kernel_rfl
  v0 := fun w => by kernel_rfl
  t3 := by kernel_rfl
  a3 := fun w => by kernel_rfl
  z3 := fun w => by kernel_rfl
  v3 := fun w => by kernel_rfl
  t4 := by kernel_rfl
  a4 := fun w => by kernel_rfl
  z4 := fun w => by kernel_rfl
  v4 := fun w => by kernel_rfl
  t9 := by kernel_rfl
  a9 := fun w => by kernel_rfl
  z9 := fun w => by kernel_rfl
  v9 := fun w => by kernel_rfl
  t20 := by kernel_rfl
  a20 := fun w => by kernel_rfl
  z20 := fun w => by kernel_rfl
  v20 := fun w => by kernel_rfl
  t37 := by kernel_rfl
  a37 := fun w => by kernel_rfl
  z37 := fun w => by kernel_rfl
  v37 := fun w => by kernel_rfl
  t70 := by kernel_rfl
  a70 := fun w => by kernel_rfl
  z70 := fun w => by kernel_rfl
  v70 := fun w => by kernel_rfl
  t72 := by kernel_rfl
  a72 := fun w => by kernel_rfl
  z72 := fun w => by kernel_rfl
  v72 := fun w => by kernel_rfl
  t75 := by kernel_rfl
  a75 := fun w => by kernel_rfl
  z75 := fun w => by kernel_rfl
  v75 := fun w => by kernel_rfl
  t164 := by kernel_rfl
  a164 := fun w => by kernel_rfl
  z164 := fun w => by kernel_rfl
  v164 := fun w => by kernel_rfl
set_option maxRecDepth 100000 in
theorem lays169 : Lays.n169 Tryz.prog ren where
  mixed := by kernel_rfl
  f169 := by kernel_rfl
  t0 := by kernel_rfl
  a0 := fun w => by kernel_rfl
  z0 := fun w => by kernel_rfl
  v0 := fun w => by kernel_rfl
  t3 := by kernel_rfl
  a3 := fun w => by kernel_rfl
  z3 := fun w => by kernel_rfl
  v3 := fun w => by kernel_rfl
  t9 := by kernel_rfl
  a9 := fun w => by kernel_rfl
  z9 := fun w => by kernel_rfl
  v9 := fun w => by kernel_rfl
  t37 := by kernel_rfl
  a37 := fun w => by kernel_rfl
  z37 := fun w => by kernel_rfl
  v37 := fun w => by kernel_rfl
  t70 := by kernel_rfl
  a70 := fun w => by kernel_rfl
  z70 := fun w => by kernel_rfl
  v70 := fun w => by kernel_rfl
  t72 := by kernel_rfl
  a72 := fun w => by kernel_rfl
  z72 := fun w => by kernel_rfl
  v72 := fun w => by kernel_rfl
  t127 := by kernel_rfl
  a127 := fun w => by kernel_rfl
  z127 := fun w => by kernel_rfl
  v127 := fun w => by kernel_rfl
set_option maxRecDepth 100000 in
theorem extra : Builder.Extra Tryz.prog ren where
  sizeBuilder := by kernel_rfl
  liesBuilder := by kernel_rfl
  t5 := by kernel_rfl
  a5 := fun w => by kernel_rfl
  z5 := fun w => by kernel_rfl
  v5 := fun w => by kernel_rfl
  infoByte := by kernel_rfl
  cellsByte := by kernel_rfl
  sizeByte := by kernel_rfl
  neB5 := by decide
/-- A builder in block b that holds the bytes l, all its own from B on. -/
def Is (B b : Nat) (l : List UInt8) (w : World) : Prop := Lib.IsBuilder 146 5 B b (Go.Lib.byteCells l) w
theorem fresh (w : World) : Is w.heap.size w.heap.size [] (w.alloc (.cells #[.pointer none, .slice none 0 0] 146)) :=
  .inl ⟨Nat.le_refl _, .slice none 0 0, heap_alloc_new w _, World.ownsRow_nil _ _ _ _, by simp [Value.ownBlock]⟩
theorem at_below {T e : TypeId} {B b : Nat} {p : Value} {bs : List Value} {W W' : World} (h : Lib.BuilderAt T e B b p bs W) (hb : Below W.heap.size W W') : Lib.BuilderAt T e B b p bs W' := by
  have hlt := h.lt
  obtain ⟨hB, v, hv, hown, hne⟩ := h
  exact ⟨hB, v, (hb.block b hlt).trans hv, hown.kept (row := none) ⟨hb.os, hb.tape, hb.output, hb.size, fun k hk _ => hb.block k hk⟩ (Classical.em _), hne⟩
theorem Is.below {B b : Nat} {l : List UInt8} {W W' : World} (h : Is B b l W) (hb : Below W.heap.size W W') : Is B b l W' := h.elim (fun x => .inl (at_below x hb)) (fun x => .inr (at_below x hb))
set_option maxRecDepth 100000 in
theorem write {B b : Nat} {l : List UInt8} {w : World} (h : Is B b l w) (s : ByteArray) (hlen : l.length + s.size ≤ 140737488355328) (hBw : B ≤ w.heap.size) :
    Calls Tryz.prog 92 #[.pointer (some ⟨b, 0, none⟩), .string s] w fun e w' => e = .returned (.tuple #[.int .i64 s.size, .nilIface]) ∧ Is B b (l ++ s.data.toList) w' ∧ Below B w w' := by
  have := Any.Builder_WriteString lays166 extra B b (Go.Lib.byteCells l) s w h (by simpa [Go.Lib.byteCells] using hlen) hBw
  refine Calls.mono this fun e w' h => ⟨h.1, ?_, h.2.2⟩
  have h1 := h.2.1
  refine .inr ?_
  have e : Go.Lib.byteCells (l ++ s.data.toList) = Go.Lib.byteCells l ++ Go.Lib.strCells s := by simp [Go.Lib.byteCells, Go.Lib.strCells]
  rw [e]; exact h1
set_option maxRecDepth 100000 in
theorem string {B b : Nat} {l : List UInt8} {w : World} (h : Is B b l w) (hBw : B ≤ w.heap.size) :
    Calls Tryz.prog 93 #[.pointer (some ⟨b, 0, none⟩)] w fun e w' => e = .returned (.string ⟨l.toArray⟩) ∧ Below B w w' :=
  Any.Builder_String_any lays169 extra B b l w h hBw
end Bld
end Go.Proofs.YtlahficmkfgooaaGreat


/- The walks of the program's writers of bricks. No condition but that numbers fit their kinds and that the bytes are not too many. -/
namespace Go.Proofs.YtlahficmkfgooaaGreat
open Go.RowKit
set_option linter.unusedVariables false
/-- The value is a slice of n elements, one cell each. -/
def Slic (w : World) (v : Value) (n : Nat) (f : Nat → Value) : Prop :=
  ∃ p cap, v = .slice p n cap ∧ (0 < n → ∃ g off, p = some ⟨g, off, none⟩ ∧ g < w.heap.size ∧ ∀ i, i < n → w.cell? ⟨g, off + i, none⟩ = some (f i))
theorem slic2 (w : World) (T : TypeId) (a0 a1 : Value) (f : Nat → Value) (h0 : f 0 = a0) (h1 : f 1 = a1) : Slic (w.alloc (.cells #[a0, a1] T)) (.slice (some ⟨w.heap.size, 0, none⟩) 2 2) 2 f :=
  ⟨_, _, rfl, fun _ => ⟨_, 0, rfl, by simp, fun i hi => by
    rw [(Blk.new w _ _).cell]
    rcases i with _ | _ | i
    · rw [h0]; rfl
    · rw [h1]; rfl
    · omega⟩⟩
/-- The bytes of the first n, one behind the other. -/
def cat (g : Nat → ByteArray) (n : Nat) : List UInt8 := (List.range n).flatMap fun i => (g i).data.toList
theorem cat_zero (g : Nat → ByteArray) : cat g 0 = [] := rfl
theorem cat_succ (g : Nat → ByteArray) (n : Nat) : cat g (n + 1) = cat g n ++ (g n).data.toList := by simp [cat, List.range_succ, List.flatMap_append]
theorem cat_le (g : Nat → ByteArray) {i n : Nat} (h : i ≤ n) : (cat g i).length ≤ (cat g n).length := by
  induction n with
  | zero => have : i = 0 := by omega
            subst this; exact Nat.le_refl _
  | succ n ih =>
    by_cases e : i = n + 1
    · subst e; exact Nat.le_refl _
    · rw [cat_succ, List.length_append]; have := ih (by omega); omega
def AllPost (g : Nat → ByteArray) (n : Nat) (w : World) (e : Ending) (w' : World) : Prop := e = .returned (.string ⟨(cat g n).toArray⟩) ∧ Below w.heap.size w w'
def AllRel (g : Nat → ByteArray) (n : Nat) (w : World) (u : Value) (wr : World) : Prop := ∃ i : Nat, i ≤ n ∧ u = .int .i64 i ∧ Bld.Is w.heap.size w.heap.size (cat g i) wr ∧ Below w.heap.size w wr
set_option maxRecDepth 100000 in
set_option maxHeartbeats 1000000 in
theorem all_u64 {g : Nat → ByteArray} {n : Nat} {f : Nat → Value} {w : World} {v : Value} (hv : Slic w v n f) (hn : n < 4611686018427387904) (hlen : (cat g n).length ≤ 140737488355328)
    (hf : ∀ i, i < n → ∀ w, Calls Tryz.prog 64 #[f i] w fun e w' => e = .returned (.string (g i)) ∧ Below w.heap.size w w') :
    Calls Tryz.prog 63 #[.func (.func 64) #[] #[], v] w (AllPost g n w) := by
  obtain ⟨p, cap, rfl, hS⟩ := hv
  have HS := Lib.hid hS
  have HF := Lib.hid hf
  have HB := Lib.hid (Bld.fresh w)
  have hrfl := (Below.refl w.heap.size w).alloc (Nat.le_refl _) (.cells #[.pointer none, .slice none 0 0] 146)
  clear hS hf
  go_enter Tryz.func63, Tryz.ntmps63
  go_wp2
  go_loopw [10] (fun u wr => AllRel g n w u wr) (fun u _ => ((n : Int) - intOf u).toNat)
  case atStart => exact ⟨0, by omega, rfl, HB.out, hrfl⟩
  case round =>
    obtain ⟨k, hk1, rfl, hB, hb⟩ := hrel
    by_cases hk : k < n
    · obtain ⟨g0, off, rfl, hg, hx⟩ := HS.out (by omega)
      have x0 : wr.cell? ⟨g0, off + k, none⟩ = some (f k) := by rw [hb.cell hg]; exact hx k hk
      have HK := Lib.hid (HF.out k hk)
      have HBk := Lib.hid hB
      have Hb := Lib.hid hb
      clear hx hB hb
      generalize f k = fk at *
      have hl1 : (cat g (k + 1)).length ≤ 140737488355328 := Nat.le_trans (cat_le g hk) hlen
      go_wp2_with (first | (go_at_call 64; ((with_reducible refine (HK.out _).mono ?_); rintro e w1 ⟨rfl, b1⟩; have HB1 := Lib.hid (HBk.out.below b1); have HW := Lib.hid (Bld.write HB1.out (g k) (by rw [cat_succ, List.length_append] at hl1; simpa using hl1) (Nat.le_trans Hb.out.size b1.size)))) | (go_at_call 92; ((with_reducible refine HW.out.mono ?_); rintro e w2 ⟨rfl, hB2, b2⟩)))
      go_roundw
      case rel => exact ⟨k + 1, by omega, rfl, by rw [cat_succ]; exact hB2, (Hb.out.trans (b1.mono Hb.out.size)).trans b2⟩
      case measure => simp [intOf]; omega
    · have : k = n := by omega
      subst this
      have Hb := Lib.hid hb
      have HW := Lib.hid (Bld.string hB hb.size)
      clear hb hB
      go_wp2_with (go_at_call 93; ((with_reducible refine HW.out.mono ?_); rintro e w2 ⟨rfl, b2⟩))
      go_ret
      exact ⟨rfl, Hb.out.trans b2⟩
set_option maxRecDepth 100000 in
      set_option maxHeartbeats 1000000 in
      theorem all_i64 {g : Nat → ByteArray} {n : Nat} {f : Nat → Value} {w : World} {v : Value} (hv : Slic w v n f) (hn : n < 4611686018427387904) (hlen : (cat g n).length ≤ 140737488355328)
          (hf : ∀ i, i < n → ∀ w, Calls Tryz.prog 68 #[f i] w fun e w' => e = .returned (.string (g i)) ∧ Below w.heap.size w w') :
          Calls Tryz.prog 67 #[.func (.func 68) #[] #[], v] w (AllPost g n w) := by
        obtain ⟨p, cap, rfl, hS⟩ := hv
        have HS := Lib.hid hS
        have HF := Lib.hid hf
        have HB := Lib.hid (Bld.fresh w)
        have hrfl := (Below.refl w.heap.size w).alloc (Nat.le_refl _) (.cells #[.pointer none, .slice none 0 0] 146)
        clear hS hf
        go_enter Tryz.func67, Tryz.ntmps67
        go_wp2
        go_loopw [10] (fun u wr => AllRel g n w u wr) (fun u _ => ((n : Int) - intOf u).toNat)
        case atStart => exact ⟨0, by omega, rfl, HB.out, hrfl⟩
        case round =>
          obtain ⟨k, hk1, rfl, hB, hb⟩ := hrel
          by_cases hk : k < n
          · obtain ⟨g0, off, rfl, hg, hx⟩ := HS.out (by omega)
            have x0 : wr.cell? ⟨g0, off + k, none⟩ = some (f k) := by rw [hb.cell hg]; exact hx k hk
            have HK := Lib.hid (HF.out k hk)
            have HBk := Lib.hid hB
            have Hb := Lib.hid hb
            clear hx hB hb
            generalize f k = fk at *
            have hl1 : (cat g (k + 1)).length ≤ 140737488355328 := Nat.le_trans (cat_le g hk) hlen
            go_wp2_with (first | (go_at_call 68; ((with_reducible refine (HK.out _).mono ?_); rintro e w1 ⟨rfl, b1⟩; have HB1 := Lib.hid (HBk.out.below b1); have HW := Lib.hid (Bld.write HB1.out (g k) (by rw [cat_succ, List.length_append] at hl1; simpa using hl1) (Nat.le_trans Hb.out.size b1.size)))) | (go_at_call 92; ((with_reducible refine HW.out.mono ?_); rintro e w2 ⟨rfl, hB2, b2⟩)))
            go_roundw
            case rel => exact ⟨k + 1, by omega, rfl, by rw [cat_succ]; exact hB2, (Hb.out.trans (b1.mono Hb.out.size)).trans b2⟩
            case measure => simp [intOf]; omega
          · have : k = n := by omega
            subst this
            have Hb := Lib.hid hb
            have HW := Lib.hid (Bld.string hB hb.size)
            clear hb hB
            go_wp2_with (go_at_call 93; ((with_reducible refine HW.out.mono ?_); rintro e w2 ⟨rfl, b2⟩))
            go_ret
            exact ⟨rfl, Hb.out.trans b2⟩
set_option maxRecDepth 100000 in
            set_option maxHeartbeats 1000000 in
            theorem all_str {g : Nat → ByteArray} {n : Nat} {f : Nat → Value} {w : World} {v : Value} (hv : Slic w v n f) (hn : n < 4611686018427387904) (hlen : (cat g n).length ≤ 140737488355328)
                (hf : ∀ i, i < n → ∀ w, Calls Tryz.prog 66 #[f i] w fun e w' => e = .returned (.string (g i)) ∧ Below w.heap.size w w') :
                Calls Tryz.prog 65 #[.func (.func 66) #[] #[], v] w (AllPost g n w) := by
              obtain ⟨p, cap, rfl, hS⟩ := hv
              have HS := Lib.hid hS
              have HF := Lib.hid hf
              have HB := Lib.hid (Bld.fresh w)
              have hrfl := (Below.refl w.heap.size w).alloc (Nat.le_refl _) (.cells #[.pointer none, .slice none 0 0] 146)
              clear hS hf
              go_enter Tryz.func65, Tryz.ntmps65
              go_wp2
              go_loopw [10] (fun u wr => AllRel g n w u wr) (fun u _ => ((n : Int) - intOf u).toNat)
              case atStart => exact ⟨0, by omega, rfl, HB.out, hrfl⟩
              case round =>
                obtain ⟨k, hk1, rfl, hB, hb⟩ := hrel
                by_cases hk : k < n
                · obtain ⟨g0, off, rfl, hg, hx⟩ := HS.out (by omega)
                  have x0 : wr.cell? ⟨g0, off + k, none⟩ = some (f k) := by rw [hb.cell hg]; exact hx k hk
                  have HK := Lib.hid (HF.out k hk)
                  have HBk := Lib.hid hB
                  have Hb := Lib.hid hb
                  clear hx hB hb
                  generalize f k = fk at *
                  have hl1 : (cat g (k + 1)).length ≤ 140737488355328 := Nat.le_trans (cat_le g hk) hlen
                  go_wp2_with (first | (go_at_call 66; ((with_reducible refine (HK.out _).mono ?_); rintro e w1 ⟨rfl, b1⟩; have HB1 := Lib.hid (HBk.out.below b1); have HW := Lib.hid (Bld.write HB1.out (g k) (by rw [cat_succ, List.length_append] at hl1; simpa using hl1) (Nat.le_trans Hb.out.size b1.size)))) | (go_at_call 92; ((with_reducible refine HW.out.mono ?_); rintro e w2 ⟨rfl, hB2, b2⟩)))
                  go_roundw
                  case rel => exact ⟨k + 1, by omega, rfl, by rw [cat_succ]; exact hB2, (Hb.out.trans (b1.mono Hb.out.size)).trans b2⟩
                  case measure => simp [intOf]; omega
                · have : k = n := by omega
                  subst this
                  have Hb := Lib.hid hb
                  have HW := Lib.hid (Bld.string hB hb.size)
                  clear hb hB
                  go_wp2_with (go_at_call 93; ((with_reducible refine HW.out.mono ?_); rintro e w2 ⟨rfl, b2⟩))
                  go_ret
                  exact ⟨rfl, Hb.out.trans b2⟩
namespace Wire
def textS (s : ByteArray) : ByteArray := Num.lebS s.size ++ s
def boolS (b : Bool) : ByteArray := Num.lebS (if b = true then 1 else 0)
end Wire
open Wire
set_option maxHeartbeats 400000 in
theorem texts1_any (s : ByteArray) (hs : s.size ≤ 140737488355328) (w : World) : Calls Tryz.prog 66 #[.string s] w fun e w' => e = .returned (.string (textS s)) ∧ Below w.heap.size w w' := by
  have hl := lebS_size (x := (s.size : Int)) (by omega)
  have HU := Lib.hid (fun w => uint_any s.size (by unfold U64; omega) w)
  go_enter Tryz.func66, Tryz.ntmps66
  go_wp2_with (go_at_call 64; ((with_reducible refine (HU.out _).mono ?_); rintro e w1 ⟨rfl, b1⟩))
  go_ret
  exact ⟨rfl, b1⟩
theorem small_cat {g : Nat → ByteArray} {n : Nat} (h : ∀ i, i < n → (g i).size ≤ 10) : (cat g n).length ≤ 10 * n := by
  induction n with
  | zero => simp [cat]
  | succ n ih =>
    rw [cat_succ, List.length_append]
    have h1 := ih fun i hi => h i (by omega)
    have h2 := h n (by omega)
    have h3 : (g n).data.toList.length = (g n).size := by simp
    omega
set_option maxHeartbeats 400000 in
theorem uints_any {n : Nat} {x : Nat → Int} {w : World} {v : Value} (hv : Slic w v n fun i => .int .u64 (x i)) (hn : n < 1099511627776) (hx : ∀ i, i < n → U64 (x i)) :
    Calls Tryz.prog 32 #[v] w (AllPost (fun i => Num.lebS (x i)) n w) := by
  have H := Lib.hid (all_u64 hv (by omega) (g := fun i => Num.lebS (x i)) (by have := small_cat (g := fun i => Num.lebS (x i)) (n := n) (fun i hi => lebS_size (hx i hi).2); omega) (fun i hi w => uint_any (x i) (hx i hi) w))
  obtain ⟨p, cap, rfl, hS⟩ := hv
  clear hS hx
  go_enter Tryz.func32, Tryz.ntmps32
  go_wp2_with (go_at_call 63; ((with_reducible refine H.out.mono ?_); rintro e w1 ⟨rfl, b1⟩))
  go_ret
  exact ⟨rfl, b1⟩
set_option maxHeartbeats 400000 in
theorem ints_any {n : Nat} {x : Nat → Int} {w : World} {v : Value} (hv : Slic w v n fun i => .int .i64 (x i)) (hn : n < 1099511627776) (hx : ∀ i, i < n → I64 (x i)) :
    Calls Tryz.prog 34 #[v] w (AllPost (fun i => intS (x i)) n w) := by
  have H := Lib.hid (all_i64 hv (by omega) (g := fun i => intS (x i)) (by have := small_cat (g := fun i => intS (x i)) (n := n) (fun i hi => lebS_size (U64_zig (hx i hi)).2); omega) (fun i hi w => int_any (x i) (hx i hi) w))
  obtain ⟨p, cap, rfl, hS⟩ := hv
  clear hS hx
  go_enter Tryz.func34, Tryz.ntmps34
  go_wp2_with (go_at_call 67; ((with_reducible refine H.out.mono ?_); rintro e w1 ⟨rfl, b1⟩))
  go_ret
  exact ⟨rfl, b1⟩
set_option maxHeartbeats 400000 in
theorem texts_any {n : Nat} {x : Nat → ByteArray} {w : World} {v : Value} (hv : Slic w v n fun i => .string (x i)) (hn : n < 4611686018427387904) (hx : ∀ i, i < n → (x i).size ≤ 140737488355328) (hlen : (cat (fun i => textS (x i)) n).length ≤ 140737488355328) :
    Calls Tryz.prog 33 #[v] w (AllPost (fun i => textS (x i)) n w) := by
  have H := Lib.hid (all_str hv hn (g := fun i => textS (x i)) hlen (fun i hi w => texts1_any (x i) (hx i hi) w))
  obtain ⟨p, cap, rfl, hS⟩ := hv
  clear hS hx
  go_enter Tryz.func33, Tryz.ntmps33
  go_wp2_with (go_at_call 65; ((with_reducible refine H.out.mono ?_); rintro e w1 ⟨rfl, b1⟩))
  go_ret
  exact ⟨rfl, b1⟩
end Go.Proofs.YtlahficmkfgooaaGreat


/- The walks of what says whether a program has its form: 'reg', 'formed'. No condition but that numbers fit their kinds. -/
namespace Go.Proofs.YtlahficmkfgooaaGreat
open Go.RowKit Cd
set_option linter.unusedVariables false
theorem creg1_any (x : Int) (w : World) : Calls Tryz.prog 148 #[.int .i64 x] w fun e w' => e = .returned (.bool (!regB x)) ∧ w = w' := by
  by_cases h0 : x < 0
  · have e : regB x = false := by unfold regB; rw [Bool.and_eq_false_iff, decide_eq_false_iff_not]; omega
    rw [e]
    clear e
    go_enter Tryz.func148, Tryz.ntmps148
    go_wp2
    go_ret
    exact ⟨rfl, rfl⟩
  · have h0' : 0 ≤ x := by omega
    by_cases h1 : 16 < x
    · have e : regB x = false := by unfold regB; rw [Bool.and_eq_false_iff, decide_eq_false_iff_not, decide_eq_false_iff_not]; omega
      rw [e]
      clear e h0
      go_enter Tryz.func148, Tryz.ntmps148
      go_wp2
      go_ret
      exact ⟨rfl, rfl⟩
    · have e : regB x = true := by simp [regB]; omega
      have h1' : decide (16 < x) = false := decide_eq_false h1
      have h0'' : decide (x < 0) = false := decide_eq_false h0
      rw [e]
      clear e h0 h1
      go_enter Tryz.func148, Tryz.ntmps148
      go_wp2
      go_ret
      exact ⟨rfl, rfl⟩
def oddI (x : Nat → Int) (n : Nat) : Bool := (List.range n).any fun i => !regB (x i)
theorem oddI_succ (x : Nat → Int) (n : Nat) : oddI x (n + 1) = (oddI x n || !regB (x n)) := by simp [oddI, List.range_succ]
theorem oddI_of {x : Nat → Int} {n : Nat} {k : Nat} (h : k < n) (e : regB (x k) = false) : oddI x n = true := by
  unfold oddI; rw [List.any_eq_true]; exact ⟨k, List.mem_range.2 h, by simp [e]⟩
set_option maxRecDepth 100000 in
set_option maxHeartbeats 1000000 in
theorem cidxI_any {n : Nat} {x : Nat → Int} {w : World} {v : Value} (hv : Slic w v n fun i => .int .i64 (x i)) (hn : n < 1099511627776) :
    Calls Tryz.prog 158 #[v, .func (.func 148) #[] #[]] w fun e w' => (∃ r : Int, e = .returned (.int .i64 r) ∧ decide (0 ≤ r) = oddI x n) ∧ w = w' := by
  obtain ⟨p, cap, rfl, hS⟩ := hv
  have HS := Lib.hid hS
  clear hS
  go_enter Tryz.func158, Tryz.ntmps158
  go_wp2
  go_loopw [8] (fun u wr => (∃ i : Nat, i ≤ n ∧ u = .int .i64 i ∧ oddI x i = false) ∧ wr = w) (fun u _ => ((n : Int) - intOf u).toNat)
  case atStart => exact ⟨⟨0, by omega, rfl, rfl⟩, rfl⟩
  case round =>
    obtain ⟨⟨k, hk1, rfl, hno⟩, rfl⟩ := hrel
    by_cases hk : k < n
    · obtain ⟨g0, off, rfl, hg, hx⟩ := HS.out (by omega)
      have x0 : wr.cell? ⟨g0, off + k, none⟩ = some (.int .i64 (x k)) := hx k hk
      have HR := Lib.hid (creg1_any (x k) wr)
      clear hx
      cases he : regB (x k) with
      | false =>
        have hh : oddI x n = true := oddI_of hk he
        rw [he] at HR
        clear he
        go_wp2_with (go_at_call 148; ((with_reducible refine HR.out.mono ?_); rintro e w' ⟨rfl, rfl⟩))
        go_ret
        exact ⟨⟨k, rfl, by rw [hh]; simp⟩, rfl⟩
      | true =>
        have hs : oddI x (k + 1) = false := by rw [oddI_succ, hno, he]; rfl
        rw [he] at HR
        clear he
        go_wp2_with (go_at_call 148; ((with_reducible refine HR.out.mono ?_); rintro e w' ⟨rfl, rfl⟩))
        go_roundw
        case rel => exact ⟨⟨k + 1, by omega, rfl, hs⟩, by trivial⟩
        case measure => simp [intOf]; omega
    · have : k = n := by omega
      subst this
      go_wp2
      go_ret
      exact ⟨⟨-1, rfl, by rw [hno]; rfl⟩, rfl⟩
set_option maxHeartbeats 400000 in
theorem cconI_any {n : Nat} {x : Nat → Int} {w : World} {v : Value} (hv : Slic w v n fun i => .int .i64 (x i)) (hn : n < 1099511627776) :
    Calls Tryz.prog 147 #[v, .func (.func 148) #[] #[]] w fun e w' => e = .returned (.bool (oddI x n)) ∧ w = w' := by
  have HI := Lib.hid (cidxI_any hv hn)
  obtain ⟨p, cap, rfl, hS⟩ := hv
  clear hS
  go_enter Tryz.func147, Tryz.ntmps147
  go_wp2_with (go_at_call 158; ((with_reducible refine HI.out.mono ?_); rintro e w' ⟨⟨r, rfl, hr⟩, rfl⟩))
  go_ret
  exact ⟨by show Ending.returned (.bool _) = _; rw [← hr], rfl⟩
set_option maxHeartbeats 400000 in
theorem creg_any {n : Nat} {x : Nat → Int} {w : World} {v : Value} (hv : Slic w v n fun i => .int .i64 (x i)) (hn : n < 1099511627776) :
    Calls Tryz.prog 128 #[v] w fun e w' => e = .returned (.bool (!oddI x n)) ∧ w = w' := by
  have HI := Lib.hid (cconI_any hv hn)
  obtain ⟨p, cap, rfl, hS⟩ := hv
  clear hS
  cases hh : oddI x n with
  | true =>
    rw [hh] at HI
    go_enter Tryz.func128, Tryz.ntmps128
    go_wp2_with (go_at_call 147; ((with_reducible refine HI.out.mono ?_); rintro e w' ⟨rfl, rfl⟩))
    go_ret
    exact ⟨rfl, rfl⟩
  | false =>
    rw [hh] at HI
    go_enter Tryz.func128, Tryz.ntmps128
    go_wp2_with (go_at_call 147; ((with_reducible refine HI.out.mono ?_); rintro e w' ⟨rfl, rfl⟩))
    go_ret
    exact ⟨rfl, rfl⟩
theorem creg3_any {d a b : Int} {w : World} {g : Nat} {T : TypeId} (hb : Blk w g T #[.int .i64 d, .int .i64 a, .int .i64 b]) :
    Calls Tryz.prog 128 #[.slice (some ⟨g, 0, none⟩) 3 3] w fun e w' => e = .returned (.bool (regB d && (regB a && regB b))) ∧ w = w' := by
  have := creg_any (w := w) (v := .slice (some ⟨g, 0, none⟩) 3 3) (n := 3) (x := fun i => if i = 0 then d else if i = 1 then a else b) ⟨_, _, rfl, fun _ => ⟨g, 0, rfl, hb.lt, fun i hi => by
    have := hb.cell i
    rw [Nat.zero_add, this]
    have : i = 0 ∨ i = 1 ∨ i = 2 := by omega
    rcases this with rfl | rfl | rfl <;> rfl⟩⟩ (by decide)
  have e : (!oddI (fun i => if i = 0 then d else if i = 1 then a else b) 3) = (regB d && (regB a && regB b)) := by
    rw [oddI_succ, oddI_succ, oddI_succ]
    show (!(((false || !regB d) || !regB a) || !regB b)) = _
    cases regB d <;> cases regB a <;> cases regB b <;> rfl
  rw [e] at this
  exact this
theorem creg2_any {d a : Int} {w : World} {g : Nat} {T : TypeId} (hb : Blk w g T #[.int .i64 d, .int .i64 a]) :
    Calls Tryz.prog 128 #[.slice (some ⟨g, 0, none⟩) 2 2] w fun e w' => e = .returned (.bool (regB d && regB a)) ∧ w = w' := by
  have := creg_any (w := w) (v := .slice (some ⟨g, 0, none⟩) 2 2) (n := 2) (x := fun i => if i = 0 then d else a) ⟨_, _, rfl, fun _ => ⟨g, 0, rfl, hb.lt, fun i hi => by
    have := hb.cell i
    rw [Nat.zero_add, this]
    have : i = 0 ∨ i = 1 := by omega
    rcases this with rfl | rfl <;> rfl⟩⟩ (by decide)
  have e : (!oddI (fun i => if i = 0 then d else a) 2) = (regB d && regB a) := by
    rw [oddI_succ, oddI_succ]
    show (!((false || !regB d) || !regB a)) = _
    cases regB d <;> cases regB a <;> rfl
  rw [e] at this
  exact this
end Go.Proofs.YtlahficmkfgooaaGreat
