import Derived.Test.YtgdgonmhgpflcaaRows
import Derived.Test.YtgdgonmhgpflcaaMga
import Derived.Shelf.Strings.Builder1
import Derived.Test.YtgdgonmhgpflcaaMgb
import Derived.Test.YtgdgonmhgpflcaaWireW
import Derived.Deep.Slices
import Derived.OpenShut

/- The library's contracts of strings.Builder, laid at this program: each body is the kernel's comparison. No condition. -/
namespace Go.Proofs.Ytgdgonmhgpflcaa
open Go.RowKit Go.Shelf
set_option linter.unusedVariables false
namespace Bld
/-- The library's numbers at this program. -/
def ren : Ren := ⟨fun n => if n = 166 then 94 else if n = 240 then 103 else if n = 276 then 116 else if n = 169 then 95 else 0,
  fun n => if n = 0 then 0 else if n = 3 then 3 else if n = 4 then 4 else if n = 5 then 5 else if n = 9 then 9 else if n = 20 then 20 else if n = 37 then 175 else if n = 70 then 174 else if n = 72 then 177 else if n = 75 then 179 else if n = 80 then 182 else if n = 127 then 192 else if n = 164 then 205 else 0, fun n => n⟩
set_option maxRecDepth 100000 in
theorem lays166 : Lays.n166 Try.prog ren where
  mixed := by kernel_rfl
  f166 := by kernel_rfl
  f240 := by kernel_rfl
  f276 := by kernel_rfl
  t0 := by kernel_rfl
  a0 := fun w => by kernel_rfl
  z0 := fun w => by kernel_rfl
  v0 := fun w => by kernel_rfl
  t3 := by kernel_rfl
  a3 := fun w => by kernel_rfl
  z3 := fun w => by kernel_rfl
  v3 := fun w => by kernel_rfl
  t4 := by kernel_rfl
  a4 := fun w => by kernel_rfl
  z4 := fun w => by kernel_rfl
  v4 := fun w => by kernel_rfl
  t9 := by kernel_rfl
  a9 := fun w => by kernel_rfl
  z9 := fun w => by kernel_rfl
  v9 := fun w => by kernel_rfl
  t20 := by kernel_rfl
  a20 := fun w => by kernel_rfl
  z20 := fun w => by kernel_rfl
  v20 := fun w => by kernel_rfl
  t37 := by kernel_rfl
  a37 := fun w => by kernel_rfl
  z37 := fun w => by kernel_rfl
  v37 := fun w => by kernel_rfl
  t70 := by kernel_rfl
  a70 := fun w => by kernel_rfl
  z70 := fun w => by kernel_rfl
  v70 := fun w => by kernel_rfl
  t72 := by kernel_rfl
  a72 := fun w => by kernel_rfl
  z72 := fun w => by kernel_rfl
  v72 := fun w => by kernel_rfl
  t75 := by kernel_rfl
  a75 := fun w => by kernel_rfl
  z75 := fun w => by kernel_rfl
  v75 := fun w => by kernel_rfl
  t164 := by kernel_rfl
  a164 := fun w => by kernel_rfl
  z164 := fun w => by kernel_rfl
  v164 := fun w => by kernel_rfl
set_option maxRecDepth 100000 in
theorem lays169 : Lays.n169 Try.prog ren where
  mixed := by kernel_rfl
  f169 := by kernel_rfl
  t0 := by kernel_rfl
  a0 := fun w => by kernel_rfl
  z0 := fun w => by kernel_rfl
  v0 := fun w => by kernel_rfl
  t3 := by kernel_rfl
  a3 := fun w => by kernel_rfl
  z3 := fun w => by kernel_rfl
  v3 := fun w => by kernel_rfl
  t9 := by kernel_rfl
  a9 := fun w => by kernel_rfl
  z9 := fun w => by kernel_rfl
  v9 := fun w => by kernel_rfl
  t37 := by kernel_rfl
  a37 := fun w => by kernel_rfl
  z37 := fun w => by kernel_rfl
  v37 := fun w => by kernel_rfl
  t70 := by kernel_rfl
  a70 := fun w => by kernel_rfl
  z70 := fun w => by kernel_rfl
  v70 := fun w => by kernel_rfl
  t72 := by kernel_rfl
  a72 := fun w => by kernel_rfl
  z72 := fun w => by kernel_rfl
  v72 := fun w => by kernel_rfl
  t127 := by kernel_rfl
  a127 := fun w => by kernel_rfl
  z127 := fun w => by kernel_rfl
  v127 := fun w => by kernel_rfl
set_option maxRecDepth 100000 in
theorem extra : Builder.Extra Try.prog ren where
  sizeBuilder := by kernel_rfl
  liesBuilder := by kernel_rfl
  t5 := by kernel_rfl
  a5 := fun w => by kernel_rfl
  z5 := fun w => by kernel_rfl
  v5 := fun w => by kernel_rfl
  infoByte := by kernel_rfl
  cellsByte := by kernel_rfl
  sizeByte := by kernel_rfl
  neB5 := by decide
/-- A builder in block b that holds the bytes l, all its own from B on. -/
def Is (B b : Nat) (l : List UInt8) (w : World) : Prop := Lib.IsBuilder 177 5 B b (Go.Lib.byteCells l) w
theorem fresh (w : World) : Is w.heap.size w.heap.size [] (w.alloc (.cells #[.pointer none, .slice none 0 0] 177)) :=
  .inl ⟨Nat.le_refl _, .slice none 0 0, heap_alloc_new w _, World.ownsRow_nil _ _ _ _, by simp [Value.ownBlock]⟩
theorem at_below {T e : TypeId} {B b : Nat} {p : Value} {bs : List Value} {W W' : World} (h : Lib.BuilderAt T e B b p bs W) (hb : Below W.heap.size W W') : Lib.BuilderAt T e B b p bs W' := by
  have hlt := h.lt
  obtain ⟨hB, v, hv, hown, hne⟩ := h
  exact ⟨hB, v, (hb.block b hlt).trans hv, hown.kept (row := none) ⟨hb.os, hb.tape, hb.output, hb.size, fun k hk _ => hb.block k hk⟩ (Classical.em _), hne⟩
theorem Is.below {B b : Nat} {l : List UInt8} {W W' : World} (h : Is B b l W) (hb : Below W.heap.size W W') : Is B b l W' := h.elim (fun x => .inl (at_below x hb)) (fun x => .inr (at_below x hb))
set_option maxRecDepth 100000 in
theorem write {B b : Nat} {l : List UInt8} {w : World} (h : Is B b l w) (s : ByteArray) (hlen : l.length + s.size ≤ 140737488355328) (hBw : B ≤ w.heap.size) :
    Calls Try.prog 94 #[.pointer (some ⟨b, 0, none⟩), .string s] w fun e w' => e = .returned (.tuple #[.int .i64 s.size, .nilIface]) ∧ Is B b (l ++ s.data.toList) w' ∧ Below B w w' := by
  have := Any.Builder_WriteString lays166 extra B b (Go.Lib.byteCells l) s w h (by simpa [Go.Lib.byteCells] using hlen) hBw
  refine Calls.mono this fun e w' h => ⟨h.1, ?_, h.2.2⟩
  have h1 := h.2.1
  refine .inr ?_
  have e : Go.Lib.byteCells (l ++ s.data.toList) = Go.Lib.byteCells l ++ Go.Lib.strCells s := by simp [Go.Lib.byteCells, Go.Lib.strCells]
  rw [e]; exact h1
set_option maxRecDepth 100000 in
theorem string {B b : Nat} {l : List UInt8} {w : World} (h : Is B b l w) (hBw : B ≤ w.heap.size) :
    Calls Try.prog 95 #[.pointer (some ⟨b, 0, none⟩)] w fun e w' => e = .returned (.string ⟨l.toArray⟩) ∧ Below B w w' :=
  Any.Builder_String_any lays169 extra B b l w h hBw
end Bld
end Go.Proofs.Ytgdgonmhgpflcaa


/- The walks of the program's writers of bricks. No condition but that numbers fit their kinds and that the bytes are not too many. -/
namespace Go.Proofs.Ytgdgonmhgpflcaa
open Go.RowKit
set_option linter.unusedVariables false
/-- The value is a slice of n elements, one cell each. -/
def Slic (w : World) (v : Value) (n : Nat) (f : Nat → Value) : Prop :=
  ∃ p cap, v = .slice p n cap ∧ (0 < n → ∃ g off, p = some ⟨g, off, none⟩ ∧ g < w.heap.size ∧ ∀ i, i < n → w.cell? ⟨g, off + i, none⟩ = some (f i))
theorem slic2 (w : World) (T : TypeId) (a0 a1 : Value) (f : Nat → Value) (h0 : f 0 = a0) (h1 : f 1 = a1) : Slic (w.alloc (.cells #[a0, a1] T)) (.slice (some ⟨w.heap.size, 0, none⟩) 2 2) 2 f :=
  ⟨_, _, rfl, fun _ => ⟨_, 0, rfl, by simp, fun i hi => by
    rw [(Blk.new w _ _).cell]
    rcases i with _ | _ | i
    · rw [h0]; rfl
    · rw [h1]; rfl
    · omega⟩⟩
/-- The bytes of the first n, one behind the other. -/
def cat (g : Nat → ByteArray) (n : Nat) : List UInt8 := (List.range n).flatMap fun i => (g i).data.toList
theorem cat_zero (g : Nat → ByteArray) : cat g 0 = [] := rfl
theorem cat_succ (g : Nat → ByteArray) (n : Nat) : cat g (n + 1) = cat g n ++ (g n).data.toList := by simp [cat, List.range_succ, List.flatMap_append]
theorem cat_le (g : Nat → ByteArray) {i n : Nat} (h : i ≤ n) : (cat g i).length ≤ (cat g n).length := by
  induction n with
  | zero => have : i = 0 := by omega
            subst this; exact Nat.le_refl _
  | succ n ih =>
    by_cases e : i = n + 1
    · subst e; exact Nat.le_refl _
    · rw [cat_succ, List.length_append]; have := ih (by omega); omega
def AllPost (g : Nat → ByteArray) (n : Nat) (w : World) (e : Ending) (w' : World) : Prop := e = .returned (.string ⟨(cat g n).toArray⟩) ∧ Below w.heap.size w w'
def AllRel (g : Nat → ByteArray) (n : Nat) (w : World) (u : Value) (wr : World) : Prop := ∃ i : Nat, i ≤ n ∧ u = .int .i64 i ∧ Bld.Is w.heap.size w.heap.size (cat g i) wr ∧ Below w.heap.size w wr
set_option maxRecDepth 100000 in
set_option maxHeartbeats 1000000 in
theorem all_u64 {g : Nat → ByteArray} {n : Nat} {f : Nat → Value} {w : World} {v : Value} (hv : Slic w v n f) (hn : n < 4611686018427387904) (hlen : (cat g n).length ≤ 140737488355328)
    (hf : ∀ i, i < n → ∀ w, Calls Try.prog 76 #[f i] w fun e w' => e = .returned (.string (g i)) ∧ Below w.heap.size w w') :
    Calls Try.prog 77 #[.func (.func 76) #[] #[], v] w (AllPost g n w) := by
  obtain ⟨p, cap, rfl, hS⟩ := hv
  have HS := Lib.hid hS
  have HF := Lib.hid hf
  have HB := Lib.hid (Bld.fresh w)
  have hrfl := (Below.refl w.heap.size w).alloc (Nat.le_refl _) (.cells #[.pointer none, .slice none 0 0] 177)
  clear hS hf
  go_enter Try.func77, Try.ntmps77
  go_wp2
  go_loopw [10] (fun u wr => AllRel g n w u wr) (fun u _ => ((n : Int) - intOf u).toNat)
  case atStart => exact ⟨0, by omega, rfl, HB.out, hrfl⟩
  case round =>
    obtain ⟨k, hk1, rfl, hB, hb⟩ := hrel
    by_cases hk : k < n
    · obtain ⟨g0, off, rfl, hg, hx⟩ := HS.out (by omega)
      have x0 : wr.cell? ⟨g0, off + k, none⟩ = some (f k) := by rw [hb.cell hg]; exact hx k hk
      have HK := Lib.hid (HF.out k hk)
      have HBk := Lib.hid hB
      have Hb := Lib.hid hb
      clear hx hB hb
      generalize f k = fk at *
      have hl1 : (cat g (k + 1)).length ≤ 140737488355328 := Nat.le_trans (cat_le g hk) hlen
      go_wp2_with (first | (go_at_call 76; ((with_reducible refine (HK.out _).mono ?_); rintro e w1 ⟨rfl, b1⟩; have HB1 := Lib.hid (HBk.out.below b1); have HW := Lib.hid (Bld.write HB1.out (g k) (by rw [cat_succ, List.length_append] at hl1; simpa using hl1) (Nat.le_trans Hb.out.size b1.size)))) | (go_at_call 94; ((with_reducible refine HW.out.mono ?_); rintro e w2 ⟨rfl, hB2, b2⟩)))
      go_roundw
      case rel => exact ⟨k + 1, by omega, rfl, by rw [cat_succ]; exact hB2, (Hb.out.trans (b1.mono Hb.out.size)).trans b2⟩
      case measure => simp [intOf]; omega
    · have : k = n := by omega
      subst this
      have Hb := Lib.hid hb
      have HW := Lib.hid (Bld.string hB hb.size)
      clear hb hB
      go_wp2_with (go_at_call 95; ((with_reducible refine HW.out.mono ?_); rintro e w2 ⟨rfl, b2⟩))
      go_ret
      exact ⟨rfl, Hb.out.trans b2⟩
set_option maxRecDepth 100000 in
            set_option maxHeartbeats 1000000 in
            theorem all_str {g : Nat → ByteArray} {n : Nat} {f : Nat → Value} {w : World} {v : Value} (hv : Slic w v n f) (hn : n < 4611686018427387904) (hlen : (cat g n).length ≤ 140737488355328)
                (hf : ∀ i, i < n → ∀ w, Calls Try.prog 79 #[f i] w fun e w' => e = .returned (.string (g i)) ∧ Below w.heap.size w w') :
                Calls Try.prog 78 #[.func (.func 79) #[] #[], v] w (AllPost g n w) := by
              obtain ⟨p, cap, rfl, hS⟩ := hv
              have HS := Lib.hid hS
              have HF := Lib.hid hf
              have HB := Lib.hid (Bld.fresh w)
              have hrfl := (Below.refl w.heap.size w).alloc (Nat.le_refl _) (.cells #[.pointer none, .slice none 0 0] 177)
              clear hS hf
              go_enter Try.func78, Try.ntmps78
              go_wp2
              go_loopw [10] (fun u wr => AllRel g n w u wr) (fun u _ => ((n : Int) - intOf u).toNat)
              case atStart => exact ⟨0, by omega, rfl, HB.out, hrfl⟩
              case round =>
                obtain ⟨k, hk1, rfl, hB, hb⟩ := hrel
                by_cases hk : k < n
                · obtain ⟨g0, off, rfl, hg, hx⟩ := HS.out (by omega)
                  have x0 : wr.cell? ⟨g0, off + k, none⟩ = some (f k) := by rw [hb.cell hg]; exact hx k hk
                  have HK := Lib.hid (HF.out k hk)
                  have HBk := Lib.hid hB
                  have Hb := Lib.hid hb
                  clear hx hB hb
                  generalize f k = fk at *
                  have hl1 : (cat g (k + 1)).length ≤ 140737488355328 := Nat.le_trans (cat_le g hk) hlen
                  go_wp2_with (first | (go_at_call 79; ((with_reducible refine (HK.out _).mono ?_); rintro e w1 ⟨rfl, b1⟩; have HB1 := Lib.hid (HBk.out.below b1); have HW := Lib.hid (Bld.write HB1.out (g k) (by rw [cat_succ, List.length_append] at hl1; simpa using hl1) (Nat.le_trans Hb.out.size b1.size)))) | (go_at_call 94; ((with_reducible refine HW.out.mono ?_); rintro e w2 ⟨rfl, hB2, b2⟩)))
                  go_roundw
                  case rel => exact ⟨k + 1, by omega, rfl, by rw [cat_succ]; exact hB2, (Hb.out.trans (b1.mono Hb.out.size)).trans b2⟩
                  case measure => simp [intOf]; omega
                · have : k = n := by omega
                  subst this
                  have Hb := Lib.hid hb
                  have HW := Lib.hid (Bld.string hB hb.size)
                  clear hb hB
                  go_wp2_with (go_at_call 95; ((with_reducible refine HW.out.mono ?_); rintro e w2 ⟨rfl, b2⟩))
                  go_ret
                  exact ⟨rfl, Hb.out.trans b2⟩
set_option maxRecDepth 100000 in
                  set_option maxHeartbeats 1000000 in
                  theorem all_bool {g : Nat → ByteArray} {n : Nat} {f : Nat → Value} {w : World} {v : Value} (hv : Slic w v n f) (hn : n < 4611686018427387904) (hlen : (cat g n).length ≤ 140737488355328)
                      (hf : ∀ i, i < n → ∀ w, Calls Try.prog 75 #[f i] w fun e w' => e = .returned (.string (g i)) ∧ Below w.heap.size w w') :
                      Calls Try.prog 74 #[.func (.func 75) #[] #[], v] w (AllPost g n w) := by
                    obtain ⟨p, cap, rfl, hS⟩ := hv
                    have HS := Lib.hid hS
                    have HF := Lib.hid hf
                    have HB := Lib.hid (Bld.fresh w)
                    have hrfl := (Below.refl w.heap.size w).alloc (Nat.le_refl _) (.cells #[.pointer none, .slice none 0 0] 177)
                    clear hS hf
                    go_enter Try.func74, Try.ntmps74
                    go_wp2
                    go_loopw [10] (fun u wr => AllRel g n w u wr) (fun u _ => ((n : Int) - intOf u).toNat)
                    case atStart => exact ⟨0, by omega, rfl, HB.out, hrfl⟩
                    case round =>
                      obtain ⟨k, hk1, rfl, hB, hb⟩ := hrel
                      by_cases hk : k < n
                      · obtain ⟨g0, off, rfl, hg, hx⟩ := HS.out (by omega)
                        have x0 : wr.cell? ⟨g0, off + k, none⟩ = some (f k) := by rw [hb.cell hg]; exact hx k hk
                        have HK := Lib.hid (HF.out k hk)
                        have HBk := Lib.hid hB
                        have Hb := Lib.hid hb
                        clear hx hB hb
                        generalize f k = fk at *
                        have hl1 : (cat g (k + 1)).length ≤ 140737488355328 := Nat.le_trans (cat_le g hk) hlen
                        go_wp2_with (first | (go_at_call 75; ((with_reducible refine (HK.out _).mono ?_); rintro e w1 ⟨rfl, b1⟩; have HB1 := Lib.hid (HBk.out.below b1); have HW := Lib.hid (Bld.write HB1.out (g k) (by rw [cat_succ, List.length_append] at hl1; simpa using hl1) (Nat.le_trans Hb.out.size b1.size)))) | (go_at_call 94; ((with_reducible refine HW.out.mono ?_); rintro e w2 ⟨rfl, hB2, b2⟩)))
                        go_roundw
                        case rel => exact ⟨k + 1, by omega, rfl, by rw [cat_succ]; exact hB2, (Hb.out.trans (b1.mono Hb.out.size)).trans b2⟩
                        case measure => simp [intOf]; omega
                      · have : k = n := by omega
                        subst this
                        have Hb := Lib.hid hb
                        have HW := Lib.hid (Bld.string hB hb.size)
                        clear hb hB
                        go_wp2_with (go_at_call 95; ((with_reducible refine HW.out.mono ?_); rintro e w2 ⟨rfl, b2⟩))
                        go_ret
                        exact ⟨rfl, Hb.out.trans b2⟩
namespace Wire
def textS (s : ByteArray) : ByteArray := Num.lebS s.size ++ s
def boolS (b : Bool) : ByteArray := Num.lebS (if b = true then 1 else 0)
end Wire
open Wire
set_option maxHeartbeats 400000 in
theorem texts1_any (s : ByteArray) (hs : s.size ≤ 140737488355328) (w : World) : Calls Try.prog 79 #[.string s] w fun e w' => e = .returned (.string (textS s)) ∧ Below w.heap.size w w' := by
  have hl := lebS_size (x := (s.size : Int)) (by omega)
  have HU := Lib.hid (fun w => uint_any s.size (by unfold U64; omega) w)
  go_enter Try.func79, Try.ntmps79
  go_wp2_with (go_at_call 76; ((with_reducible refine (HU.out _).mono ?_); rintro e w1 ⟨rfl, b1⟩))
  go_ret
  exact ⟨rfl, b1⟩
set_option maxHeartbeats 400000 in
theorem bools1_any (b : Bool) (w : World) : Calls Try.prog 75 #[.bool b] w fun e w' => e = .returned (.string (boolS b)) ∧ Below w.heap.size w w' := by
  have H1 := Lib.hid (fun w => uint_any 1 (by unfold U64; omega) w)
  have H0 := Lib.hid (fun w => uint_any 0 (by unfold U64; omega) w)
  cases b
  · go_enter Try.func75, Try.ntmps75
    go_wp2_with (go_at_call 76; ((with_reducible refine (H0.out _).mono ?_); rintro e w1 ⟨rfl, b1⟩))
    go_ret
    exact ⟨rfl, b1⟩
  · go_enter Try.func75, Try.ntmps75
    go_wp2_with (go_at_call 76; ((with_reducible refine (H1.out _).mono ?_); rintro e w1 ⟨rfl, b1⟩))
    go_ret
    exact ⟨rfl, b1⟩
theorem small_cat {g : Nat → ByteArray} {n : Nat} (h : ∀ i, i < n → (g i).size ≤ 10) : (cat g n).length ≤ 10 * n := by
  induction n with
  | zero => simp [cat]
  | succ n ih =>
    rw [cat_succ, List.length_append]
    have h1 := ih fun i hi => h i (by omega)
    have h2 := h n (by omega)
    have h3 : (g n).data.toList.length = (g n).size := by simp
    omega
set_option maxHeartbeats 400000 in
theorem uints_any {n : Nat} {x : Nat → Int} {w : World} {v : Value} (hv : Slic w v n fun i => .int .u64 (x i)) (hn : n < 1099511627776) (hx : ∀ i, i < n → U64 (x i)) :
    Calls Try.prog 43 #[v] w (AllPost (fun i => Num.lebS (x i)) n w) := by
  have H := Lib.hid (all_u64 hv (by omega) (g := fun i => Num.lebS (x i)) (by have := small_cat (g := fun i => Num.lebS (x i)) (n := n) (fun i hi => lebS_size (hx i hi).2); omega) (fun i hi w => uint_any (x i) (hx i hi) w))
  obtain ⟨p, cap, rfl, hS⟩ := hv
  clear hS hx
  go_enter Try.func43, Try.ntmps43
  go_wp2_with (go_at_call 77; ((with_reducible refine H.out.mono ?_); rintro e w1 ⟨rfl, b1⟩))
  go_ret
  exact ⟨rfl, b1⟩
set_option maxHeartbeats 400000 in
theorem texts_any {n : Nat} {x : Nat → ByteArray} {w : World} {v : Value} (hv : Slic w v n fun i => .string (x i)) (hn : n < 4611686018427387904) (hx : ∀ i, i < n → (x i).size ≤ 140737488355328) (hlen : (cat (fun i => textS (x i)) n).length ≤ 140737488355328) :
    Calls Try.prog 44 #[v] w (AllPost (fun i => textS (x i)) n w) := by
  have H := Lib.hid (all_str hv hn (g := fun i => textS (x i)) hlen (fun i hi w => texts1_any (x i) (hx i hi) w))
  obtain ⟨p, cap, rfl, hS⟩ := hv
  clear hS hx
  go_enter Try.func44, Try.ntmps44
  go_wp2_with (go_at_call 78; ((with_reducible refine H.out.mono ?_); rintro e w1 ⟨rfl, b1⟩))
  go_ret
  exact ⟨rfl, b1⟩
set_option maxHeartbeats 400000 in
theorem bools_any {n : Nat} {x : Nat → Bool} {w : World} {v : Value} (hv : Slic w v n fun i => .bool (x i)) (hn : n < 1099511627776) :
    Calls Try.prog 42 #[v] w (AllPost (fun i => boolS (x i)) n w) := by
  have H := Lib.hid (all_bool hv (by omega) (g := fun i => boolS (x i)) (by have := small_cat (g := fun i => boolS (x i)) (n := n) (fun i hi => lebS_size (by split <;> omega)); omega) (fun i hi w => bools1_any (x i) w))
  obtain ⟨p, cap, rfl, hS⟩ := hv
  clear hS
  go_enter Try.func42, Try.ntmps42
  go_wp2_with (go_at_call 74; ((with_reducible refine H.out.mono ?_); rintro e w1 ⟨rfl, b1⟩))
  go_ret
  exact ⟨rfl, b1⟩
end Go.Proofs.Ytgdgonmhgpflcaa


/- The walks of the program's reader of bricks, second part: its methods. No condition but that numbers fit their kinds. -/
namespace Go.Proofs.Ytgdgonmhgpflcaa
open Go.RowKit Wire
set_option linter.unusedVariables false
/-! ### The checks -/
set_option maxHeartbeats 400000 in
theorem uint1_any (x n most : Int) (q : Nat) {w : World} (hq : w.cell? ⟨q, 0, none⟩ = some (.int .u64 most)) :
    Calls Try.prog 82 #[.int .u64 x, .int .i64 n, .pointer (some ⟨q, 0, none⟩)] w fun e w' => e = .returned (.tuple #[.int .i64 n, .int .i64 (if most < x then 9 else 0)]) ∧ w = w' := by
  by_cases h : most < x
  · rw [if_pos h]
    go_enter Try.func82, Try.ntmps82
    go_wp2
    go_ret2
    exact ⟨rfl, rfl⟩
  · rw [if_neg h]
    have h' : x ≤ most := by omega
    clear h
    go_enter Try.func82, Try.ntmps82
    go_wp2
    go_ret2
    exact ⟨rfl, rfl⟩
def has (x : Nat → Int) (n : Nat) (y : Int) : Bool := (List.range n).any fun i => x i == y
theorem has_succ (x : Nat → Int) (n : Nat) (y : Int) : has x (n + 1) y = (has x n y || x n == y) := by simp [has, List.range_succ]
theorem has_of {x : Nat → Int} {n : Nat} {y : Int} {k : Nat} (h : k < n) (e : x k = y) : has x n y = true := by
  unfold has; rw [List.any_eq_true]; exact ⟨k, List.mem_range.2 h, by simpa using e⟩
set_option maxRecDepth 100000 in
set_option maxHeartbeats 1000000 in
theorem index_any {n : Nat} {x : Nat → Int} {w : World} {v : Value} (hv : Slic w v n fun i => .int .u64 (x i)) (hn : n < 1099511627776) (y : Int) :
    Calls Try.prog 104 #[v, .int .u64 y] w fun e w' => (∃ r : Int, e = .returned (.int .i64 r) ∧ decide (0 ≤ r) = has x n y) ∧ w = w' := by
  obtain ⟨p, cap, rfl, hS⟩ := hv
  have HS := Lib.hid hS
  clear hS
  go_enter Try.func104, Try.ntmps104
  go_wp2
  go_loopw [8] (fun u wr => (∃ i : Nat, i ≤ n ∧ u = .int .i64 i ∧ has x i y = false) ∧ wr = w) (fun u _ => ((n : Int) - intOf u).toNat)
  case atStart => exact ⟨⟨0, by omega, rfl, rfl⟩, rfl⟩
  case round =>
    obtain ⟨⟨k, hk1, rfl, hno⟩, rfl⟩ := hrel
    by_cases hk : k < n
    · obtain ⟨g0, off, rfl, hg, hx⟩ := HS.out (by omega)
      have x0 : wr.cell? ⟨g0, off + k, none⟩ = some (.int .u64 (x k)) := hx k hk
      clear hx
      by_cases he : y = x k
      · have hb : (y == x k) = true := by simpa using he
        have hh : has x n y = true := has_of hk he.symm
        clear he
        go_wp2
        go_ret
        exact ⟨⟨k, rfl, by rw [hh]; simp⟩, rfl⟩
      · have hb : (y == x k) = false := by simpa using he
        have hs : has x (k + 1) y = false := by rw [has_succ, hno]; simpa using fun e => he e.symm
        clear he
        go_wp2
        go_roundw
        case rel => exact ⟨⟨k + 1, by omega, rfl, hs⟩, by trivial⟩
        case measure => simp [intOf]; omega
    · have : k = n := by omega
      subst this
      go_wp2
      go_ret
      exact ⟨⟨-1, rfl, by rw [hno]; rfl⟩, rfl⟩
set_option maxHeartbeats 400000 in
theorem contains_any {n : Nat} {x : Nat → Int} {w : World} {v : Value} (hv : Slic w v n fun i => .int .u64 (x i)) (hn : n < 1099511627776) (y : Int) :
    Calls Try.prog 97 #[v, .int .u64 y] w fun e w' => e = .returned (.bool (has x n y)) ∧ w = w' := by
  have HI := Lib.hid (index_any hv hn y)
  obtain ⟨p, cap, rfl, hS⟩ := hv
  clear hS
  go_enter Try.func97, Try.ntmps97
  go_wp2_with (go_at_call 104; ((with_reducible refine HI.out.mono ?_); rintro e w' ⟨⟨r, rfl, hr⟩, rfl⟩))
  go_ret
  exact ⟨by show Ending.returned (.bool _) = _; rw [← hr], rfl⟩
set_option maxHeartbeats 400000 in
theorem tag1_any (x : Int) (m : Int) {n : Nat} {xs : Nat → Int} {w : World} {v : Value} (hv : Slic w v n fun i => .int .u64 (xs i)) (hn : n < 1099511627776) (q : Nat) (hq : w.cell? ⟨q, 0, none⟩ = some v) :
    Calls Try.prog 96 #[.int .u64 x, .int .i64 m, .pointer (some ⟨q, 0, none⟩)] w fun e w' => e = .returned (.tuple #[.int .i64 m, .int .i64 (if has xs n x = true then 0 else 8)]) ∧ w = w' := by
  have HC := Lib.hid (contains_any hv hn x)
  obtain ⟨p, cap, rfl, hS⟩ := hv
  clear hS
  cases hh : has xs n x with
  | true =>
    rw [hh] at HC
    rw [if_pos rfl]
    go_enter Try.func96, Try.ntmps96
    go_wp2_with (go_at_call 97; ((with_reducible refine HC.out.mono ?_); rintro e w' ⟨rfl, rfl⟩))
    go_ret2
    exact ⟨rfl, rfl⟩
  | false =>
    rw [hh] at HC
    rw [if_neg (by decide)]
    go_enter Try.func96, Try.ntmps96
    go_wp2_with (go_at_call 97; ((with_reducible refine HC.out.mono ?_); rintro e w' ⟨rfl, rfl⟩))
    go_ret2
    exact ⟨rfl, rfl⟩
namespace Wire
/-- The fault of a count. -/
def cntC (s : ByteArray) (x n most : Int) : Int := if most < 0 ∨ most < x then 4 else if s.size - n < x then 10 else 0
end Wire
set_option maxHeartbeats 1000000 in
theorem cnt1_any (x n most : Int) (q r b : Nat) {s : ByteArray} {e0 : Int} {w : World} (h : PR w b s e0) (hx : U64 x) (hn : 0 ≤ n) (hns : n ≤ s.size) (hm : I64 most) (hq : w.cell? ⟨q, 0, none⟩ = some (.int .i64 most)) (hr : w.cell? ⟨r, 0, none⟩ = some (.pointer (some ⟨b, 0, none⟩))) :
    Calls Try.prog 99 #[.int .u64 x, .int .i64 n, .pointer (some ⟨q, 0, none⟩), .pointer (some ⟨r, 0, none⟩)] w fun e w' => e = .returned (.tuple #[.int .i64 n, .int .i64 (cntC s x n most)]) ∧ w = w' := by
  have c0 := h.c0
  have hsz := h.sz
  unfold maxLen at hsz
  have hx0 := hx.1
  have hx1 := hx.2
  have hm0 := hm.1
  have hm1 := hm.2
  clear h hx hm
  by_cases h1 : most < 0
  · have e1 : cntC s x n most = 4 := by unfold cntC; rw [if_pos (.inl h1)]
    rw [e1]
    go_enter Try.func99, Try.ntmps99
    go_wp2
    go_ret2
    exact ⟨rfl, rfl⟩
  · have h1' : 0 ≤ most := by omega
    clear h1
    by_cases h2 : most < x
    · have e1 : cntC s x n most = 4 := by unfold cntC; rw [if_pos (.inr h2)]
      rw [e1]
      go_enter Try.func99, Try.ntmps99
      go_wp2
      go_ret2
      exact ⟨rfl, rfl⟩
    · have h2' : x ≤ most := by omega
      by_cases h3 : s.size - n < x
      · have e1 : cntC s x n most = 10 := by unfold cntC; rw [if_neg (by omega), if_pos h3]
        rw [e1]
        clear h2
        go_enter Try.func99, Try.ntmps99
        go_wp2
        go_ret2
        exact ⟨rfl, rfl⟩
      · have e1 : cntC s x n most = 0 := by unfold cntC; rw [if_neg (by omega), if_neg h3]
        rw [e1]
        have h3' : x ≤ s.size - n := by omega
        clear h2 h3
        go_enter Try.func99, Try.ntmps99
        go_wp2
        go_ret2
        exact ⟨rfl, rfl⟩
end Go.Proofs.Ytgdgonmhgpflcaa


/- The walks of the program's reader of bricks, third part: its methods. No condition but that numbers fit their kinds. -/
namespace Go.Proofs.Ytgdgonmhgpflcaa
open Go.RowKit Wire
set_option linter.unusedVariables false
namespace Wire
def xI (s : ByteArray) : Int := ((rdS s).1 : Nat)
def nI (s : ByteArray) : Int := ((rdS s).2.1 : Nat)
def uC (s : ByteArray) (most : Int) : Int := if most < xI s then 9 else 0
def iC (s : ByteArray) (lo hi : Int) : Int := if Num.zag (xI s) < lo ∨ hi < Num.zag (xI s) then 9 else 0
def tC (s : ByteArray) (xs : Nat → Int) (n : Nat) : Int := if has xs n (xI s) = true then 0 else 8
def cC (s : ByteArray) (most : Int) : Int := cntC s (xI s) (nI s) most
end Wire
theorem xI_U64 (s : ByteArray) : U64 (xI s) := rdS_U64 s
theorem numV_U64 (s : ByteArray) (e c : Int) : U64 (numV s e c) := by
  unfold numV
  split
  · exact rdS_U64 s
  · unfold U64; omega
theorem nI_le {s : ByteArray} (h : (rdS s).2.2 = 0) : nI s ≤ s.size := by unfold nI; have := rd_le h; omega
theorem cnt_ok {s : ByteArray} {e most : Int} (h : numV s e (cC s most) ≠ 0 ∨ (e = 0 ∧ numE s e (cC s most) = 0)) : numV s e (cC s most) = xI s ∧ numS s e (cC s most) = tl s (rdS s).2.1 ∧ numE s e (cC s most) = 0 ∧ xI s ≤ most ∧ xI s ≤ s.size - nI s := by
  have key : e = 0 ∧ (rdS s).2.2 = 0 ∧ cC s most = 0 := by
    rcases h with h | ⟨h1, h2⟩
    · unfold numV at h
      split at h
      · assumption
      · exact absurd rfl h
    · unfold numE at h2
      rw [if_pos h1] at h2
      split at h2
      · exact ⟨h1, by assumption, h2⟩
      · omega
  have hc := key.2.2
  unfold cC cntC at hc
  refine ⟨by unfold numV; rw [if_pos key]; rfl, by unfold numS; rw [if_pos key], by unfold numE; rw [if_pos key.1, if_pos key.2.1]; exact key.2.2, ?_, ?_⟩
  · split at hc
    · omega
    · omega
  · split at hc
    · omega
    · split at hc <;> omega
theorem numV_zero {s : ByteArray} {e c : Int} (h : numE s e c ≠ 0) : numV s e c = 0 := by
  unfold numE at h
  unfold numV
  split
  · rename_i hh; rw [if_pos hh.1, if_pos hh.2.1] at h; exact absurd hh.2.2 h
  · rfl
theorem tl_len (s : ByteArray) (n : Nat) (h : n ≤ s.size) : (tl s n).size = s.size - n := by unfold tl; simp
theorem cnt_range {s : ByteArray} {e most : Int} (hm : I64 most) : 0 ≤ numV s e (cC s most) ∧ numV s e (cC s most) ≤ 9223372036854775807 := by
  by_cases h : numV s e (cC s most) = 0
  · rw [h]; omega
  · have := cnt_ok (.inl h)
    have h1 := hm.2
    have h2 := (numV_U64 s e (cC s most)).1
    omega
/-! ### The methods -/
set_option maxHeartbeats 1000000 in
theorem puint_any {b : Nat} {s : ByteArray} {e0 : Int} {w : World} (h : PR w b s e0) (most : Int) :
    Calls Try.prog 47 #[.pointer (some ⟨b, 0, none⟩), .int .u64 most] w (NumPost b w (numV s e0 (uC s most)) (numS s e0 (uC s most)) (numE s e0 (uC s most))) := by
  have HN := Lib.hid (num_uint (h.alloc (.cells #[.int .u64 most] 22)) w.heap.size (uC s most) (fun _ => uint1_any (xI s) (nI s) most w.heap.size (by rw [(Blk.new w _ _).cell 0]; rfl)))
  clear h
  go_enter Try.func47, Try.ntmps47
  go_wp2_with (go_at_call 81; ((with_reducible refine HN.out.mono ?_); rintro e w' ⟨rfl, hP, hO⟩))
  go_ret
  exact ⟨rfl, hP, ((Only.refl _ _).alloc _).trans hO⟩
def IntPost (b : Nat) (w : World) (v : Int) (s' : ByteArray) (e' : Int) (e : Ending) (w' : World) : Prop := e = .returned (.int .i64 v) ∧ PR w' b s' e' ∧ Only (· = b) w w'
theorem Slic.alloc {w : World} {v : Value} {n : Nat} {f : Nat → Value} (h : Slic w v n f) (o : Obj) : Slic (w.alloc o) v n f := by
  obtain ⟨p, cap, rfl, hS⟩ := h
  refine ⟨p, cap, rfl, fun hn => ?_⟩
  obtain ⟨g, off, rfl, hg, hx⟩ := hS hn
  exact ⟨g, off, rfl, by simp; omega, fun i hi => by rw [← hx i hi]; simp only [World.cell?]; rw [Below.heap_alloc _ _ _ hg]⟩
set_option maxHeartbeats 1000000 in
theorem ptag_any {b : Nat} {s : ByteArray} {e0 : Int} {w : World} (h : PR w b s e0) {n : Nat} {xs : Nat → Int} {v : Value} (hv : Slic w v n fun i => .int .u64 (xs i)) (hn : n < 1099511627776) :
    Calls Try.prog 80 #[.pointer (some ⟨b, 0, none⟩), v] w (NumPost b w (numV s e0 (tC s xs n)) (numS s e0 (tC s xs n)) (numE s e0 (tC s xs n))) := by
  have hv' := hv
  obtain ⟨p, cap, rfl, hS⟩ := hv
  have HN := Lib.hid (num_tag (h.alloc (.cells #[.slice p n cap] 63)) w.heap.size (tC s xs n) (fun _ => tag1_any (xI s) (nI s) (hv'.alloc _) hn w.heap.size (by rw [(Blk.new w _ _).cell 0]; rfl)))
  clear h hv' hS
  go_enter Try.func80, Try.ntmps80
  go_wp2_with (go_at_call 81; ((with_reducible refine HN.out.mono ?_); rintro e w' ⟨rfl, hP, hO⟩))
  go_ret
  exact ⟨rfl, hP, ((Only.refl _ _).alloc _).trans hO⟩
namespace Wire
def xs01 (i : Nat) : Int := if i = 0 then 0 else 1
def bC (s : ByteArray) : Int := tC s xs01 2
end Wire
def BoolPost (b : Nat) (w : World) (v : Bool) (s' : ByteArray) (e' : Int) (e : Ending) (w' : World) : Prop := e = .returned (.bool v) ∧ PR w' b s' e' ∧ Only (· = b) w w'
set_option maxHeartbeats 1000000 in
theorem pbool_any {b : Nat} {s : ByteArray} {e0 : Int} {w : World} (h : PR w b s e0) :
    Calls Try.prog 46 #[.pointer (some ⟨b, 0, none⟩)] w (BoolPost b w (numV s e0 (bC s) == 1) (numS s e0 (bC s)) (numE s e0 (bC s))) := by
  have hv : Slic (w.alloc (.cells #[.int .u64 0, .int .u64 1] 22)) (.slice (some ⟨w.heap.size, 0, none⟩) 2 2) 2 (fun i => .int .u64 (xs01 i)) :=
    ⟨_, _, rfl, fun _ => ⟨_, 0, rfl, by simp, fun i hi => by
      rw [(Blk.new w _ _).cell]
      rcases i with _ | _ | i
      · rfl
      · rfl
      · omega⟩⟩
  have HN := Lib.hid (ptag_any (h.alloc (.cells #[.int .u64 0, .int .u64 1] 22)) hv (by omega))
  clear h hv
  go_enter Try.func46, Try.ntmps46
  go_wp2_with (go_at_call 80; ((with_reducible refine HN.out.mono ?_); rintro e w' ⟨rfl, hP, hO⟩))
  go_ret
  exact ⟨rfl, hP, ((Only.refl _ _).alloc _).trans hO⟩
set_option maxHeartbeats 1000000 in
theorem pcounted_any {b : Nat} {s : ByteArray} {e0 : Int} {w : World} (h : PR w b s e0) (most : Int) (hm : I64 most) :
    Calls Try.prog 83 #[.pointer (some ⟨b, 0, none⟩), .int .i64 most] w (NumPost b w (numV s e0 (cC s most)) (numS s e0 (cC s most)) (numE s e0 (cC s most))) := by
  have HN := Lib.hid (num_cnt ((h.alloc (.cells #[.pointer (some ⟨b, 0, none⟩)] 107)).alloc (.cells #[.int .i64 most] 3)) (w.heap.size + 1) w.heap.size (cC s most)
    (fun hr => cnt1_any (xI s) (nI s) most (w.heap.size + 1) w.heap.size b ((h.alloc (.cells #[.pointer (some ⟨b, 0, none⟩)] 107)).alloc (.cells #[.int .i64 most] 3)) (xI_U64 s) (by unfold nI; omega) (nI_le hr) hm (by
      have := (Blk.new (w.alloc (.cells #[.pointer (some ⟨b, 0, none⟩)] 107)) 3 #[.int .i64 most]).cell 0
      rw [show (w.alloc (.cells #[.pointer (some ⟨b, 0, none⟩)] 107)).heap.size = w.heap.size + 1 from by simp] at this
      rw [this]; rfl) (by rw [((Blk.new w _ _).alloc _).cell 0]; rfl)))
  clear h hm
  go_enter Try.func83, Try.ntmps83
  go_wp2_with (go_at_call 81; ((with_reducible refine HN.out.mono ?_); rintro e w' ⟨rfl, hP, hO⟩))
  go_ret
  exact ⟨rfl, hP, (((Only.refl _ _).alloc _).alloc _).trans hO⟩
end Go.Proofs.Ytgdgonmhgpflcaa


/- The walks of the program's reader of bricks, fourth part: texts, what is left, the end; what no reader answers. No condition but that numbers fit their kinds. -/
namespace Go.Proofs.Ytgdgonmhgpflcaa
open Go.RowKit Wire
set_option linter.unusedVariables false
namespace Wire
def txV (s : ByteArray) (e most : Int) : ByteArray := (numS s e (cC s most)).extract 0 (numV s e (cC s most)).toNat
def txS (s : ByteArray) (e most : Int) : ByteArray := if numE s e (cC s most) = 0 then tl (numS s e (cC s most)) (numV s e (cC s most)).toNat else numS s e (cC s most)
def txE (s : ByteArray) (e most : Int) : Int := numE s e (cC s most)
def endE (s : ByteArray) (e : Int) : Int := if e = 0 ∧ s.size ≠ 0 then 8 else e
end Wire
def TextPost (b : Nat) (w : World) (v : ByteArray) (s' : ByteArray) (e' : Int) (e : Ending) (w' : World) : Prop := e = .returned (.string v) ∧ PR w' b s' e' ∧ Only (· = b) w w'
theorem numE_ne {s : ByteArray} {e c : Int} (he : e ≠ 0) : numE s e c = e := by unfold numE; rw [if_neg he]
theorem cnt_fit {s : ByteArray} {e most : Int} : (numV s e (cC s most)).toNat ≤ (numS s e (cC s most)).size := by
  by_cases h : numV s e (cC s most) = 0
  · rw [h]; simp
  · have h1 := cnt_ok (.inl h)
    rw [h1.1, h1.2.1]
    have h2 := h1.2.2.2.2
    have h3 : (rdS s).2.2 = 0 := by
      unfold numV at h
      split at h
      · rename_i hh; exact hh.2.1
      · exact absurd rfl h
    rw [tl_len _ _ (rd_le h3)]
    unfold nI at h2
    have := rd_le h3
    omega
set_option maxHeartbeats 1000000 in
theorem ptext_any {b : Nat} {s : ByteArray} {e0 : Int} {w : World} (h : PR w b s e0) (most : Int) (hm : I64 most) :
    Calls Try.prog 48 #[.pointer (some ⟨b, 0, none⟩), .int .i64 most] w (TextPost b w (txV s e0 most) (txS s e0 most) (txE s e0 most)) := by
  have HN := Lib.hid (pcounted_any h most hm)
  have hr := cnt_range (s := s) (e := e0) hm
  have hr1 := hr.1
  have hr2 := hr.2
  have hfit := cnt_fit (s := s) (e := e0) (most := most)
  unfold txV txS txE
  clear h hm hr
  generalize numV s e0 (cC s most) = x at *
  generalize numS s e0 (cC s most) = s1 at *
  generalize numE s e0 (cC s most) = e1 at *
  obtain ⟨n, rfl⟩ := Int.eq_ofNat_of_zero_le hr1
  simp only [Int.toNat_natCast] at *
  by_cases he : e1 = 0
  · subst he
    rw [if_pos rfl]
    go_enter Try.func48, Try.ntmps48
    go_wp2_with (first | (go_at_call 83; ((with_reducible refine HN.out.mono ?_); rintro e w1 ⟨rfl, hP, hO⟩; have HP := Lib.hid hP; have c0 := hP.c0; clear hP)) | (go_at_call 84; ((with_reducible refine (none_any HP.out).mono ?_); rintro e w' ⟨rfl, rfl⟩)) | (go_at_call 85; ((with_reducible refine (take_yes HP.out n hfit).mono ?_); rintro e w2 ⟨rfl, hP2, hO2⟩)))
    go_ret
    exact ⟨rfl, hP2, hO.trans (hO2.mono fun _ _ h => h)⟩
  · rw [if_neg he]
    go_enter Try.func48, Try.ntmps48
    go_wp2_with (first | (go_at_call 83; ((with_reducible refine HN.out.mono ?_); rintro e w1 ⟨rfl, hP, hO⟩; have HP := Lib.hid hP; have c0 := hP.c0; clear hP)) | (go_at_call 84; ((with_reducible refine (none_any HP.out).mono ?_); rintro e w' ⟨rfl, rfl⟩)) | (go_at_call 85; ((with_reducible refine (take_bad HP.out n 0 he).mono ?_); rintro e w2 ⟨rfl, hP2, hO2⟩)))
    go_ret
    exact ⟨rfl, hP2, hO.trans (hO2.mono fun _ _ h => h)⟩
theorem empty_of {s : ByteArray} (h : s.size = 0) : s = ⟨#[]⟩ := by
  obtain ⟨d⟩ := s
  have h' : d.size = 0 := h
  have : d = #[] := Array.eq_empty_of_size_eq_zero h'
  rw [this]
theorem ne_empty {s : ByteArray} (h : s.size ≠ 0) : (!s.toList.isEmpty) = true := by
  rw [ByteArray.toList_eq]
  simp
  intro e
  apply h
  simp [ByteArray.size, e]
set_option maxHeartbeats 1000000 in
theorem pend_any {b : Nat} {s : ByteArray} {e0 : Int} {w : World} (h : PR w b s e0) : Calls Try.prog 49 #[.pointer (some ⟨b, 0, none⟩)] w (IntPost b w (endE s e0) s (endE s e0)) := by
  have HH := Lib.hid h
  have c0 := h.c0
  have c1 := h.c1
  have hf : ∀ o, w.frozen? ⟨b, o, none⟩ = false := h.frozen
  clear h
  by_cases he : e0 = 0
  · subst he
    by_cases hs : s.size = 0
    · have := empty_of hs
      subst this
      have e1 : endE ⟨#[]⟩ 0 = 0 := by unfold endE; rw [if_neg (by simp [ByteArray.size])]
      rw [e1]
      clear hs e1
      go_enter Try.func49, Try.ntmps49
      go_wp2_with (go_at_call 84; ((with_reducible refine (none_any HH.out).mono ?_); rintro e w' ⟨rfl, rfl⟩))
      go_ret
      exact ⟨rfl, HH.out, Only.refl _ _⟩
    · have e1 : endE s 0 = 8 := by unfold endE; rw [if_pos ⟨rfl, hs⟩]
      rw [e1]
      have hne := ne_empty hs
      clear hs e1
      go_enter Try.func49, Try.ntmps49
      go_wp2_with (go_at_call 84; ((with_reducible refine (none_any HH.out).mono ?_); rintro e w' ⟨rfl, rfl⟩))
      go_ret
      exact ⟨rfl, HH.out.setE 8, (Only.refl _ _).set1⟩
  · have e1 : endE s e0 = e0 := by unfold endE; rw [if_neg (fun h => he h.1)]
    rw [e1]
    have he1 : (e0 == 0) = false := by simpa using he
    clear he e1
    go_enter Try.func49, Try.ntmps49
    go_wp2_with (go_at_call 84; ((with_reducible refine (none_any HH.out).mono ?_); rintro e w' ⟨rfl, rfl⟩))
    go_ret
    exact ⟨rfl, HH.out, Only.refl _ _⟩
def WNewPost (s : ByteArray) (w : World) (e : Ending) (w' : World) : Prop := e = .returned (.pointer (some ⟨w.heap.size, 0, none⟩)) ∧ PR w' w.heap.size s 0 ∧ Below w.heap.size w w'
set_option maxHeartbeats 400000 in
theorem wnew_any (s : ByteArray) (hs : s.size ≤ maxLen) (w : World) : Calls Try.prog 45 #[.string s] w (WNewPost s w) := by
  go_enter Try.func45, Try.ntmps45
  go_wp2
  go_ret
  exact ⟨rfl, ⟨Blk.new w _ _, hs⟩, (Below.refl _ _).alloc (Nat.le_refl _) _⟩
/-! ### No reader -/
theorem NR.grow {w w' : World} {v : Value} (h : NR w v) (hb : Below w.heap.size w w') : NR w' v := by
  rcases h with rfl | ⟨b, rfl, hc⟩
  · exact .inl rfl
  · refine .inr ⟨b, rfl, ?_⟩
    have hlt : b < w.heap.size := by
      rcases Nat.lt_or_ge b w.heap.size with h | h
      · exact h
      · simp [World.cell?, Array.getElem?_eq_none h] at hc
    rw [hb.cell hlt]; exact hc
set_option maxHeartbeats 400000 in
theorem nuint {v : Value} {w : World} (h : NR w v) (most : Int) : Calls Try.prog 47 #[v, .int .u64 most] w fun e w' => e = .returned (.int .u64 0) ∧ Below w.heap.size w w' := by
  have hb := (Below.refl w.heap.size w).alloc (Nat.le_refl _) (.cells #[.int .u64 most] 22)
  have HN := Lib.hid (fun f => num_none (f := f) (h.grow hb))
  clear h
  go_enter Try.func47, Try.ntmps47
  go_wp2_with (go_at_call 81; ((with_reducible refine (HN.out _).mono ?_); rintro e w' ⟨rfl, rfl⟩))
  go_ret
  exact ⟨rfl, hb⟩
set_option maxHeartbeats 400000 in
theorem ntag {v : Value} {w : World} (h : NR w v) (p : Option Addr) (n cap : Nat) : Calls Try.prog 80 #[v, .slice p n cap] w fun e w' => e = .returned (.int .u64 0) ∧ Below w.heap.size w w' := by
  have hb := (Below.refl w.heap.size w).alloc (Nat.le_refl _) (.cells #[.slice p n cap] 63)
  have HN := Lib.hid (fun f => num_none (f := f) (h.grow hb))
  clear h
  go_enter Try.func80, Try.ntmps80
  go_wp2_with (go_at_call 81; ((with_reducible refine (HN.out _).mono ?_); rintro e w' ⟨rfl, rfl⟩))
  go_ret
  exact ⟨rfl, hb⟩
set_option maxHeartbeats 400000 in
theorem nbool {v : Value} {w : World} (h : NR w v) : Calls Try.prog 46 #[v] w fun e w' => e = .returned (.bool false) ∧ Below w.heap.size w w' := by
  have hb := (Below.refl w.heap.size w).alloc (Nat.le_refl _) (.cells #[.int .u64 0, .int .u64 1] 22)
  have HN := Lib.hid (ntag (h.grow hb) (some ⟨w.heap.size, 0, none⟩) 2 2)
  clear h
  go_enter Try.func46, Try.ntmps46
  go_wp2_with (go_at_call 80; ((with_reducible refine HN.out.mono ?_); rintro e w' ⟨rfl, hb2⟩))
  go_ret
  exact ⟨rfl, hb.trans (hb2.mono hb.size)⟩
set_option maxHeartbeats 400000 in
theorem ncounted {v : Value} {w : World} (h : NR w v) (most : Int) : Calls Try.prog 83 #[v, .int .i64 most] w fun e w' => e = .returned (.int .u64 0) ∧ Below w.heap.size w w' := by
  have hb := ((Below.refl w.heap.size w).alloc (Nat.le_refl _) (.cells #[v] 107)).alloc (by simp) (.cells #[.int .i64 most] 3)
  have HN := Lib.hid (fun f => num_none (f := f) (h.grow hb))
  rcases h with rfl | ⟨b, rfl, hc⟩
  · go_enter Try.func83, Try.ntmps83
    go_wp2_with (go_at_call 81; ((with_reducible refine (HN.out _).mono ?_); rintro e w' ⟨rfl, rfl⟩))
    go_ret
    exact ⟨rfl, hb⟩
  · clear hc
    go_enter Try.func83, Try.ntmps83
    go_wp2_with (go_at_call 81; ((with_reducible refine (HN.out _).mono ?_); rintro e w' ⟨rfl, rfl⟩))
    go_ret
    exact ⟨rfl, hb⟩
set_option maxHeartbeats 400000 in
theorem ntext {v : Value} {w : World} (h : NR w v) (most : Int) : Calls Try.prog 48 #[v, .int .i64 most] w fun e w' => e = .returned (.string ⟨#[]⟩) ∧ Below w.heap.size w w' := by
  have HN := Lib.hid (ncounted h most)
  have HH := Lib.hid h
  clear h
  go_enter Try.func48, Try.ntmps48
  go_wp2_with (first | (go_at_call 83; ((with_reducible refine HN.out.mono ?_); rintro e w1 ⟨rfl, hb⟩; have HX := Lib.hid (none_none (HH.out.grow hb)))) | (go_at_call 84; ((with_reducible refine HX.out.mono ?_); rintro e w' ⟨rfl, rfl⟩)))
  go_ret
  exact ⟨rfl, hb⟩
set_option maxHeartbeats 400000 in
theorem nend {v : Value} {w : World} (h : NR w v) : Calls Try.prog 49 #[v] w fun e w' => e = .returned (.int .i64 1) ∧ w = w' := by
  have HX := Lib.hid (none_none h)
  clear h
  go_enter Try.func49, Try.ntmps49
  go_wp2_with (go_at_call 84; ((with_reducible refine HX.out.mono ?_); rintro e w' ⟨rfl, rfl⟩))
  go_ret
  exact ⟨rfl, rfl⟩
end Go.Proofs.Ytgdgonmhgpflcaa


/- An argument that is a slice, opened out of its reading: what its elements' cells hold. No condition. -/
namespace Go.Proofs.Ytgdgonmhgpflcaa
open Go.RowKit Go.ChangeShapes Go.WideShapes Go.Deep
set_option linter.unusedVariables false
section
variable {H : Type} {enc : TypeId × Value → H} {P : Program} {w : World} {base : Nat} {held : Bool} {n : Nat}
/-- One field of a struct's cells. -/
theorem open_field {t : TypeId} {fs : Array Field} {fuel : Nat} {cs : List Value} {x : DataW H × List MemPlace} (hs : P.underlying t = some (.struct fs)) (h : DataW.trod enc P w base (fun _ => true) held fuel t cs = some x)
    (i : Nat) (f : Field) (hf : fs[i]? = some f) (o : Nat) (ho : f.offset = o) (hc : P.cellsOf f.type = 1) (hlt : o < cs.length) :
    ∃ m y, DataW.trod enc P w base (fun _ => true) held m f.type [cs.getD o undef] = some y := by
  obtain ⟨xs, m, _, _, _, hl, hx⟩ := DataW.trod_struct hs h
  have := hx i f hf
  have hi : i < fs.size := (Array.getElem?_eq_some_iff.1 hf).1
  rw [ho, hc, List.getElem?_eq_getElem (by omega)] at this
  refine ⟨m, xs[i]'(by omega), ?_⟩
  rw [← this]
  congr 1
  rw [List.drop_eq_getElem_cons hlt]
  show _ = [cs[o]]
  simp [List.getD, hlt]
/-- A slice of whatever: where it lies, and how its elements read. -/
theorem open_rows {r : Reach} {b0 : Nat} {t e : TypeId} {v : Value} {d : DataW H} {ps : List MemPlace} {m : Nat} (ht : P.underlying t = some (.slice e)) (hc : P.cellsOf e = m) (hm : 0 < m) (hval : Value.okWide P w r b0 t v) (hd : DataW.Trod enc P w base (fun _ => true) held t v d ps) :
    ∃ p n cap, v = .slice p n cap ∧ (0 < n → ∃ g off, p = some ⟨g, off, none⟩ ∧ g < w.heap.size ∧
      ∀ i, i < n → ∃ (cs : List Value) (fuel : Nat) (x : DataW H × List MemPlace), cs.length = m ∧ (∀ j, j < m → w.cell? ⟨g, off + i * m + j, none⟩ = cs[j]?) ∧ DataW.trod enc P w base (fun _ => true) held fuel e cs = some x) := by
  have hv : v.cells.toList = [v] := by
    obtain ⟨_, _, _, rfl⟩ := okWide_slice ht hval
    rfl
  obtain ⟨fuel, hf⟩ := hd
  rw [hv] at hf
  rcases open_slice ht hf with ⟨h1, _⟩ | ⟨a, len, cap, mm, k, D, Pl, h1, hb, hl, hmx, hmm, _, hx⟩
  · refine ⟨none, 0, 0, by simpa using h1, fun h => by omega⟩
  · refine ⟨some a, len, cap, by simpa using h1, fun h => ?_⟩
    simp only [if_true] at hmm
    have key : ∀ i, i < len → ∃ cs', cs'.length = m ∧ (∀ j, j < m → w.cell? ((a.add (i * m)).add j) = cs'[j]?) ∧ DataW.trod enc P w base (fun _ => true) held k e cs' = some (D i, Pl i) := fun i hi => by
      obtain ⟨cs', hcs, hy⟩ := hx i (by omega)
      rw [hc] at hcs
      obtain ⟨_, hlen, hcell⟩ := World.cells?_some hcs
      exact ⟨cs', hlen, hcell, hy⟩
    obtain ⟨g, off, spot⟩ := a
    have hspot : spot = none := by
      obtain ⟨cs', hlen, hcell, _⟩ := key 0 h
      have h0 := hcell 0 hm
      rw [List.getElem?_eq_getElem (by omega)] at h0
      simpa [Addr.add] using World.cell?_spot h0
    subst hspot
    have hlt : g < w.heap.size := by
      obtain ⟨cs', hlen, hcell, _⟩ := key 0 h
      have h0 := hcell 0 hm
      rw [List.getElem?_eq_getElem (by omega)] at h0
      rcases Nat.lt_or_ge g w.heap.size with h | h
      · exact h
      · simp [Addr.add, World.cell?, Array.getElem?_eq_none h] at h0
    refine ⟨g, off, rfl, hlt, fun i hi => ?_⟩
    obtain ⟨cs', hlen, hcell, hy⟩ := key i hi
    refine ⟨cs', k, _, hlen, fun j hj => ?_, hy⟩
    rw [← hcell j hj, Deep.add_add, add_plain, Nat.add_assoc]
theorem choose_fn {α : Type} [Inhabited α] {n : Nat} {p : Nat → α → Prop} (h : ∀ i, i < n → ∃ x, p i x) : ∃ f : Nat → α, ∀ i, i < n → p i (f i) := choose_lt h
end
section
variable {H : Type} {enc : TypeId × Value → H} {P : Program} {w : World} {base : Nat} {held : Bool}
/-- A slice, out of the reading of its one cell. -/
theorem open_cell_rows {t e : TypeId} {v : Value} {x : DataW H × List MemPlace} {m fuel : Nat} (ht : P.underlying t = some (.slice e)) (hc : P.cellsOf e = m) (hm : 0 < m) (hf : DataW.trod enc P w base (fun _ => true) held fuel t [v] = some x) :
    ∃ p n cap, v = .slice p n cap ∧ (0 < n → ∃ g off, p = some ⟨g, off, none⟩ ∧ g < w.heap.size ∧
      ∀ i, i < n → ∃ (cs : List Value) (fuel : Nat) (x : DataW H × List MemPlace), cs.length = m ∧ (∀ j, j < m → w.cell? ⟨g, off + i * m + j, none⟩ = cs[j]?) ∧ DataW.trod enc P w base (fun _ => true) held fuel e cs = some x) := by
  obtain ⟨d, ps⟩ := x
  rcases open_slice ht hf with ⟨h1, _⟩ | ⟨a, len, cap, mm, k, D, Pl, h1, hb, hl, hmx, hmm, _, hx⟩
  · refine ⟨none, 0, 0, by simpa using h1, fun h => by omega⟩
  · refine ⟨some a, len, cap, by simpa using h1, fun h => ?_⟩
    simp only [if_true] at hmm
    have key : ∀ i, i < len → ∃ cs', cs'.length = m ∧ (∀ j, j < m → w.cell? ((a.add (i * m)).add j) = cs'[j]?) ∧ DataW.trod enc P w base (fun _ => true) held k e cs' = some (D i, Pl i) := fun i hi => by
      obtain ⟨cs', hcs, hy⟩ := hx i (by omega)
      rw [hc] at hcs
      obtain ⟨_, hlen, hcell⟩ := World.cells?_some hcs
      exact ⟨cs', hlen, hcell, hy⟩
    obtain ⟨g, off, spot⟩ := a
    have hspot : spot = none := by
      obtain ⟨cs', hlen, hcell, _⟩ := key 0 h
      have h0 := hcell 0 hm
      rw [List.getElem?_eq_getElem (by omega)] at h0
      simpa [Addr.add] using World.cell?_spot h0
    subst hspot
    have hlt : g < w.heap.size := by
      obtain ⟨cs', hlen, hcell, _⟩ := key 0 h
      have h0 := hcell 0 hm
      rw [List.getElem?_eq_getElem (by omega)] at h0
      rcases Nat.lt_or_ge g w.heap.size with h | h
      · exact h
      · simp [Addr.add, World.cell?, Array.getElem?_eq_none h] at h0
    refine ⟨g, off, rfl, hlt, fun i hi => ?_⟩
    obtain ⟨cs', hlen, hcell, hy⟩ := key i hi
    refine ⟨cs', k, _, hlen, fun j hj => ?_, hy⟩
    rw [← hcell j hj, Deep.add_add, add_plain, Nat.add_assoc]
end
end Go.Proofs.Ytgdgonmhgpflcaa
