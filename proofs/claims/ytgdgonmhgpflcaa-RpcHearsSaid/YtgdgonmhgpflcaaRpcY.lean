import Derived.Test.YtgdgonmhgpflcaaRpcX
import Derived.Test.YtgdgonmhgpflcaaMgc

/- Packets and confs that came in, opened out of their readings. No condition. -/
namespace Go.Proofs.Ytgdgonmhgpflcaa
open Go.RowKit Wire Rp
set_option linter.unusedVariables false
set_option linter.unusedSimpArgs false
section
open Go.ChangeShapes Go.WideShapes Go.Deep
variable {H : Type} {enc : TypeId × Value → H} {W : World} {base : Nat} {held : Bool}
theorem u64_of {n : Int} (h : (Lit.int .u64 n).wf = true) : U64 n := by have := bounds_u64 h; unfold U64; omega
theorem i64_of {n : Int} (h : (Lit.int .i64 n).wf = true) : I64 n := by have := bounds_i64 h; unfold I64; omega
set_option maxRecDepth 100000 in
/-- Four cells that read as a packet. -/
theorem open_pk {fuel : Nat} {cs : List Value} {x : DataW H × List MemPlace} (hl : cs.length = 4) (hf : DataW.trod enc Try.prog W base (fun _ => true) held fuel 24 cs = some x) :
    ∃ p : Pk, cs = (pcells p).toList ∧ U64 p.inc ∧ U64 p.seq ∧ p.body.size ≤ maxLen := by
  have f := fun (k : Nat) (fd : Field) (hq : _) (ho : fd.offset = k) (hc : Try.prog.cellsOf fd.type = 1) (hlt : k < cs.length) => open_field (P := Try.prog) (t := 24) Try.underlying24 hf k fd hq k ho hc hlt
  obtain ⟨m0, y0, e0⟩ := f 0 _ rfl rfl (by kernel_rfl) (by omega)
  obtain ⟨m1, y1, e1⟩ := f 1 _ rfl rfl (by kernel_rfl) (by omega)
  obtain ⟨m2, y2, e2⟩ := f 2 _ rfl rfl (by kernel_rfl) (by omega)
  obtain ⟨m3, y3, e3⟩ := f 3 _ rfl rfl (by kernel_rfl) (by omega)
  obtain ⟨n0, z0, _⟩ := DataW.trod_bool (by kernel_rfl) e0
  obtain ⟨n1, z1, _, w1⟩ := DataW.trod_int (k := .u64) (by kernel_rfl) e1
  obtain ⟨n2, z2, _, w2⟩ := DataW.trod_int (k := .u64) (by kernel_rfl) e2
  obtain ⟨n3, z3, _, w3⟩ := DataW.trod_string (by kernel_rfl) e3
  refine ⟨⟨n0, n1, n2, n3⟩, ?_, u64_of w1, u64_of w2, w3⟩
  match cs, hl with
  | [a, b, c, d], _ =>
    simp at z0 z1 z2 z3
    subst z0 z1 z2 z3
    rfl
set_option maxRecDepth 100000 in
theorem open_packet {r : Reach} {b0 : Nat} {v : Value} {d : DataW H} {ps : List MemPlace} (hval : Value.okWide Try.prog W r b0 24 v) (hd : DataW.Trod enc Try.prog W base (fun _ => true) held 24 v d ps) :
    ∃ p : Pk, v = pv p ∧ U64 p.inc ∧ U64 p.seq ∧ p.body.size ≤ maxLen := by
  obtain ⟨cs, rfl, hsz⟩ := okWide_struct Try.underlying24 hval
  obtain ⟨fuel, hf⟩ := hd
  have hs : cs.size = 4 := by rw [hsz]; kernel_rfl
  obtain ⟨p, h1, h2⟩ := open_pk (cs := cs.toList) (by simpa using hs) hf
  refine ⟨p, ?_, h2⟩
  unfold pv
  congr 1
  exact Array.ext' h1
set_option maxRecDepth 100000 in
theorem open_conf {r : Reach} {b0 : Nat} {v : Value} {d : DataW H} {ps : List MemPlace} (hval : Value.okWide Try.prog W r b0 73 v) (hd : DataW.Trod enc Try.prog W base (fun _ => true) held 73 v d ps) :
    ∃ a b c : Int, v = .agg #[.int .i64 a, .int .i64 b, .int .i64 c] ∧ I64 a ∧ I64 b ∧ I64 c := by
  obtain ⟨cs, rfl, hsz⟩ := okWide_struct Try.underlying73 hval
  obtain ⟨fuel, hf⟩ := hd
  have hs : cs.size = 3 := by rw [hsz]; kernel_rfl
  have hl : cs.toList.length = 3 := by simpa using hs
  have f := fun (k : Nat) (fd : Field) (hq : _) (ho : fd.offset = k) (hc : Try.prog.cellsOf fd.type = 1) (hlt : k < cs.toList.length) => open_field (P := Try.prog) (t := 73) Try.underlying73 hf k fd hq k ho hc hlt
  obtain ⟨m0, y0, e0⟩ := f 0 _ rfl rfl (by kernel_rfl) (by omega)
  obtain ⟨m1, y1, e1⟩ := f 1 _ rfl rfl (by kernel_rfl) (by omega)
  obtain ⟨m2, y2, e2⟩ := f 2 _ rfl rfl (by kernel_rfl) (by omega)
  obtain ⟨n0, z0, _, w0⟩ := DataW.trod_int (k := .i64) (by kernel_rfl) e0
  obtain ⟨n1, z1, _, w1⟩ := DataW.trod_int (k := .i64) (by kernel_rfl) e1
  obtain ⟨n2, z2, _, w2⟩ := DataW.trod_int (k := .i64) (by kernel_rfl) e2
  refine ⟨n0, n1, n2, ?_, i64_of w0, i64_of w1, i64_of w2⟩
  congr 1
  apply Array.ext'
  revert z0 z1 z2
  match cs.toList, hl with
  | [a, b, c], _ =>
    intro z0 z1 z2
    simp at z0 z1 z2
    subst z0 z1 z2
    rfl
set_option maxRecDepth 100000 in
theorem bytes_w {r : Reach} {b0 : Nat} {v : Value} {d : DataW H} {ps : List MemPlace} (b : ByteArray) (hval : Value.okWide Try.prog W r b0 24 v) (hd : DataW.Trod enc Try.prog W base (fun _ => true) held 24 v d ps) (lt : ∀ x ∈ ps, x.block < W.heap.size) (hb : b.size ≤ maxLen) :
    Calls Try.prog 3 #[v, .string b] W fun e w' => e = .returned (.bool true) ∧ Below W.heap.size W w' := by
  obtain ⟨p, rfl, h1, h2, h3⟩ := open_packet hval hd
  exact bytes_t p b h1 h2 h3 hb W
end
end Go.Proofs.Ytgdgonmhgpflcaa
