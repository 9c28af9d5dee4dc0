
/- A law's script, opened out of its reading; the statements' guard. No condition. -/
import Derived.Test.YtfjadphgjjlhiaaGraU
import Derived.Test.YtfjadphgjjlhiaaOpen
namespace Go.Proofs.Ytfjadphgjjlhiaa
open Go.RowKit Go.Maps Gr Sok
set_option linter.unusedVariables false
set_option linter.unusedSimpArgs false
namespace Gr
structure StepG where
  d : Int
  a : Int
  b : Int
  n : Int
  m : Int
  s : ByteArray
  ts : List Int
instance : Inhabited StepG := ⟨⟨0, 0, 0, 0, 0, ⟨#[]⟩, []⟩⟩
end Gr
/-- A row of ints that came in. -/
def RowI (W : World) (p : Option Addr) (tos : List Int) : Prop := 0 < tos.length → ∃ g o, p = some ⟨g, o, none⟩ ∧ g < W.heap.size ∧ ∀ i, i < tos.length → W.cell? ⟨g, o + i, none⟩ = some (.int .i64 tos[i]!)
def StepAt (W : World) (g o : Nat) (s : StepG) : Prop :=
  W.cell? ⟨g, o, none⟩ = some (.int .i64 s.d) ∧ W.cell? ⟨g, o + 1, none⟩ = some (.int .i64 s.a) ∧ W.cell? ⟨g, o + 2, none⟩ = some (.int .i64 s.b) ∧ W.cell? ⟨g, o + 3, none⟩ = some (.int .u64 s.n) ∧
    W.cell? ⟨g, o + 4, none⟩ = some (.int .u64 s.m) ∧ W.cell? ⟨g, o + 5, none⟩ = some (.string s.s) ∧ (∃ pt ct, W.cell? ⟨g, o + 6, none⟩ = some (.slice pt s.ts.length ct) ∧ RowI W pt s.ts) ∧ U64 s.n ∧ U64 s.m
/-- The value is a slice of steps. -/
def ScriptG (W : World) (v : Value) (n : Nat) (sx : Nat → StepG) : Prop :=
  ∃ p cap, v = .slice p n cap ∧ (0 < n → ∃ g off, p = some ⟨g, off, none⟩ ∧ g < W.heap.size ∧ ∀ i, i < n → StepAt W g (off + i * 7) (sx i))
section
open Go.ChangeShapes Go.WideShapes Go.Deep
variable {H : Type} {enc : TypeId × Value → H} {W : World} {base : Nat} {held : Bool}
set_option maxRecDepth 100000 in
theorem open_ints {v : Value} {x : DataW H × List MemPlace} {fuel : Nat} (hf : DataW.trod enc Try.prog W base (fun _ => true) held fuel 25 [v] = some x) : ∃ l p c, v = .slice p l.length c ∧ RowI W p l := by
  obtain ⟨p, n, cap, rfl, h⟩ := open_cell_rows (e := 3) (m := 1) Try.underlying25 (by kernel_rfl) (by decide) hf
  by_cases hn : 0 < n
  · obtain ⟨g, off, rfl, hg, hx⟩ := h hn
    have key : ∀ i, i < n → ∃ s : Int, W.cell? ⟨g, off + i, none⟩ = some (.int .i64 s) := by
      intro i hi
      obtain ⟨cs, fuel, x, hlen, hcell, hy⟩ := hx i hi
      obtain ⟨n0, z0, _, _⟩ := DataW.trod_int (k := .i64) Try.underlying3 hy
      have := hcell 0 (by decide)
      rw [z0] at this
      refine ⟨n0, ?_⟩
      rw [show off + i = off + i * 1 + 0 by omega, this]; rfl
    obtain ⟨ax, hax⟩ := choose_fn key
    have hl : ((List.range n).map ax).length = n := by simp
    refine ⟨(List.range n).map ax, _, cap, by rw [hl], fun _ => ⟨g, off, rfl, hg, fun i hi => ?_⟩⟩
    rw [getElem!_pos _ i hi, List.getElem_map, List.getElem_range]
    exact hax i (by omega)
  · have : n = 0 := by omega
    subst this
    exact ⟨[], p, cap, rfl, fun h => by simp at h⟩
set_option maxRecDepth 100000 in
theorem open_scriptG {r : Reach} {b0 : Nat} {v : Value} {d : DataW H} {ps : List MemPlace} (hval : Value.okWide Try.prog W r b0 40 v) (hd : DataW.Trod enc Try.prog W base (fun _ => true) held 40 v d ps) :
    ∃ n sx, ScriptG W v n sx := by
  obtain ⟨p, n, cap, rfl, h⟩ := open_rows (e := 47) (m := 7) Try.underlying40 (by kernel_rfl) (by decide) hval hd
  by_cases hn : 0 < n
  · obtain ⟨g, off, rfl, hg, hx⟩ := h hn
    have key : ∀ i, i < n → ∃ s : StepG, StepAt W g (off + i * 7) s := by
      intro i hi
      obtain ⟨cs, fuel, x, hlen, hcell, hy⟩ := hx i hi
      have f := fun (k : Nat) (fd : Field) (hf : _) (ho : fd.offset = k) (hc : Try.prog.cellsOf fd.type = 1) (hlt : k < cs.length) => open_field (P := Try.prog) (t := 47) Try.underlying47 hy k fd hf k ho hc hlt
      obtain ⟨m0, y0, e0⟩ := f 0 _ rfl rfl (by kernel_rfl) (by omega)
      obtain ⟨m1, y1, e1⟩ := f 1 _ rfl rfl (by kernel_rfl) (by omega)
      obtain ⟨m2, y2, e2⟩ := f 2 _ rfl rfl (by kernel_rfl) (by omega)
      obtain ⟨m3, y3, e3⟩ := f 3 _ rfl rfl (by kernel_rfl) (by omega)
      obtain ⟨m4, y4, e4⟩ := f 4 _ rfl rfl (by kernel_rfl) (by omega)
      obtain ⟨m5, y5, e5⟩ := f 5 _ rfl rfl (by kernel_rfl) (by omega)
      obtain ⟨m6, y6, e6⟩ := f 6 _ rfl rfl (by kernel_rfl) (by omega)
      obtain ⟨n0, z0, _, _⟩ := DataW.trod_int (k := .i64) (by kernel_rfl) e0
      obtain ⟨n1, z1, _, _⟩ := DataW.trod_int (k := .i64) (by kernel_rfl) e1
      obtain ⟨n2, z2, _, _⟩ := DataW.trod_int (k := .i64) (by kernel_rfl) e2
      obtain ⟨n3, z3, _, w3⟩ := DataW.trod_int (k := .u64) (by kernel_rfl) e3
      obtain ⟨n4, z4, _, w4⟩ := DataW.trod_int (k := .u64) (by kernel_rfl) e4
      obtain ⟨n5, z5, _⟩ := DataW.trod_string (by kernel_rfl) e5
      obtain ⟨lt, pt, ct, z6, hto⟩ := open_ints e6
      have g := fun (j : Nat) (hj : j < 7) (u : Value) (hu : [cs.getD j undef] = [u]) => show W.cell? ⟨g, off + i * 7 + j, none⟩ = some u by
        rw [hcell j hj, List.getElem?_eq_getElem (by omega)]
        simp only [List.getD, List.getElem?_eq_getElem (show j < cs.length by omega), Option.getD_some, List.cons.injEq, and_true] at hu
        rw [hu]
      have b3 := bounds_u64 w3
      have b4 := bounds_u64 w4
      exact ⟨⟨n0, n1, n2, n3, n4, n5, lt⟩, g 0 (by omega) _ z0, g 1 (by omega) _ z1, g 2 (by omega) _ z2, g 3 (by omega) _ z3, g 4 (by omega) _ z4, g 5 (by omega) _ z5, ⟨pt, ct, g 6 (by omega) _ (by rw [z6]), hto⟩, by unfold U64; simp only; omega, by unfold U64; simp only; omega⟩
    obtain ⟨sx, hsx⟩ := choose_fn key
    exact ⟨n, sx, _, cap, rfl, fun _ => ⟨g, off, rfl, hg, hsx⟩⟩
  · exact ⟨n, fun _ => default, p, cap, rfl, fun h => absurd h hn⟩
end
def HvPost (n : Nat) (sx : Nat → StepG) (W : World) (e : Ending) (w' : World) : Prop := (∃ r : Bool, e = .returned (.bool r) ∧ (r = false → n ≤ 150 ∧ ∀ i, i < n → (sx i).ts.length ≤ 40)) ∧ w' = W
def HvR (n : Nat) (sx : Nat → StepG) (W : World) (v u : Value) (wr : World) : Prop := ∃ (i : Nat) (acc : Int), v = .int .i64 acc ∧ u = .int .i64 i ∧ i ≤ n ∧ i ≤ 300 ∧ (∀ j, j < i → (sx j).ts.length ≤ 40) ∧ wr = W
set_option maxRecDepth 100000 in
set_option maxHeartbeats 2000000 in
theorem heavyG {W : World} {v : Value} {n : Nat} {sx : Nat → StepG} (hv : ScriptG W v n sx) :
    Calls Try.prog 14 #[v] W (HvPost n sx W) := by
  have HV := Lib.hid hv
  obtain ⟨p, cap, rfl, _⟩ := hv
  have HZ : Hid (HvR n sx W (.int .i64 0) (.int .i64 0) W) := Lib.hid ⟨0, 0, rfl, rfl, Nat.zero_le _, by decide, fun j hj => by omega, rfl⟩
  go_enter Try.func14, Try.ntmps14
  go_wp2_with fail
  go_loopw [3, 4] (fun v u wr => HvR n sx W v u wr) (fun _ u _ => ((301 : Int) - intOf u).toNat)
  case atStart => exact HZ.out
  case round =>
    clear HZ
    obtain ⟨i, acc, rfl, rfl, hi, hi3, hall, rfl⟩ := hrel
    have HI := Lib.hid (And.intro hi (And.intro hi3 hall))
    clear hi hi3 hall
    by_cases hin : i < n
    · have hin' : (i : Int) < (n : Int) := by omega
      by_cases h3 : i < 300
      · have h3' : (i : Int) < 300 := by omega
        have hi0 : (0 : Int) ≤ (i : Int) := by omega
        obtain ⟨p', c', e1, hx⟩ := HV.out
        injection e1 with e1 e2 e3
        subst e1 e3
        obtain ⟨g, off, rfl, hg, hx⟩ := hx (by omega)
        obtain ⟨x0, x1, x2, x3, x4, x5, ⟨pt, ct, x6, _⟩, _⟩ := hx i hin
        have HE : Hid (wrap64 ((i : Int) + 1) = ((i + 1 : Nat) : Int)) := Lib.hid (Sou.w64n rfl (by omega))
        have HLN := Lib.hid (And.intro hin h3)
        clear hx x0 x1 x2 x3 x4 hin h3 e2
        generalize hsx : sx i = s at *
        have HSX := Lib.hid hsx
        clear hsx
        obtain ⟨sd, sa, sb, sn, sm, ss, sto⟩ := s
        dsimp only at x5 x6
        by_cases h40 : 40 < sto.length
        · have h40' : (40 : Int) < (sto.length : Int) := by omega
          clear h40
          go_wp2_with fail
          go_ret
          exact ⟨⟨true, rfl, fun h => by cases h⟩, rfl⟩
        · have h40' : ¬ (40 : Int) < (sto.length : Int) := by omega
          have HZ : Hid (∀ acc, HvR n sx wr (.int .i64 acc) (.int .i64 ((i + 1 : Nat) : Int)) wr) := Lib.hid fun acc => ⟨i + 1, acc, rfl, rfl, HLN.out.1, by have := HLN.out.2; omega, fun j hj => by
            by_cases hji : j = i
            · subst hji; rw [HSX.out]; show sto.length ≤ 40; omega
            · exact HI.out.2.2 j (by omega), rfl⟩
          clear h40
          go_wp2_with fail
          go_roundw
          case rel => first | exact HZ.out _ | (rw [HE.out]; exact HZ.out _)
          case measure => have := HLN.out; first | (simp [intOf]; omega) | (rw [HE.out]; simp [intOf]; omega)
      · have h3' : ¬ (i : Int) < 300 := by omega
        have hn' : (150 : Int) < (n : Int) := by omega
        clear hin h3
        go_wp2_with fail
        go_ret
        exact ⟨⟨true, rfl, fun h => by cases h⟩, rfl⟩
    · obtain rfl : i = n := by have := HI.out; omega
      have hin' : ¬ (i : Int) < (i : Int) := by omega
      clear hin
      by_cases h150 : 150 < i
      · have h150' : (150 : Int) < (i : Int) := by omega
        clear h150
        go_wp2_with fail
        go_ret
        exact ⟨⟨true, rfl, fun h => by cases h⟩, rfl⟩
      · have h150' : ¬ (150 : Int) < (i : Int) := by omega
        have H150 := Lib.hid h150
        clear h150
        go_wp2_with fail
        go_ret
        exact ⟨⟨_, rfl, fun _ => ⟨by have := H150.out; omega, HI.out.2.2⟩⟩, rfl⟩
end Go.Proofs.Ytfjadphgjjlhiaa
