import Derived.Test.YtghbjknpffiaiaaGreatMtFa
import Derived.Test.YtghbjknpffiaiaaGreatMtFb
import Derived.Test.YtghbjknpffiaiaaGreatMtFc
import Derived.Test.YtghbjknpffiaiaaGreatMtGa
import Derived.Test.YtghbjknpffiaiaaGreatMtGb
import Derived.Test.YtghbjknpffiaiaaGreatMtGc
namespace Go.Proofs.YtghbjknpffiaiaaGreat
open Go.RowKit Wire Ms
set_option linter.unusedVariables false
set_option linter.unusedSimpArgs false
set_option maxRecDepth 100000 in
theorem same_any {m n : M} {W : World} {B : Nat} {v v2 : VS} (hv : MR W B m v) (hu : MR W B n v2) (hB : B ≤ W.heap.size) (hl : Lite m) :
  Calls Tryz.prog 12 #[.agg (mcells m v), .agg (mcells n v2)] W (EqP (decide (m = n)) W) := by
 generalize hr : decide (m = n) = r
 obtain ⟨p1, c1, p2, c2, p3, c3, p4, c4, p5, c5, p6, c6, rfl⟩ := hv.vs
 obtain ⟨q1, d1, q2, d2, q3, d3, q4, d4, q5, d5, q6, d6, rfl⟩ := hu.vs
 obtain ⟨a0, a1, a2, a3, a4, a5, ⟨a6, a7, a8, a9⟩, a10, a11, a12, a13, a14, a15, ⟨a16, a17⟩, a18⟩ := m
 obtain ⟨b0, b1, b2, b3, b4, b5, ⟨b6, b7, b8, b9⟩, b10, b11, b12, b13, b14, b15, ⟨b16, b17⟩, b18⟩ := n
 by_cases e0 : a0 = b0
 ·subst e0
  by_cases e1 : a1 = b1
  ·subst e1
   by_cases e2 : a2 = b2
   ·subst e2
    by_cases e3 : a3 = b3
    ·subst e3
     by_cases e4 : a4 = b4
     ·subst e4
      by_cases e5 : a5 = b5
      ·subst e5
       by_cases e6 : (⟨a6, a7, a8, a9⟩ : Tk) = ⟨b6, b7, b8, b9⟩
       ·injection e6 with h6 h7 h8 h9
        subst h6 h7 h8 h9
        by_cases e10 : a10 = b10
        ·subst e10
         by_cases e11 : a11 = b11
         ·subst e11
          by_cases e12 : a12 = b12
          ·subst e12
           by_cases e13 : a13 = b13
           ·subst e13
            by_cases e14 : a14 = b14
            ·subst e14
             by_cases e15 : a15 = b15
             ·subst e15
              by_cases e16 : a16 = b16
              ·subst e16
               by_cases e17 : a17 = b17
               ·subst e17
                by_cases e18 : a18 = b18
                ·subst e18
                 obtain rfl := hr.symm.trans (decide_eq_true rfl); exact same_c16 hv hu hB hl ⟨rfl, rfl, rfl, rfl, rfl, rfl, rfl, rfl, rfl, rfl, rfl, rfl, rfl, rfl, rfl, rfl, rfl, rfl, rfl⟩
                ·obtain rfl := hr.symm.trans (decide_eq_false (fun h => e18 (congrArg (M.err) h))); exact same_c15 hv hu hB hl ⟨rfl, rfl, rfl, rfl, rfl, rfl, rfl, rfl, rfl, rfl, rfl, rfl, rfl, rfl, rfl, rfl, rfl, rfl⟩ e18
               ·obtain rfl := hr.symm.trans (decide_eq_false (fun h => e17 (congrArg (fun m => m.res.err) h))); exact same_c14 hv hu hB hl ⟨rfl, rfl, rfl, rfl, rfl, rfl, rfl, rfl, rfl, rfl, rfl, rfl, rfl, rfl, rfl, rfl, rfl⟩ e17
              ·obtain rfl := hr.symm.trans (decide_eq_false (fun h => e16 (congrArg (fun m => m.res.val) h))); exact same_c13 hv hu hB hl ⟨rfl, rfl, rfl, rfl, rfl, rfl, rfl, rfl, rfl, rfl, rfl, rfl, rfl, rfl, rfl, rfl⟩ e16
             ·obtain rfl := hr.symm.trans (decide_eq_false (fun h => e15 (congrArg (M.state) h))); exact same_c12 hv hu hB hl ⟨rfl, rfl, rfl, rfl, rfl, rfl, rfl, rfl, rfl, rfl, rfl, rfl, rfl, rfl, rfl⟩ e15
            ·obtain rfl := hr.symm.trans (decide_eq_false (fun h => e14 (congrArg (M.codes) h))); exact same_c11 hv hu hB hl ⟨rfl, rfl, rfl, rfl, rfl, rfl, rfl, rfl, rfl, rfl, rfl, rfl, rfl, rfl⟩ e14
           ·obtain rfl := hr.symm.trans (decide_eq_false (fun h => e13 (congrArg (M.names) h))); exact same_c10 hv hu hB hl ⟨rfl, rfl, rfl, rfl, rfl, rfl, rfl, rfl, rfl, rfl, rfl, rfl, rfl⟩ e13
          ·obtain rfl := hr.symm.trans (decide_eq_false (fun h => e12 (congrArg (M.epochs) h))); exact same_c9 hv hu hB hl ⟨rfl, rfl, rfl, rfl, rfl, rfl, rfl, rfl, rfl, rfl, rfl, rfl⟩ e12
         ·obtain rfl := hr.symm.trans (decide_eq_false (fun h => e11 (congrArg (M.ents) h))); exact same_c8 hv hu hB hl ⟨rfl, rfl, rfl, rfl, rfl, rfl, rfl, rfl, rfl, rfl, rfl⟩ e11
        ·obtain rfl := hr.symm.trans (decide_eq_false (fun h => e10 (congrArg (M.epoch) h))); exact same_c7 hv hu hB hl ⟨rfl, rfl, rfl, rfl, rfl, rfl, rfl, rfl, rfl, rfl⟩ e10
       ·obtain rfl := hr.symm.trans (decide_eq_false (fun h => e6 (congrArg M.task h))); exact same_c6 hv hu hB hl ⟨rfl, rfl, rfl, rfl, rfl, rfl⟩ e6
      ·obtain rfl := hr.symm.trans (decide_eq_false (fun h => e5 (congrArg (M.fuel) h))); exact same_c5 hv hu hB hl ⟨rfl, rfl, rfl, rfl, rfl⟩ e5
     ·obtain rfl := hr.symm.trans (decide_eq_false (fun h => e4 (congrArg (M.input) h))); exact same_c4 hv hu hB hl ⟨rfl, rfl, rfl, rfl⟩ e4
    ·obtain rfl := hr.symm.trans (decide_eq_false (fun h => e3 (congrArg (M.prog) h))); exact same_c3 hv hu hB hl ⟨rfl, rfl, rfl⟩ e3
   ·obtain rfl := hr.symm.trans (decide_eq_false (fun h => e2 (congrArg (M.tok) h))); exact same_c2 hv hu hB hl ⟨rfl, rfl⟩ e2
  ·obtain rfl := hr.symm.trans (decide_eq_false (fun h => e1 (congrArg (M.job) h))); exact same_c1 hv hu hB hl rfl e1
 ·obtain rfl := hr.symm.trans (decide_eq_false (fun h => e0 (congrArg (M.kind) h))); exact same_c0 hv hu hB hl e0
set_option maxRecDepth 100000 in
theorem rsame_any {m n : M} {W : World} {B : Nat} {v v2 : VS} (hv : MR W B m v) (hu : MR W B n v2) (hB : B ≤ W.heap.size) (hl : Lite m) :
  Calls Tryz.prog 13 #[.agg (mcells m v), .agg (mcells n v2)] W (EqP (decide (m = n)) W) := by
 generalize hr : decide (m = n) = r
 obtain ⟨p1, c1, p2, c2, p3, c3, p4, c4, p5, c5, p6, c6, rfl⟩ := hv.vs
 obtain ⟨q1, d1, q2, d2, q3, d3, q4, d4, q5, d5, q6, d6, rfl⟩ := hu.vs
 obtain ⟨a0, a1, a2, a3, a4, a5, ⟨a6, a7, a8, a9⟩, a10, a11, a12, a13, a14, a15, ⟨a16, a17⟩, a18⟩ := m
 obtain ⟨b0, b1, b2, b3, b4, b5, ⟨b6, b7, b8, b9⟩, b10, b11, b12, b13, b14, b15, ⟨b16, b17⟩, b18⟩ := n
 by_cases e0 : a0 = b0
 ·subst e0
  by_cases e1 : a1 = b1
  ·subst e1
   by_cases e2 : a2 = b2
   ·subst e2
    by_cases e3 : a3 = b3
    ·subst e3
     by_cases e4 : a4 = b4
     ·subst e4
      by_cases e5 : a5 = b5
      ·subst e5
       by_cases e6 : (⟨a6, a7, a8, a9⟩ : Tk) = ⟨b6, b7, b8, b9⟩
       ·injection e6 with h6 h7 h8 h9
        subst h6 h7 h8 h9
        by_cases e10 : a10 = b10
        ·subst e10
         by_cases e11 : a11 = b11
         ·subst e11
          by_cases e12 : a12 = b12
          ·subst e12
           by_cases e13 : a13 = b13
           ·subst e13
            by_cases e14 : a14 = b14
            ·subst e14
             by_cases e15 : a15 = b15
             ·subst e15
              by_cases e16 : a16 = b16
              ·subst e16
               by_cases e17 : a17 = b17
               ·subst e17
                by_cases e18 : a18 = b18
                ·subst e18
                 obtain rfl := hr.symm.trans (decide_eq_true rfl); exact rsame_c16 hv hu hB hl ⟨rfl, rfl, rfl, rfl, rfl, rfl, rfl, rfl, rfl, rfl, rfl, rfl, rfl, rfl, rfl, rfl, rfl, rfl, rfl⟩
                ·obtain rfl := hr.symm.trans (decide_eq_false (fun h => e18 (congrArg (M.err) h))); exact rsame_c15 hv hu hB hl ⟨rfl, rfl, rfl, rfl, rfl, rfl, rfl, rfl, rfl, rfl, rfl, rfl, rfl, rfl, rfl, rfl, rfl, rfl⟩ e18
               ·obtain rfl := hr.symm.trans (decide_eq_false (fun h => e17 (congrArg (fun m => m.res.err) h))); exact rsame_c14 hv hu hB hl ⟨rfl, rfl, rfl, rfl, rfl, rfl, rfl, rfl, rfl, rfl, rfl, rfl, rfl, rfl, rfl, rfl, rfl⟩ e17
              ·obtain rfl := hr.symm.trans (decide_eq_false (fun h => e16 (congrArg (fun m => m.res.val) h))); exact rsame_c13 hv hu hB hl ⟨rfl, rfl, rfl, rfl, rfl, rfl, rfl, rfl, rfl, rfl, rfl, rfl, rfl, rfl, rfl, rfl⟩ e16
             ·obtain rfl := hr.symm.trans (decide_eq_false (fun h => e15 (congrArg (M.state) h))); exact rsame_c12 hv hu hB hl ⟨rfl, rfl, rfl, rfl, rfl, rfl, rfl, rfl, rfl, rfl, rfl, rfl, rfl, rfl, rfl⟩ e15
            ·obtain rfl := hr.symm.trans (decide_eq_false (fun h => e14 (congrArg (M.codes) h))); exact rsame_c11 hv hu hB hl ⟨rfl, rfl, rfl, rfl, rfl, rfl, rfl, rfl, rfl, rfl, rfl, rfl, rfl, rfl⟩ e14
           ·obtain rfl := hr.symm.trans (decide_eq_false (fun h => e13 (congrArg (M.names) h))); exact rsame_c10 hv hu hB hl ⟨rfl, rfl, rfl, rfl, rfl, rfl, rfl, rfl, rfl, rfl, rfl, rfl, rfl⟩ e13
          ·obtain rfl := hr.symm.trans (decide_eq_false (fun h => e12 (congrArg (M.epochs) h))); exact rsame_c9 hv hu hB hl ⟨rfl, rfl, rfl, rfl, rfl, rfl, rfl, rfl, rfl, rfl, rfl, rfl⟩ e12
         ·obtain rfl := hr.symm.trans (decide_eq_false (fun h => e11 (congrArg (M.ents) h))); exact rsame_c8 hv hu hB hl ⟨rfl, rfl, rfl, rfl, rfl, rfl, rfl, rfl, rfl, rfl, rfl⟩ e11
        ·obtain rfl := hr.symm.trans (decide_eq_false (fun h => e10 (congrArg (M.epoch) h))); exact rsame_c7 hv hu hB hl ⟨rfl, rfl, rfl, rfl, rfl, rfl, rfl, rfl, rfl, rfl⟩ e10
       ·obtain rfl := hr.symm.trans (decide_eq_false (fun h => e6 (congrArg M.task h))); exact rsame_c6 hv hu hB hl ⟨rfl, rfl, rfl, rfl, rfl, rfl⟩ e6
      ·obtain rfl := hr.symm.trans (decide_eq_false (fun h => e5 (congrArg (M.fuel) h))); exact rsame_c5 hv hu hB hl ⟨rfl, rfl, rfl, rfl, rfl⟩ e5
     ·obtain rfl := hr.symm.trans (decide_eq_false (fun h => e4 (congrArg (M.input) h))); exact rsame_c4 hv hu hB hl ⟨rfl, rfl, rfl, rfl⟩ e4
    ·obtain rfl := hr.symm.trans (decide_eq_false (fun h => e3 (congrArg (M.prog) h))); exact rsame_c3 hv hu hB hl ⟨rfl, rfl, rfl⟩ e3
   ·obtain rfl := hr.symm.trans (decide_eq_false (fun h => e2 (congrArg (M.tok) h))); exact rsame_c2 hv hu hB hl ⟨rfl, rfl⟩ e2
  ·obtain rfl := hr.symm.trans (decide_eq_false (fun h => e1 (congrArg (M.job) h))); exact rsame_c1 hv hu hB hl rfl e1
 ·obtain rfl := hr.symm.trans (decide_eq_false (fun h => e0 (congrArg (M.kind) h))); exact rsame_c0 hv hu hB hl e0
end Go.Proofs.YtghbjknpffiaiaaGreat
