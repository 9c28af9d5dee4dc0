import Derived.Test.YtlahficmkfgooaaGreatMgp
import Derived.Test.YtlahficmkfgooaaGreatMgk
import Derived.Test.YtlahficmkfgooaaGreatMgo
import Derived.Test.YtlahficmkfgooaaGreatRely4

/- The walks of asks and Submit. No condition but that jobs are. -/
namespace Go.Proofs.YtlahficmkfgooaaGreat
open Go.RowKit Go.Maps Jb
set_option linter.unusedVariables false
set_option linter.unusedSimpArgs false
namespace Reg
section
variable {P : Program} {ops : Array Oper} {I : World → Prop} {a0 : Act} {R : Act → World → Prop} {o : Oper} {rest : List Oper} {K : List (Option Tmp × Spec)} {Gs : List (World → World → Prop)} {Js : List (World → Prop)} {w0 : World}
theorem unwanted_b {a : Act} {j : Nat} {g : Tmp} {b : Bool} (hg : o.guard = some (j, b)) (hd : ((ops[j]?).bind (·.dst)) = some g) (hv : a.tmps.getD g undef = .bool (!b)) : Region.wanted o (yielded ops a.tmps) = false := by
  unfold Region.wanted
  rw [hg]
  simp only [yielded, hd, Option.bind_some]
  rw [Array.getD_eq_getD_getElem?] at hv
  cases h : a.tmps[g]? with
  | none => rw [h] at hv; cases hv
  | some v => rw [h] at hv; simp only [Option.getD_some] at hv; subst hv; cases b <;> rfl
theorem rely_skip (j : Nat) (b : Bool) (g : Tmp) (hg : o.guard = some (j, b)) (hd : ((ops[j]?).bind (·.dst)) = some g) (hgf : ∀ v w, Fact K a0 g v w → v = .bool (!b))
    (hr : Rely P ops I w0 a0 R rest ((o.dst, Is undef) :: K) Gs Js) : Rely P ops I w0 a0 R (o :: rest) K Gs Js :=
  rely_is undef (fun _ w _ hF => .inr ⟨unwanted_b hg hd (hgf _ w (hF g (looksG hg hd))), rfl⟩) hr
end
end Reg
section
variable {w w' w1 : World} {B0 b h t N : Nat} {B : Int → Nat} {V : Int → Value} {s : JS}
set_option maxRecDepth 100000 in
set_option maxHeartbeats 1000000 in
theorem asks_any {g : Nat} {r : JR} {v : Value} (hb : Blk w g 99 (jcells r v).toArray) (hi : IntsAt w v r.inp) (hl : r.inp.length ≤ 100) {prog : ByteArray} {q : Option Addr} {m cq : Nat} {inp : List Int} (hq : IntsAt w (.slice q m cq) inp) (fuel : Int) :
    Calls Tryz.prog 49 #[.pointer (some ⟨g, 0, none⟩), .string prog, .slice q m cq, .int .i64 fuel] w (EqP (decide (r.prog = prog ∧ r.inp = inp ∧ r.fuel = fuel)) w) := by
  have y2 : w.cell? ⟨g, 2, none⟩ = some (.string r.prog) := hb.cell 2
  have y3 : w.cell? ⟨g, 3, none⟩ = some v := hb.cell 3
  have HB := Lib.hid hb
  have HE := Lib.hid (eq_int hi hq (by omega))
  obtain ⟨p, cap, rfl⟩ := hi.slice
  obtain ⟨n, hn⟩ : ∃ n, n = r.inp.length := ⟨_, rfl⟩
  rw [← hn] at HE HB y3
  clear hb hi hl hq hn
  obtain ⟨d, hd⟩ : ∃ d, d = decide (r.prog = prog ∧ r.inp = inp ∧ r.fuel = fuel) := ⟨_, rfl⟩
  rw [← hd]
  by_cases h1 : r.prog = prog
  · have h1' := str_of h1
    by_cases h2 : r.inp = inp
    · rw [decide_eq_true h2] at HE
      by_cases h3 : r.fuel = fuel
      · have h3' : (r.fuel == fuel) = true := by simpa using h3
        have HD : Hid (d = true) := Lib.hid (by rw [hd]; exact decide_eq_true ⟨h1, h2, h3⟩)
        clear hd h1 h2 h3
        go_enter Tryz.func49, Tryz.ntmps49
        go_wp2_with (go_at_call 85; go_loud ((with_reducible refine HE.out.mono ?_); rintro e w1 ⟨rfl, hb1⟩; have HB1 := Lib.hid hb1; have y4 : w1.cell? ⟨g, 4, none⟩ = some (.int .i64 r.fuel) := (HB.out.below hb1).cell 4; clear hb1))
        go_ret
        exact ⟨by rw [HD.out]; rfl, HB1.out⟩
      · have h3' : (r.fuel == fuel) = false := by simpa using h3
        have HD : Hid (d = false) := Lib.hid (by rw [hd]; exact decide_eq_false (fun e => h3 e.2.2))
        clear hd h1 h2 h3
        go_enter Tryz.func49, Tryz.ntmps49
        go_wp2_with (go_at_call 85; go_loud ((with_reducible refine HE.out.mono ?_); rintro e w1 ⟨rfl, hb1⟩; have HB1 := Lib.hid hb1; have y4 : w1.cell? ⟨g, 4, none⟩ = some (.int .i64 r.fuel) := (HB.out.below hb1).cell 4; clear hb1))
        go_ret
        exact ⟨by rw [HD.out]; rfl, HB1.out⟩
    · rw [decide_eq_false h2] at HE
      have HD : Hid (d = false) := Lib.hid (by rw [hd]; exact decide_eq_false (fun e => h2 e.2.1))
      clear hd h1 h2
      go_enter Tryz.func49, Tryz.ntmps49
      go_wp2_with (go_at_call 85; go_loud ((with_reducible refine HE.out.mono ?_); rintro e w1 ⟨rfl, hb1⟩; have HB1 := Lib.hid hb1; clear hb1))
      go_ret
      exact ⟨by rw [HD.out]; rfl, HB1.out⟩
  · have h1' := str_ne h1
    have HD : Hid (d = false) := Lib.hid (by rw [hd]; exact decide_eq_false (fun e => h1 e.1))
    clear hd h1
    go_enter Tryz.func49, Tryz.ntmps49
    go_wp2_with fail
    go_ret
    exact ⟨by rw [HD.out]; rfl, Below.refl _ _⟩
theorem jlen (c : JW w B0 b h t B V s N) : ∀ ty, (Builtin.len_ #[93] ty #[.map (some h)]).run Tryz.prog w = .ok (.int .i64 (s.rows.length : Int)) w := fun ty => by
  obtain ⟨D, o, _, _, o3⟩ := c.mp
  have hl := o.len Tryz.underlying93 ty
  rw [o3] at hl
  unfold keysU at hl
  rw [List.length_map] at hl
  exact hl
def SbI (w0 : World) (B0 b h t : Nat) (B : Int → Nat) (V : Int → Value) (s : JS) (N : Nat) (w : World) : Prop := JW w B0 b h t B V s N ∧ Below w0.heap.size w0 w
theorem IntsAt.belowB {B0 : Nat} {w w' : World} {q : Option Addr} {m cq : Nat} {l : List Int} (h : IntsAt w (.slice q m cq) l) (hq : 0 < l.length → ∀ a, q = some a → a.block < B0) (hb : Below B0 w w') : IntsAt w' (.slice q m cq) l := by
  obtain ⟨p, cap, e, hx⟩ := h
  injection e with e1 e2 e3
  subst e1 e3
  refine ⟨q, cq, by rw [e2], fun hl => ?_⟩
  obtain ⟨g, off, rfl, hg, hc⟩ := hx hl
  have hgB : g < B0 := hq hl _ rfl
  exact ⟨g, off, rfl, Nat.lt_of_lt_of_le hg hb.size, fun i hi => by rw [hb.cell (p := ⟨g, _, none⟩) hgB]; exact hc i hi⟩
/-- Jobs whose last number turns. -/
theorem JW.setLast (c : JW w B0 b h t B V s N) {L : Int} (hv : JInv { s with last := L }) : JW (w.setCell ⟨b, 1, none⟩ (.int .u64 L)) B0 b h t B V { s with last := L } N ∧ OnJ B0 b h t w (w.setCell ⟨b, 1, none⟩ (.int .u64 L)) := by
  have o : Only (· = b) w (w.setCell ⟨b, 1, none⟩ (.int .u64 L)) := (Only.refl (· = b) w).set1
  have hb := c.hb
  refine ⟨⟨c.blk.set 1 _, c.mp.only o (fun e => hb.1 e), c.tk.only o (fun e => hb.2 e), fun r hr => ?_, c.inj, c.ne, c.ge, by rw [setCell_size]; exact c.sz, c.ok, hv⟩, o.mono fun k _ e => .inl e⟩
  obtain ⟨a1, a2, a3⟩ := c.jb r hr
  exact ⟨a1.only o (fun e => by have e' : B r.job = b := e; rw [e'] at a1; exact absurd (blk_ty a1 c.blk) (by decide)), a2, a3.only o (fun g A _ hA e => by have e' : g = b := e; subst e'; exact absurd (blk_ty hA c.blk) (by decide))⟩
def SubP (w : World) (B0 b h t : Nat) (N : Nat) (r : (Int × Int × Int) × JS) (e : Ending) (w' : World) : Prop :=
  e = .returned (.tuple #[.int .u64 r.1.1, .int .u8 r.1.2.1, .int .i64 r.1.2.2]) ∧ ∃ B' V', JW w' B0 b h t B' V' r.2 (N + 1) ∧ OnJ B0 b h t w w'
set_option maxRecDepth 100000 in
set_option maxHeartbeats 4000000 in
theorem submit_any (c : JW w B0 b h t B V s N) {tok prog : ByteArray} {q : Option Addr} {m cq : Nat} {inp : List Int} (hi : IntsAt w (.slice q m cq) inp) (hm : m = inp.length) (hqb : 0 < inp.length → ∀ a, q = some a → a.block < B0) (hl : inp.length ≤ 100) (ht : tok.size ≤ maxLen) (hN : N < maxLen) {fuel : Int} {r : (Int × Int × Int) × JS} (hr : subS s tok prog inp fuel = r) :
    Calls Tryz.prog 15 #[.pointer (some ⟨b, 0, none⟩), .string tok, .string prog, .slice q m cq, .int .i64 fuel] w (SubP w B0 b h t N r) := by
  have HN := Lib.hid (jnone_any c)
  have HTO := Lib.hid (token_any tok w)
  have HR := Lib.hid hr
  have HC := Lib.hid c
  unfold subS at HR
  cases htb : tokB tok with
  | false =>
    rw [htb] at HTO
    rw [if_pos htb] at HR
    clear c hi hl hr htb hm ht hqb
    go_enter Tryz.func15, Tryz.ntmps15
    go_wp2_with (first | (go_at_call 47; go_loud ((with_reducible refine HN.out.mono ?_); rintro e w9 ⟨rfl, hw9⟩; have hw9 := hw9.symm; subst hw9)) | (go_at_call 48; go_loud ((with_reducible refine HTO.out.mono ?_); rintro e w9 ⟨rfl, hw9⟩; have hw9 := hw9.symm; subst hw9)))
    go_ret3
    have := HR.out
    subst this
    exact ⟨rfl, _, _, HC.out.mono (Nat.le_succ _), OnJ.refl _ _ _ _ _⟩
  | true =>
    rw [htb] at HTO
    rw [if_neg (by rw [htb]; decide)] at HR
    have c3 := c.c3
    cases hf : s.rows.find? (fun x => decide (x.tok = tok)) with
    | some x =>
      rw [hf] at HR
      dsimp only at HR
      have hx : x ∈ s.rows := List.mem_of_find?_eq_some hf
      have hxt : x.tok = tok := by have := List.find?_some hf; simpa using this
      have hlk : (Instr.lookup 94 (.map (some t)) (.string tok) true).run Tryz.prog w = .ok (.tuple #[.pointer (some ⟨B x.job, 0, none⟩), .bool true]) w := by have := c.tok_hit hx; rw [hxt] at this; exact this
      obtain ⟨j1, j2, j3⟩ := c.jb x hx
      have HAS := Lib.hid (asks_any (prog := prog) j1 (IRow.at j3) (c.ok x hx).2 hi fuel)
      have HJ := Lib.hid j1
      obtain ⟨d, hd⟩ : ∃ d, d = decide (x.prog = prog ∧ x.inp = inp ∧ x.fuel = fuel) := ⟨_, rfl⟩
      rw [← hd] at HAS
      have HD := Lib.hid hd
      clear c hi hl hr htb hm ht hqb hf hx hxt j1 j2 j3 hd
      generalize B x.job = g at *
      cases d with
      | true =>
        rw [if_pos (of_decide_eq_true HD.out.symm)] at HR
        go_enter Tryz.func15, Tryz.ntmps15
        go_upto_region 9 with (first | (go_at_call 47; go_loud ((with_reducible refine HN.out.mono ?_); rintro e w9 ⟨rfl, hw9⟩; have hw9 := hw9.symm; subst hw9)) | (go_at_call 48; go_loud ((with_reducible refine HTO.out.mono ?_); rintro e w9 ⟨rfl, hw9⟩; have hw9 := hw9.symm; subst hw9)) | (go_at_call 49; go_loud ((with_reducible refine HAS.out.mono ?_); rintro e w1 ⟨rfl, hb1⟩; have HB1 := Lib.hid hb1; have y0 : w1.cell? ⟨g, 0, none⟩ = some (.int .u64 x.job) := (HJ.out.below hb1).cell 0; have y5 : w1.cell? ⟨g, 5, none⟩ = some (.int .u8 x.st) := (HJ.out.below hb1).cell 5; clear hb1 c3 hlk)))
        go_region
        all_goals (go_wp2_with fail)
        all_goals go_ret3
        all_goals (have := HR.out)
        all_goals subst this
        all_goals exact ⟨rfl, _, _, ((HC.out.below HB1.out).drew).mono (Nat.le_succ _), (OnJ.of_below HB1.out).step (Below.refl _ _).drew⟩
      | false =>
        rw [if_neg (of_decide_eq_false HD.out.symm)] at HR
        go_enter Tryz.func15, Tryz.ntmps15
        go_wp2_with (first | (go_at_call 47; go_loud ((with_reducible refine HN.out.mono ?_); rintro e w9 ⟨rfl, hw9⟩; have hw9 := hw9.symm; subst hw9)) | (go_at_call 48; go_loud ((with_reducible refine HTO.out.mono ?_); rintro e w9 ⟨rfl, hw9⟩; have hw9 := hw9.symm; subst hw9)) | (go_at_call 49; go_loud ((with_reducible refine HAS.out.mono ?_); rintro e w1 ⟨rfl, hb1⟩; have HB1 := Lib.hid hb1; clear hb1 c3 hlk)))
        go_ret3
        have := HR.out
        subst this
        exact ⟨rfl, _, _, (HC.out.below HB1.out).mono (Nat.le_succ _), OnJ.of_below HB1.out⟩
    | none =>
      rw [hf] at HR
      dsimp only at HR
      have hlk := c.tok_miss ht hf
      have HAK := Lib.hid (asked_any prog q m cq fuel w)
      rw [hm] at HAK
      rw [← hm] at HAK
      have HI := Lib.hid (And.intro hi (And.intro hm (And.intro hl (And.intro hN hqb))))
      have HF := Lib.hid hf
      have HTB := Lib.hid htb
      obtain ⟨k, hk⟩ : ∃ k, k = askE prog inp.length fuel := ⟨_, rfl⟩
      rw [hm, ← hk] at HAK
      rw [← hk] at HR
      rw [← hm] at HAK
      have HKE := Lib.hid hk
      clear c hi hl hr htb ht hqb hf hk hm
      by_cases h0 : k = 0
      · subst h0
        rw [if_neg (by decide)] at HR
        go_enter Tryz.func15, Tryz.ntmps15
        go_upto_region 13 with (first | (go_at_call 47; go_loud ((with_reducible refine HN.out.mono ?_); rintro e w9 ⟨rfl, hw9⟩; have hw9 := hw9.symm; subst hw9)) | (go_at_call 48; go_loud ((with_reducible refine HTO.out.mono ?_); rintro e w9 ⟨rfl, hw9⟩; have hw9 := hw9.symm; subst hw9)) | (go_at_call 50; go_loud ((with_reducible refine HAK.out.mono ?_); rintro e w4 ⟨rfl, hb1⟩; have HB1 := Lib.hid hb1; clear hb1 c3 hlk)))
        have HC4 := Lib.hid (HC.out.below HB1.out)
        obtain ⟨K, hK⟩ : ∃ K, K = (pendL s.rows).length := ⟨_, rfl⟩
        have HK := Lib.hid hK.symm
        by_cases ha : s.most ≤ (K : Int)
        · have HA := Lib.hid ha
          have HB4 : Hid True := Lib.hid trivial
          have HL4 : Hid True := Lib.hid trivial
          have HFU : Hid (fullB s = true) := Lib.hid (by unfold fullB; rw [← hK, decide_eq_true ha, Bool.true_or])
          clear hK ha
          -- region 13.1
          refine Reg.wp_rely 23 (SbI w4 B0 b h t B V s N) (by kernel_rfl) (Reg.relyOk_of (by kernel_rfl)) ⟨HC4.out.drew, (Below.refl _ w4).drew⟩ (fun w w' h hI => ⟨hI.1.below h, hI.2.trans (h.mono hI.2.size)⟩) ?_
          refine Reg.rely_plain (.pointer (some ⟨b, 0, none⟩)) rfl (fun a w hI hF => by
              have f1 : a.tmps.getD 0 undef = .pointer (some ⟨b, 0, none⟩) := hF 0 (Reg.looksB (by kernel_rfl))
              clear hF hI
              simp only [Array.getD_eq_getD_getElem?] at f1
              simp only [execOp]; go_simp) ?_
          refine Reg.rely_call0 (fun v w => ∃ p c, v = .slice p K c) (fun v w w' h hS => hS) (fun G hG => by cases hG) rfl (fun a w hI hF => by
              have f1 : a.tmps.getD 56 undef = .pointer (some ⟨b, 0, none⟩) := hF 56 (Reg.looksB (by kernel_rfl))
              refine ⟨19, #[.pointer (some ⟨b, 0, none⟩)], ?_, (pending_any hI.1).mono fun e w' h => by
                obtain ⟨v, h1, h2, h3⟩ := h
                obtain ⟨p, c, rfl⟩ := owns_slice h2
                rw [HK.out] at h1
                exact ⟨_, h1, ⟨p, c, rfl⟩, h3⟩⟩
              clear hF hI
              simp only [Array.getD_eq_getD_getElem?] at f1
              simp only [execOp]; go_simp) ?_
          refine Reg.rely_plain (.int .i64 K) rfl (fun a w hI hF => by
              have f1 : ∃ p c, a.tmps.getD 57 undef = .slice p K c := hF 57 (Reg.looksB (by kernel_rfl))
              obtain ⟨p, c, f1⟩ := f1
              clear hF hI
              simp only [Array.getD_eq_getD_getElem?] at f1
              simp only [execOp]; go_simp) ?_
          refine Reg.rely_plain (.pointer (some ⟨b, 0, none⟩)) rfl (fun a w hI hF => by
              have f1 : a.tmps.getD 0 undef = .pointer (some ⟨b, 0, none⟩) := hF 0 (Reg.looksB (by kernel_rfl))
              clear hF hI
              simp only [Array.getD_eq_getD_getElem?] at f1
              simp only [execOp]; go_simp) ?_
          refine Reg.rely_plain (.pointer (some ⟨b, 0, none⟩)) rfl (fun a w hI hF => by
              have f1 : a.tmps.getD 59 undef = .pointer (some ⟨b, 0, none⟩) := hF 59 (Reg.looksB (by kernel_rfl))
              clear hF hI
              simp only [Array.getD_eq_getD_getElem?] at f1
              simp only [execOp]; go_simp) ?_
          refine Reg.rely_plain (.pointer (some ⟨b, 0, none⟩)) rfl (fun a w hI hF => by
              have f1 : a.tmps.getD 60 undef = .pointer (some ⟨b, 0, none⟩) := hF 60 (Reg.looksB (by kernel_rfl))
              clear hF hI
              simp only [Array.getD_eq_getD_getElem?] at f1
              simp only [execOp]; go_simp) ?_
          refine Reg.rely_plain (.int .i64 s.most) rfl (fun a w hI hF => by
              have f1 : a.tmps.getD 61 undef = .pointer (some ⟨b, 0, none⟩) := hF 61 (Reg.looksB (by kernel_rfl))
              have hc : w.cell? ⟨b, 0, none⟩ = some (.int .i64 s.most) := hI.1.c0
              clear hF hI
              simp only [Array.getD_eq_getD_getElem?] at f1
              simp only [execOp]; go_simp) ?_
          refine Reg.rely_plain (.bool true) rfl (fun a w hI hF => by
              have f1 : a.tmps.getD 58 undef = .int .i64 K := hF 58 (Reg.looksB (by kernel_rfl))
              have f2 : a.tmps.getD 62 undef = .int .i64 s.most := hF 62 (Reg.looksB (by kernel_rfl))
              have hz := HA.out
              clear hF hI
              simp only [Array.getD_eq_getD_getElem?] at f1 f2
              simp only [execOp]; go_simp) ?_
          refine Reg.rely_plain (.bool true) rfl (fun a w hI hF => by
              have f1 : a.tmps.getD 63 undef = .bool true := hF 63 (Reg.looksB (by kernel_rfl))
              clear hF hI
              simp only [Array.getD_eq_getD_getElem?] at f1
              simp only [execOp]; go_simp) ?_
          refine Reg.rely_skip 8 false 64 rfl rfl (fun v w h => h) ?_
          refine Reg.rely_skip 8 false 64 rfl rfl (fun v w h => h) ?_
          refine Reg.rely_skip 8 false 64 rfl rfl (fun v w h => h) ?_
          refine Reg.rely_skip 8 false 64 rfl rfl (fun v w h => h) ?_
          refine Reg.rely_skip 8 false 64 rfl rfl (fun v w h => h) ?_
          refine Reg.rely_skip 8 false 64 rfl rfl (fun v w h => h) ?_
          refine Reg.rely_plain (.bool true) rfl (fun a w hI hF => by
              have f1 : a.tmps.getD 64 undef = .bool true := hF 64 (Reg.looksB (by kernel_rfl))
              have f2 : a.tmps.getD 70 undef = undef := hF 70 (Reg.looksB (by kernel_rfl))
              clear hF hI
              simp only [Array.getD_eq_getD_getElem?] at f1 f2
              simp only [execOp]; go_simp) ?_
          refine Reg.rely_plain (.bool true) rfl (fun a w hI hF => by
              have f1 : a.tmps.getD 71 undef = .bool true := hF 71 (Reg.looksB (by kernel_rfl))
              clear hF hI
              simp only [Array.getD_eq_getD_getElem?] at f1
              simp only [execOp]; go_simp) ?_
          refine Reg.rely_skip 16 false 72 rfl rfl (fun v w h => h) ?_
          refine Reg.rely_skip 16 false 72 rfl rfl (fun v w h => h) ?_
          refine Reg.rely_skip 16 false 72 rfl rfl (fun v w h => h) ?_
          refine Reg.rely_skip 16 false 72 rfl rfl (fun v w h => h) ?_
          refine Reg.rely_skip 16 false 72 rfl rfl (fun v w h => h) ?_
          refine Reg.rely_plain (.bool true) rfl (fun a w hI hF => by
              have f1 : a.tmps.getD 72 undef = .bool true := hF 72 (Reg.looksB (by kernel_rfl))
              have f2 : a.tmps.getD 77 undef = undef := hF 77 (Reg.looksB (by kernel_rfl))
              clear hF hI
              simp only [Array.getD_eq_getD_getElem?] at f1 f2
              simp only [execOp]; go_simp) ?_
          refine Reg.rely_nil ?_
          refine Reg.final_is ?_
          refine Reg.final_is ?_
          refine Reg.final_is ?_
          refine Reg.final_is ?_
          refine Reg.final_is ?_
          refine Reg.final_is ?_
          refine Reg.final_is ?_
          refine Reg.final_is ?_
          refine Reg.final_is ?_
          refine Reg.final_is ?_
          refine Reg.final_is ?_
          refine Reg.final_is ?_
          refine Reg.final_is ?_
          refine Reg.final_is ?_
          refine Reg.final_is ?_
          refine Reg.final_is ?_
          refine Reg.final_is ?_
          refine Reg.final_is ?_
          refine Reg.final_is ?_
          refine Reg.final_is ?_
          refine Reg.final_is ?_
          refine Reg.final_rel (fun v57 => ?_)
          refine Reg.final_is ?_
          refine Reg.final_nil (fun w9 hF => ?_)
          -- region 13.1 ends
          have HJ := Lib.hid hF.1
          clear hF HA HB4 HL4
          simp only [List.drop_succ_cons, List.drop_zero]
          go_simp
          (try go_wp2_with fail)
          refine Reg.fin (by kernel_rfl) ?_
          go_wp2_with fail
          go_ret3
          have := HR.out
          rw [if_pos HFU.out] at this
          subst this
          exact ⟨rfl, _, _, HJ.out.1.mono (Nat.le_succ _), OnJ.of_below (HB1.out.trans (HJ.out.2.mono HB1.out.size))⟩
        · by_cases hb : 256 ≤ s.rows.length
          · have HA := Lib.hid ha
            have HB4 : Hid ((256 : Int) ≤ (s.rows.length : Int)) := Lib.hid (by omega)
            have HL4 : Hid True := Lib.hid trivial
            have HFU : Hid (fullB s = true) := Lib.hid (by unfold fullB; rw [decide_eq_true hb, Bool.true_or, Bool.or_true])
            clear hK ha hb
            -- region 13.2
            refine Reg.wp_rely 23 (SbI w4 B0 b h t B V s N) (by kernel_rfl) (Reg.relyOk_of (by kernel_rfl)) ⟨HC4.out.drew, (Below.refl _ w4).drew⟩ (fun w w' h hI => ⟨hI.1.below h, hI.2.trans (h.mono hI.2.size)⟩) ?_
            refine Reg.rely_plain (.pointer (some ⟨b, 0, none⟩)) rfl (fun a w hI hF => by
                have f1 : a.tmps.getD 0 undef = .pointer (some ⟨b, 0, none⟩) := hF 0 (Reg.looksB (by kernel_rfl))
                clear hF hI
                simp only [Array.getD_eq_getD_getElem?] at f1
                simp only [execOp]; go_simp) ?_
            refine Reg.rely_call0 (fun v w => ∃ p c, v = .slice p K c) (fun v w w' h hS => hS) (fun G hG => by cases hG) rfl (fun a w hI hF => by
                have f1 : a.tmps.getD 56 undef = .pointer (some ⟨b, 0, none⟩) := hF 56 (Reg.looksB (by kernel_rfl))
                refine ⟨19, #[.pointer (some ⟨b, 0, none⟩)], ?_, (pending_any hI.1).mono fun e w' h => by
                  obtain ⟨v, h1, h2, h3⟩ := h
                  obtain ⟨p, c, rfl⟩ := owns_slice h2
                  rw [HK.out] at h1
                  exact ⟨_, h1, ⟨p, c, rfl⟩, h3⟩⟩
                clear hF hI
                simp only [Array.getD_eq_getD_getElem?] at f1
                simp only [execOp]; go_simp) ?_
            refine Reg.rely_plain (.int .i64 K) rfl (fun a w hI hF => by
                have f1 : ∃ p c, a.tmps.getD 57 undef = .slice p K c := hF 57 (Reg.looksB (by kernel_rfl))
                obtain ⟨p, c, f1⟩ := f1
                clear hF hI
                simp only [Array.getD_eq_getD_getElem?] at f1
                simp only [execOp]; go_simp) ?_
            refine Reg.rely_plain (.pointer (some ⟨b, 0, none⟩)) rfl (fun a w hI hF => by
                have f1 : a.tmps.getD 0 undef = .pointer (some ⟨b, 0, none⟩) := hF 0 (Reg.looksB (by kernel_rfl))
                clear hF hI
                simp only [Array.getD_eq_getD_getElem?] at f1
                simp only [execOp]; go_simp) ?_
            refine Reg.rely_plain (.pointer (some ⟨b, 0, none⟩)) rfl (fun a w hI hF => by
                have f1 : a.tmps.getD 59 undef = .pointer (some ⟨b, 0, none⟩) := hF 59 (Reg.looksB (by kernel_rfl))
                clear hF hI
                simp only [Array.getD_eq_getD_getElem?] at f1
                simp only [execOp]; go_simp) ?_
            refine Reg.rely_plain (.pointer (some ⟨b, 0, none⟩)) rfl (fun a w hI hF => by
                have f1 : a.tmps.getD 60 undef = .pointer (some ⟨b, 0, none⟩) := hF 60 (Reg.looksB (by kernel_rfl))
                clear hF hI
                simp only [Array.getD_eq_getD_getElem?] at f1
                simp only [execOp]; go_simp) ?_
            refine Reg.rely_plain (.int .i64 s.most) rfl (fun a w hI hF => by
                have f1 : a.tmps.getD 61 undef = .pointer (some ⟨b, 0, none⟩) := hF 61 (Reg.looksB (by kernel_rfl))
                have hc : w.cell? ⟨b, 0, none⟩ = some (.int .i64 s.most) := hI.1.c0
                clear hF hI
                simp only [Array.getD_eq_getD_getElem?] at f1
                simp only [execOp]; go_simp) ?_
            refine Reg.rely_plain (.bool false) rfl (fun a w hI hF => by
                have f1 : a.tmps.getD 58 undef = .int .i64 K := hF 58 (Reg.looksB (by kernel_rfl))
                have f2 : a.tmps.getD 62 undef = .int .i64 s.most := hF 62 (Reg.looksB (by kernel_rfl))
                have hz := HA.out
                clear hF hI
                simp only [Array.getD_eq_getD_getElem?] at f1 f2
                simp only [execOp]; go_simp) ?_
            refine Reg.rely_plain (.bool false) rfl (fun a w hI hF => by
                have f1 : a.tmps.getD 63 undef = .bool false := hF 63 (Reg.looksB (by kernel_rfl))
                clear hF hI
                simp only [Array.getD_eq_getD_getElem?] at f1
                simp only [execOp]; go_simp) ?_
            refine Reg.rely_isb (.pointer (some ⟨b, 0, none⟩)) 8 false 64 rfl rfl (fun v w h => h) (fun a w hI hF => by
                have f1 : a.tmps.getD 0 undef = .pointer (some ⟨b, 0, none⟩) := hF 0 (Reg.looksB (by kernel_rfl))
                clear hF hI
                simp only [Array.getD_eq_getD_getElem?] at f1
                simp only [execOp]; go_simp) ?_
            refine Reg.rely_isb (.pointer (some ⟨b, 0, none⟩)) 8 false 64 rfl rfl (fun v w h => h) (fun a w hI hF => by
                have f1 : a.tmps.getD 65 undef = .pointer (some ⟨b, 0, none⟩) := hF 65 (Reg.looksB (by kernel_rfl))
                clear hF hI
                simp only [Array.getD_eq_getD_getElem?] at f1
                simp only [execOp]; go_simp) ?_
            refine Reg.rely_isb (.pointer (some ⟨b, 2, none⟩)) 8 false 64 rfl rfl (fun v w h => h) (fun a w hI hF => by
                have f1 : a.tmps.getD 66 undef = .pointer (some ⟨b, 0, none⟩) := hF 66 (Reg.looksB (by kernel_rfl))
                clear hF hI
                simp only [Array.getD_eq_getD_getElem?] at f1
                simp only [execOp]; go_simp) ?_
            refine Reg.rely_isb (.map (some h)) 8 false 64 rfl rfl (fun v w h => h) (fun a w hI hF => by
                have f1 : a.tmps.getD 67 undef = .pointer (some ⟨b, 2, none⟩) := hF 67 (Reg.looksB (by kernel_rfl))
                have hc : w.cell? ⟨b, 2, none⟩ = some (.map (some h)) := hI.1.c2
                clear hF hI
                simp only [Array.getD_eq_getD_getElem?] at f1
                simp only [execOp]; go_simp) ?_
            refine Reg.rely_isb (.int .i64 (s.rows.length : Int)) 8 false 64 rfl rfl (fun v w h => h) (fun a w hI hF => by
                have f1 : a.tmps.getD 68 undef = .map (some h) := hF 68 (Reg.looksB (by kernel_rfl))
                have hl := jlen hI.1
                clear hF hI
                simp only [Array.getD_eq_getD_getElem?] at f1
                simp only [execOp]; go_simp) ?_
            refine Reg.rely_isb (.bool true) 8 false 64 rfl rfl (fun v w h => h) (fun a w hI hF => by
                have f1 : a.tmps.getD 69 undef = .int .i64 (s.rows.length : Int) := hF 69 (Reg.looksB (by kernel_rfl))
                have hz := HB4.out
                clear hF hI
                simp only [Array.getD_eq_getD_getElem?] at f1
                simp only [execOp]; go_simp) ?_
            refine Reg.rely_plain (.bool true) rfl (fun a w hI hF => by
                have f1 : a.tmps.getD 64 undef = .bool false := hF 64 (Reg.looksB (by kernel_rfl))
                have f2 : a.tmps.getD 70 undef = .bool true := hF 70 (Reg.looksB (by kernel_rfl))
                clear hF hI
                simp only [Array.getD_eq_getD_getElem?] at f1 f2
                simp only [execOp]; go_simp) ?_
            refine Reg.rely_plain (.bool true) rfl (fun a w hI hF => by
                have f1 : a.tmps.getD 71 undef = .bool true := hF 71 (Reg.looksB (by kernel_rfl))
                clear hF hI
                simp only [Array.getD_eq_getD_getElem?] at f1
                simp only [execOp]; go_simp) ?_
            refine Reg.rely_skip 16 false 72 rfl rfl (fun v w h => h) ?_
            refine Reg.rely_skip 16 false 72 rfl rfl (fun v w h => h) ?_
            refine Reg.rely_skip 16 false 72 rfl rfl (fun v w h => h) ?_
            refine Reg.rely_skip 16 false 72 rfl rfl (fun v w h => h) ?_
            refine Reg.rely_skip 16 false 72 rfl rfl (fun v w h => h) ?_
            refine Reg.rely_plain (.bool true) rfl (fun a w hI hF => by
                have f1 : a.tmps.getD 72 undef = .bool true := hF 72 (Reg.looksB (by kernel_rfl))
                have f2 : a.tmps.getD 77 undef = undef := hF 77 (Reg.looksB (by kernel_rfl))
                clear hF hI
                simp only [Array.getD_eq_getD_getElem?] at f1 f2
                simp only [execOp]; go_simp) ?_
            refine Reg.rely_nil ?_
            refine Reg.final_is ?_
            refine Reg.final_is ?_
            refine Reg.final_is ?_
            refine Reg.final_is ?_
            refine Reg.final_is ?_
            refine Reg.final_is ?_
            refine Reg.final_is ?_
            refine Reg.final_is ?_
            refine Reg.final_is ?_
            refine Reg.final_is ?_
            refine Reg.final_is ?_
            refine Reg.final_is ?_
            refine Reg.final_is ?_
            refine Reg.final_is ?_
            refine Reg.final_is ?_
            refine Reg.final_is ?_
            refine Reg.final_is ?_
            refine Reg.final_is ?_
            refine Reg.final_is ?_
            refine Reg.final_is ?_
            refine Reg.final_is ?_
            refine Reg.final_rel (fun v57 => ?_)
            refine Reg.final_is ?_
            refine Reg.final_nil (fun w9 hF => ?_)
            -- region 13.2 ends
            have HJ := Lib.hid hF.1
            clear hF HA HB4 HL4
            simp only [List.drop_succ_cons, List.drop_zero]
            go_simp
            (try go_wp2_with fail)
            refine Reg.fin (by kernel_rfl) ?_
            go_wp2_with fail
            go_ret3
            have := HR.out
            rw [if_pos HFU.out] at this
            subst this
            exact ⟨rfl, _, _, HJ.out.1.mono (Nat.le_succ _), OnJ.of_below (HB1.out.trans (HJ.out.2.mono HB1.out.size))⟩
          · by_cases hl4 : 281474976710656 ≤ s.last
            · have HA := Lib.hid ha
              have HB4 : Hid (¬ (256 : Int) ≤ (s.rows.length : Int)) := Lib.hid (by omega)
              have HL4 := Lib.hid hl4
              have HFU : Hid (fullB s = true) := Lib.hid (by unfold fullB; rw [decide_eq_true hl4, Bool.or_true, Bool.or_true])
              clear hK ha hb hl4
              -- region 13.3
              refine Reg.wp_rely 23 (SbI w4 B0 b h t B V s N) (by kernel_rfl) (Reg.relyOk_of (by kernel_rfl)) ⟨HC4.out.drew, (Below.refl _ w4).drew⟩ (fun w w' h hI => ⟨hI.1.below h, hI.2.trans (h.mono hI.2.size)⟩) ?_
              refine Reg.rely_plain (.pointer (some ⟨b, 0, none⟩)) rfl (fun a w hI hF => by
                  have f1 : a.tmps.getD 0 undef = .pointer (some ⟨b, 0, none⟩) := hF 0 (Reg.looksB (by kernel_rfl))
                  clear hF hI
                  simp only [Array.getD_eq_getD_getElem?] at f1
                  simp only [execOp]; go_simp) ?_
              refine Reg.rely_call0 (fun v w => ∃ p c, v = .slice p K c) (fun v w w' h hS => hS) (fun G hG => by cases hG) rfl (fun a w hI hF => by
                  have f1 : a.tmps.getD 56 undef = .pointer (some ⟨b, 0, none⟩) := hF 56 (Reg.looksB (by kernel_rfl))
                  refine ⟨19, #[.pointer (some ⟨b, 0, none⟩)], ?_, (pending_any hI.1).mono fun e w' h => by
                    obtain ⟨v, h1, h2, h3⟩ := h
                    obtain ⟨p, c, rfl⟩ := owns_slice h2
                    rw [HK.out] at h1
                    exact ⟨_, h1, ⟨p, c, rfl⟩, h3⟩⟩
                  clear hF hI
                  simp only [Array.getD_eq_getD_getElem?] at f1
                  simp only [execOp]; go_simp) ?_
              refine Reg.rely_plain (.int .i64 K) rfl (fun a w hI hF => by
                  have f1 : ∃ p c, a.tmps.getD 57 undef = .slice p K c := hF 57 (Reg.looksB (by kernel_rfl))
                  obtain ⟨p, c, f1⟩ := f1
                  clear hF hI
                  simp only [Array.getD_eq_getD_getElem?] at f1
                  simp only [execOp]; go_simp) ?_
              refine Reg.rely_plain (.pointer (some ⟨b, 0, none⟩)) rfl (fun a w hI hF => by
                  have f1 : a.tmps.getD 0 undef = .pointer (some ⟨b, 0, none⟩) := hF 0 (Reg.looksB (by kernel_rfl))
                  clear hF hI
                  simp only [Array.getD_eq_getD_getElem?] at f1
                  simp only [execOp]; go_simp) ?_
              refine Reg.rely_plain (.pointer (some ⟨b, 0, none⟩)) rfl (fun a w hI hF => by
                  have f1 : a.tmps.getD 59 undef = .pointer (some ⟨b, 0, none⟩) := hF 59 (Reg.looksB (by kernel_rfl))
                  clear hF hI
                  simp only [Array.getD_eq_getD_getElem?] at f1
                  simp only [execOp]; go_simp) ?_
              refine Reg.rely_plain (.pointer (some ⟨b, 0, none⟩)) rfl (fun a w hI hF => by
                  have f1 : a.tmps.getD 60 undef = .pointer (some ⟨b, 0, none⟩) := hF 60 (Reg.looksB (by kernel_rfl))
                  clear hF hI
                  simp only [Array.getD_eq_getD_getElem?] at f1
                  simp only [execOp]; go_simp) ?_
              refine Reg.rely_plain (.int .i64 s.most) rfl (fun a w hI hF => by
                  have f1 : a.tmps.getD 61 undef = .pointer (some ⟨b, 0, none⟩) := hF 61 (Reg.looksB (by kernel_rfl))
                  have hc : w.cell? ⟨b, 0, none⟩ = some (.int .i64 s.most) := hI.1.c0
                  clear hF hI
                  simp only [Array.getD_eq_getD_getElem?] at f1
                  simp only [execOp]; go_simp) ?_
              refine Reg.rely_plain (.bool false) rfl (fun a w hI hF => by
                  have f1 : a.tmps.getD 58 undef = .int .i64 K := hF 58 (Reg.looksB (by kernel_rfl))
                  have f2 : a.tmps.getD 62 undef = .int .i64 s.most := hF 62 (Reg.looksB (by kernel_rfl))
                  have hz := HA.out
                  clear hF hI
                  simp only [Array.getD_eq_getD_getElem?] at f1 f2
                  simp only [execOp]; go_simp) ?_
              refine Reg.rely_plain (.bool false) rfl (fun a w hI hF => by
                  have f1 : a.tmps.getD 63 undef = .bool false := hF 63 (Reg.looksB (by kernel_rfl))
                  clear hF hI
                  simp only [Array.getD_eq_getD_getElem?] at f1
                  simp only [execOp]; go_simp) ?_
              refine Reg.rely_isb (.pointer (some ⟨b, 0, none⟩)) 8 false 64 rfl rfl (fun v w h => h) (fun a w hI hF => by
                  have f1 : a.tmps.getD 0 undef = .pointer (some ⟨b, 0, none⟩) := hF 0 (Reg.looksB (by kernel_rfl))
                  clear hF hI
                  simp only [Array.getD_eq_getD_getElem?] at f1
                  simp only [execOp]; go_simp) ?_
              refine Reg.rely_isb (.pointer (some ⟨b, 0, none⟩)) 8 false 64 rfl rfl (fun v w h => h) (fun a w hI hF => by
                  have f1 : a.tmps.getD 65 undef = .pointer (some ⟨b, 0, none⟩) := hF 65 (Reg.looksB (by kernel_rfl))
                  clear hF hI
                  simp only [Array.getD_eq_getD_getElem?] at f1
                  simp only [execOp]; go_simp) ?_
              refine Reg.rely_isb (.pointer (some ⟨b, 2, none⟩)) 8 false 64 rfl rfl (fun v w h => h) (fun a w hI hF => by
                  have f1 : a.tmps.getD 66 undef = .pointer (some ⟨b, 0, none⟩) := hF 66 (Reg.looksB (by kernel_rfl))
                  clear hF hI
                  simp only [Array.getD_eq_getD_getElem?] at f1
                  simp only [execOp]; go_simp) ?_
              refine Reg.rely_isb (.map (some h)) 8 false 64 rfl rfl (fun v w h => h) (fun a w hI hF => by
                  have f1 : a.tmps.getD 67 undef = .pointer (some ⟨b, 2, none⟩) := hF 67 (Reg.looksB (by kernel_rfl))
                  have hc : w.cell? ⟨b, 2, none⟩ = some (.map (some h)) := hI.1.c2
                  clear hF hI
                  simp only [Array.getD_eq_getD_getElem?] at f1
                  simp only [execOp]; go_simp) ?_
              refine Reg.rely_isb (.int .i64 (s.rows.length : Int)) 8 false 64 rfl rfl (fun v w h => h) (fun a w hI hF => by
                  have f1 : a.tmps.getD 68 undef = .map (some h) := hF 68 (Reg.looksB (by kernel_rfl))
                  have hl := jlen hI.1
                  clear hF hI
                  simp only [Array.getD_eq_getD_getElem?] at f1
                  simp only [execOp]; go_simp) ?_
              refine Reg.rely_isb (.bool false) 8 false 64 rfl rfl (fun v w h => h) (fun a w hI hF => by
                  have f1 : a.tmps.getD 69 undef = .int .i64 (s.rows.length : Int) := hF 69 (Reg.looksB (by kernel_rfl))
                  have hz := HB4.out
                  clear hF hI
                  simp only [Array.getD_eq_getD_getElem?] at f1
                  simp only [execOp]; go_simp) ?_
              refine Reg.rely_plain (.bool false) rfl (fun a w hI hF => by
                  have f1 : a.tmps.getD 64 undef = .bool false := hF 64 (Reg.looksB (by kernel_rfl))
                  have f2 : a.tmps.getD 70 undef = .bool false := hF 70 (Reg.looksB (by kernel_rfl))
                  clear hF hI
                  simp only [Array.getD_eq_getD_getElem?] at f1 f2
                  simp only [execOp]; go_simp) ?_
              refine Reg.rely_plain (.bool false) rfl (fun a w hI hF => by
                  have f1 : a.tmps.getD 71 undef = .bool false := hF 71 (Reg.looksB (by kernel_rfl))
                  clear hF hI
                  simp only [Array.getD_eq_getD_getElem?] at f1
                  simp only [execOp]; go_simp) ?_
              refine Reg.rely_isb (.pointer (some ⟨b, 0, none⟩)) 16 false 72 rfl rfl (fun v w h => h) (fun a w hI hF => by
                  have f1 : a.tmps.getD 0 undef = .pointer (some ⟨b, 0, none⟩) := hF 0 (Reg.looksB (by kernel_rfl))
                  clear hF hI
                  simp only [Array.getD_eq_getD_getElem?] at f1
                  simp only [execOp]; go_simp) ?_
              refine Reg.rely_isb (.pointer (some ⟨b, 0, none⟩)) 16 false 72 rfl rfl (fun v w h => h) (fun a w hI hF => by
                  have f1 : a.tmps.getD 73 undef = .pointer (some ⟨b, 0, none⟩) := hF 73 (Reg.looksB (by kernel_rfl))
                  clear hF hI
                  simp only [Array.getD_eq_getD_getElem?] at f1
                  simp only [execOp]; go_simp) ?_
              refine Reg.rely_isb (.pointer (some ⟨b, 1, none⟩)) 16 false 72 rfl rfl (fun v w h => h) (fun a w hI hF => by
                  have f1 : a.tmps.getD 74 undef = .pointer (some ⟨b, 0, none⟩) := hF 74 (Reg.looksB (by kernel_rfl))
                  clear hF hI
                  simp only [Array.getD_eq_getD_getElem?] at f1
                  simp only [execOp]; go_simp) ?_
              refine Reg.rely_isb (.int .u64 s.last) 16 false 72 rfl rfl (fun v w h => h) (fun a w hI hF => by
                  have f1 : a.tmps.getD 75 undef = .pointer (some ⟨b, 1, none⟩) := hF 75 (Reg.looksB (by kernel_rfl))
                  have hc : w.cell? ⟨b, 1, none⟩ = some (.int .u64 s.last) := hI.1.c1
                  clear hF hI
                  simp only [Array.getD_eq_getD_getElem?] at f1
                  simp only [execOp]; go_simp) ?_
              refine Reg.rely_isb (.bool true) 16 false 72 rfl rfl (fun v w h => h) (fun a w hI hF => by
                  have f1 : a.tmps.getD 76 undef = .int .u64 s.last := hF 76 (Reg.looksB (by kernel_rfl))
                  have hz := HL4.out
                  clear hF hI
                  simp only [Array.getD_eq_getD_getElem?] at f1
                  simp only [execOp]; go_simp) ?_
              refine Reg.rely_plain (.bool true) rfl (fun a w hI hF => by
                  have f1 : a.tmps.getD 72 undef = .bool false := hF 72 (Reg.looksB (by kernel_rfl))
                  have f2 : a.tmps.getD 77 undef = .bool true := hF 77 (Reg.looksB (by kernel_rfl))
                  clear hF hI
                  simp only [Array.getD_eq_getD_getElem?] at f1 f2
                  simp only [execOp]; go_simp) ?_
              refine Reg.rely_nil ?_
              refine Reg.final_is ?_
              refine Reg.final_is ?_
              refine Reg.final_is ?_
              refine Reg.final_is ?_
              refine Reg.final_is ?_
              refine Reg.final_is ?_
              refine Reg.final_is ?_
              refine Reg.final_is ?_
              refine Reg.final_is ?_
              refine Reg.final_is ?_
              refine Reg.final_is ?_
              refine Reg.final_is ?_
              refine Reg.final_is ?_
              refine Reg.final_is ?_
              refine Reg.final_is ?_
              refine Reg.final_is ?_
              refine Reg.final_is ?_
              refine Reg.final_is ?_
              refine Reg.final_is ?_
              refine Reg.final_is ?_
              refine Reg.final_is ?_
              refine Reg.final_rel (fun v57 => ?_)
              refine Reg.final_is ?_
              refine Reg.final_nil (fun w9 hF => ?_)
              -- region 13.3 ends
              have HJ := Lib.hid hF.1
              clear hF HA HB4 HL4
              simp only [List.drop_succ_cons, List.drop_zero]
              go_simp
              (try go_wp2_with fail)
              refine Reg.fin (by kernel_rfl) ?_
              go_wp2_with fail
              go_ret3
              have := HR.out
              rw [if_pos HFU.out] at this
              subst this
              exact ⟨rfl, _, _, HJ.out.1.mono (Nat.le_succ _), OnJ.of_below (HB1.out.trans (HJ.out.2.mono HB1.out.size))⟩
            · have HA := Lib.hid ha
              have HB4 : Hid (¬ (256 : Int) ≤ (s.rows.length : Int)) := Lib.hid (by omega)
              have HL4 := Lib.hid hl4
              have HFU : Hid (fullB s = false) := Lib.hid (by unfold fullB; rw [← hK, decide_eq_false ha, decide_eq_false hb, decide_eq_false hl4]; rfl)
              clear hK ha hb hl4
              -- region 13.4
              refine Reg.wp_rely 23 (SbI w4 B0 b h t B V s N) (by kernel_rfl) (Reg.relyOk_of (by kernel_rfl)) ⟨HC4.out.drew, (Below.refl _ w4).drew⟩ (fun w w' h hI => ⟨hI.1.below h, hI.2.trans (h.mono hI.2.size)⟩) ?_
              refine Reg.rely_plain (.pointer (some ⟨b, 0, none⟩)) rfl (fun a w hI hF => by
                  have f1 : a.tmps.getD 0 undef = .pointer (some ⟨b, 0, none⟩) := hF 0 (Reg.looksB (by kernel_rfl))
                  clear hF hI
                  simp only [Array.getD_eq_getD_getElem?] at f1
                  simp only [execOp]; go_simp) ?_
              refine Reg.rely_call0 (fun v w => ∃ p c, v = .slice p K c) (fun v w w' h hS => hS) (fun G hG => by cases hG) rfl (fun a w hI hF => by
                  have f1 : a.tmps.getD 56 undef = .pointer (some ⟨b, 0, none⟩) := hF 56 (Reg.looksB (by kernel_rfl))
                  refine ⟨19, #[.pointer (some ⟨b, 0, none⟩)], ?_, (pending_any hI.1).mono fun e w' h => by
                    obtain ⟨v, h1, h2, h3⟩ := h
                    obtain ⟨p, c, rfl⟩ := owns_slice h2
                    rw [HK.out] at h1
                    exact ⟨_, h1, ⟨p, c, rfl⟩, h3⟩⟩
                  clear hF hI
                  simp only [Array.getD_eq_getD_getElem?] at f1
                  simp only [execOp]; go_simp) ?_
              refine Reg.rely_plain (.int .i64 K) rfl (fun a w hI hF => by
                  have f1 : ∃ p c, a.tmps.getD 57 undef = .slice p K c := hF 57 (Reg.looksB (by kernel_rfl))
                  obtain ⟨p, c, f1⟩ := f1
                  clear hF hI
                  simp only [Array.getD_eq_getD_getElem?] at f1
                  simp only [execOp]; go_simp) ?_
              refine Reg.rely_plain (.pointer (some ⟨b, 0, none⟩)) rfl (fun a w hI hF => by
                  have f1 : a.tmps.getD 0 undef = .pointer (some ⟨b, 0, none⟩) := hF 0 (Reg.looksB (by kernel_rfl))
                  clear hF hI
                  simp only [Array.getD_eq_getD_getElem?] at f1
                  simp only [execOp]; go_simp) ?_
              refine Reg.rely_plain (.pointer (some ⟨b, 0, none⟩)) rfl (fun a w hI hF => by
                  have f1 : a.tmps.getD 59 undef = .pointer (some ⟨b, 0, none⟩) := hF 59 (Reg.looksB (by kernel_rfl))
                  clear hF hI
                  simp only [Array.getD_eq_getD_getElem?] at f1
                  simp only [execOp]; go_simp) ?_
              refine Reg.rely_plain (.pointer (some ⟨b, 0, none⟩)) rfl (fun a w hI hF => by
                  have f1 : a.tmps.getD 60 undef = .pointer (some ⟨b, 0, none⟩) := hF 60 (Reg.looksB (by kernel_rfl))
                  clear hF hI
                  simp only [Array.getD_eq_getD_getElem?] at f1
                  simp only [execOp]; go_simp) ?_
              refine Reg.rely_plain (.int .i64 s.most) rfl (fun a w hI hF => by
                  have f1 : a.tmps.getD 61 undef = .pointer (some ⟨b, 0, none⟩) := hF 61 (Reg.looksB (by kernel_rfl))
                  have hc : w.cell? ⟨b, 0, none⟩ = some (.int .i64 s.most) := hI.1.c0
                  clear hF hI
                  simp only [Array.getD_eq_getD_getElem?] at f1
                  simp only [execOp]; go_simp) ?_
              refine Reg.rely_plain (.bool false) rfl (fun a w hI hF => by
                  have f1 : a.tmps.getD 58 undef = .int .i64 K := hF 58 (Reg.looksB (by kernel_rfl))
                  have f2 : a.tmps.getD 62 undef = .int .i64 s.most := hF 62 (Reg.looksB (by kernel_rfl))
                  have hz := HA.out
                  clear hF hI
                  simp only [Array.getD_eq_getD_getElem?] at f1 f2
                  simp only [execOp]; go_simp) ?_
              refine Reg.rely_plain (.bool false) rfl (fun a w hI hF => by
                  have f1 : a.tmps.getD 63 undef = .bool false := hF 63 (Reg.looksB (by kernel_rfl))
                  clear hF hI
                  simp only [Array.getD_eq_getD_getElem?] at f1
                  simp only [execOp]; go_simp) ?_
              refine Reg.rely_isb (.pointer (some ⟨b, 0, none⟩)) 8 false 64 rfl rfl (fun v w h => h) (fun a w hI hF => by
                  have f1 : a.tmps.getD 0 undef = .pointer (some ⟨b, 0, none⟩) := hF 0 (Reg.looksB (by kernel_rfl))
                  clear hF hI
                  simp only [Array.getD_eq_getD_getElem?] at f1
                  simp only [execOp]; go_simp) ?_
              refine Reg.rely_isb (.pointer (some ⟨b, 0, none⟩)) 8 false 64 rfl rfl (fun v w h => h) (fun a w hI hF => by
                  have f1 : a.tmps.getD 65 undef = .pointer (some ⟨b, 0, none⟩) := hF 65 (Reg.looksB (by kernel_rfl))
                  clear hF hI
                  simp only [Array.getD_eq_getD_getElem?] at f1
                  simp only [execOp]; go_simp) ?_
              refine Reg.rely_isb (.pointer (some ⟨b, 2, none⟩)) 8 false 64 rfl rfl (fun v w h => h) (fun a w hI hF => by
                  have f1 : a.tmps.getD 66 undef = .pointer (some ⟨b, 0, none⟩) := hF 66 (Reg.looksB (by kernel_rfl))
                  clear hF hI
                  simp only [Array.getD_eq_getD_getElem?] at f1
                  simp only [execOp]; go_simp) ?_
              refine Reg.rely_isb (.map (some h)) 8 false 64 rfl rfl (fun v w h => h) (fun a w hI hF => by
                  have f1 : a.tmps.getD 67 undef = .pointer (some ⟨b, 2, none⟩) := hF 67 (Reg.looksB (by kernel_rfl))
                  have hc : w.cell? ⟨b, 2, none⟩ = some (.map (some h)) := hI.1.c2
                  clear hF hI
                  simp only [Array.getD_eq_getD_getElem?] at f1
                  simp only [execOp]; go_simp) ?_
              refine Reg.rely_isb (.int .i64 (s.rows.length : Int)) 8 false 64 rfl rfl (fun v w h => h) (fun a w hI hF => by
                  have f1 : a.tmps.getD 68 undef = .map (some h) := hF 68 (Reg.looksB (by kernel_rfl))
                  have hl := jlen hI.1
                  clear hF hI
                  simp only [Array.getD_eq_getD_getElem?] at f1
                  simp only [execOp]; go_simp) ?_
              refine Reg.rely_isb (.bool false) 8 false 64 rfl rfl (fun v w h => h) (fun a w hI hF => by
                  have f1 : a.tmps.getD 69 undef = .int .i64 (s.rows.length : Int) := hF 69 (Reg.looksB (by kernel_rfl))
                  have hz := HB4.out
                  clear hF hI
                  simp only [Array.getD_eq_getD_getElem?] at f1
                  simp only [execOp]; go_simp) ?_
              refine Reg.rely_plain (.bool false) rfl (fun a w hI hF => by
                  have f1 : a.tmps.getD 64 undef = .bool false := hF 64 (Reg.looksB (by kernel_rfl))
                  have f2 : a.tmps.getD 70 undef = .bool false := hF 70 (Reg.looksB (by kernel_rfl))
                  clear hF hI
                  simp only [Array.getD_eq_getD_getElem?] at f1 f2
                  simp only [execOp]; go_simp) ?_
              refine Reg.rely_plain (.bool false) rfl (fun a w hI hF => by
                  have f1 : a.tmps.getD 71 undef = .bool false := hF 71 (Reg.looksB (by kernel_rfl))
                  clear hF hI
                  simp only [Array.getD_eq_getD_getElem?] at f1
                  simp only [execOp]; go_simp) ?_
              refine Reg.rely_isb (.pointer (some ⟨b, 0, none⟩)) 16 false 72 rfl rfl (fun v w h => h) (fun a w hI hF => by
                  have f1 : a.tmps.getD 0 undef = .pointer (some ⟨b, 0, none⟩) := hF 0 (Reg.looksB (by kernel_rfl))
                  clear hF hI
                  simp only [Array.getD_eq_getD_getElem?] at f1
                  simp only [execOp]; go_simp) ?_
              refine Reg.rely_isb (.pointer (some ⟨b, 0, none⟩)) 16 false 72 rfl rfl (fun v w h => h) (fun a w hI hF => by
                  have f1 : a.tmps.getD 73 undef = .pointer (some ⟨b, 0, none⟩) := hF 73 (Reg.looksB (by kernel_rfl))
                  clear hF hI
                  simp only [Array.getD_eq_getD_getElem?] at f1
                  simp only [execOp]; go_simp) ?_
              refine Reg.rely_isb (.pointer (some ⟨b, 1, none⟩)) 16 false 72 rfl rfl (fun v w h => h) (fun a w hI hF => by
                  have f1 : a.tmps.getD 74 undef = .pointer (some ⟨b, 0, none⟩) := hF 74 (Reg.looksB (by kernel_rfl))
                  clear hF hI
                  simp only [Array.getD_eq_getD_getElem?] at f1
                  simp only [execOp]; go_simp) ?_
              refine Reg.rely_isb (.int .u64 s.last) 16 false 72 rfl rfl (fun v w h => h) (fun a w hI hF => by
                  have f1 : a.tmps.getD 75 undef = .pointer (some ⟨b, 1, none⟩) := hF 75 (Reg.looksB (by kernel_rfl))
                  have hc : w.cell? ⟨b, 1, none⟩ = some (.int .u64 s.last) := hI.1.c1
                  clear hF hI
                  simp only [Array.getD_eq_getD_getElem?] at f1
                  simp only [execOp]; go_simp) ?_
              refine Reg.rely_isb (.bool false) 16 false 72 rfl rfl (fun v w h => h) (fun a w hI hF => by
                  have f1 : a.tmps.getD 76 undef = .int .u64 s.last := hF 76 (Reg.looksB (by kernel_rfl))
                  have hz := HL4.out
                  clear hF hI
                  simp only [Array.getD_eq_getD_getElem?] at f1
                  simp only [execOp]; go_simp) ?_
              refine Reg.rely_plain (.bool false) rfl (fun a w hI hF => by
                  have f1 : a.tmps.getD 72 undef = .bool false := hF 72 (Reg.looksB (by kernel_rfl))
                  have f2 : a.tmps.getD 77 undef = .bool false := hF 77 (Reg.looksB (by kernel_rfl))
                  clear hF hI
                  simp only [Array.getD_eq_getD_getElem?] at f1 f2
                  simp only [execOp]; go_simp) ?_
              refine Reg.rely_nil ?_
              refine Reg.final_is ?_
              refine Reg.final_is ?_
              refine Reg.final_is ?_
              refine Reg.final_is ?_
              refine Reg.final_is ?_
              refine Reg.final_is ?_
              refine Reg.final_is ?_
              refine Reg.final_is ?_
              refine Reg.final_is ?_
              refine Reg.final_is ?_
              refine Reg.final_is ?_
              refine Reg.final_is ?_
              refine Reg.final_is ?_
              refine Reg.final_is ?_
              refine Reg.final_is ?_
              refine Reg.final_is ?_
              refine Reg.final_is ?_
              refine Reg.final_is ?_
              refine Reg.final_is ?_
              refine Reg.final_is ?_
              refine Reg.final_is ?_
              refine Reg.final_rel (fun v57 => ?_)
              refine Reg.final_is ?_
              refine Reg.final_nil (fun w9 hF => ?_)
              -- region 13.4 ends
              have HJ := Lib.hid hF.1
              clear hF HA HB4
              have HADD : Hid (subS s tok prog inp fuel = ((s.last + 1, 1, 0), addS s tok prog inp fuel)) := Lib.hid (by unfold subS; rw [if_neg (by rw [HTB.out]; decide), HF.out]; dsimp only; rw [if_neg (fun e => e HKE.out.symm), if_neg (by rw [HFU.out]; decide)])
              have HIV : Hid (JInv (addS s tok prog inp fuel)) := Lib.hid (by have := HC.out.inv.sub tok prog inp fuel; rw [HADD.out] at this; exact this)
              have HLA : Hid (0 ≤ s.last ∧ s.last < 281474976710656) := Lib.hid ⟨HC.out.inv.last, by have := HL4.out; omega⟩
              have HIV2 : Hid (JInv { s with last := s.last + 1 }) := Lib.hid (by
                have h1 := HC.out.inv
                refine ⟨h1.most, by have := HLA.out; show 0 ≤ s.last + 1; omega, mayB_iff.2 ⟨h1.good.1.mono (by show s.last ≤ s.last + 1; omega), h1.good.2.1, by have := HLA.out; show s.last + 1 ≤ _; omega⟩⟩)
              have c1 := HJ.out.1.c1
              have f1 := HJ.out.1.blk.frozen 1
              have e1 : IntKind.u64.wrap (s.last + 1) = s.last + 1 := by have := HLA.out; rw [IntKind.wrap_u64]; omega
              simp only [List.drop_succ_cons, List.drop_zero]
              go_simp
              (try go_wp2_with fail)
              refine Reg.fin (by kernel_rfl) ?_
              go_upto_region 16 with fail
              have HSL := Lib.hid (HJ.out.1.setLast HIV2.out)
              clear c1 f1 e1
              have HIA : Hid (IntsAt (w9.setCell ⟨b, 1, none⟩ (.int .u64 (s.last + 1))) (.slice q m cq) inp) := Lib.hid (HI.out.1.belowB HI.out.2.2.2.2 (OnJ.below HC.out (((OnJ.of_below HB1.out).step HJ.out.2).trans HSL.out.2)))
              generalize w9.setCell ⟨b, 1, none⟩ (.int .u64 (s.last + 1)) = w10 at *
              generalize hla : s.last + 1 = la at *
              have HLE := Lib.hid hla
              clear hla
              have c1 : w10.cell? ⟨b, 1, none⟩ = some (.int .u64 la) := HSL.out.1.c1
              have HPU : Hid (Calls Tryz.prog 51 #[.pointer (some ⟨b, 0, none⟩), .agg #[.int .u64 la, .string tok, .string prog, .slice q m cq, .int .i64 fuel, .int .u8 1, .int .i64 0, .int .i64 0]] w10 (PutP w10 B0 b h t { s with last := la } (newR la tok prog inp fuel) N)) := Lib.hid (put_any HSL.out.1 (x := newR la tok prog inp fuel) HIA.out ⟨by have := HLE.out; have := HLA.out; show U64 la; unfold U64; omega, HI.out.2.2.1⟩ (by have := HIV.out; unfold addS at this; rw [HLE.out] at this; exact this) HI.out.2.2.2.1)
              go_wp2_with (go_at_call 51; go_loud ((with_reducible refine HPU.out.mono ?_); rintro e w11 ⟨rfl, B', V', hc, ho⟩; have HC11 := Lib.hid hc; have HO11 := Lib.hid ho; have c1 : w11.cell? ⟨b, 1, none⟩ = some (.int .u64 la) := hc.c1; clear hc ho))
              go_ret3
              have := HR.out
              rw [if_neg (by rw [HFU.out]; decide)] at this
              subst this
              unfold addS
              rw [HLE.out]
              exact ⟨rfl, _, _, HC11.out, (((OnJ.of_below HB1.out).step HJ.out.2).trans HSL.out.2).trans HO11.out⟩
      · have h0' : (k == 0) = false := by simpa using h0
        have h0'' : (k != 0) = true := by simpa using h0
        rw [if_pos h0] at HR
        clear h0
        go_enter Tryz.func15, Tryz.ntmps15
        go_wp2_with (first | (go_at_call 47; go_loud ((with_reducible refine HN.out.mono ?_); rintro e w9 ⟨rfl, hw9⟩; have hw9 := hw9.symm; subst hw9)) | (go_at_call 48; go_loud ((with_reducible refine HTO.out.mono ?_); rintro e w9 ⟨rfl, hw9⟩; have hw9 := hw9.symm; subst hw9)) | (go_at_call 50; go_loud ((with_reducible refine HAK.out.mono ?_); rintro e w4 ⟨rfl, hb1⟩; have HB1 := Lib.hid hb1; clear hb1 c3 hlk)))
        go_ret3
        have := HR.out
        subst this
        exact ⟨rfl, _, _, (HC.out.below HB1.out).mono (Nat.le_succ _), OnJ.of_below HB1.out⟩
end
end Go.Proofs.YtlahficmkfgooaaGreat
