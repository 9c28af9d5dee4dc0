import Derived.Test.YtlahficmkfgooaaGreatMgf
import Derived.Test.YtlahficmkfgooaaGreatJobR

/- Readings and bytes, put together out of parts: of bricks. No program in sight. -/
namespace Go.Proofs.YtlahficmkfgooaaGreat
open Go.RowKit Wire
set_option linter.unusedVariables false
set_option linter.unusedSimpArgs false
namespace Ms
/-- Bytes that are left, and the fault. -/
structure RS where
  s : ByteArray
  e : Int
abbrev Ls := List UInt8
def bl (s : ByteArray) : Ls := s.data.toList
theorem bl_len (s : ByteArray) : (bl s).length = s.size := by unfold bl; simp
theorem bl_inj {s t : ByteArray} (h : bl s = bl t) : s = t := ByteArray.ext (Array.toList_inj.1 h)
theorem bl_app (a b : ByteArray) : bl (a ++ b) = bl a ++ bl b := by unfold bl; rw [ByteArray.data_append]; simp
theorem bl_leb (x : Int) : bl (Num.lebS x) = Num.leb x.toNat := by unfold bl Num.lebS; simp
theorem bl_tl (s : ByteArray) (n : Nat) : bl (tl s n) = (bl s).drop n := by
  unfold tl bl
  have : (s.extract n s.size).data.toList = (s.data.toList.take (n + (s.size - n))).drop n := by simp [List.take_drop]
  rw [this, List.take_of_length_le (by simp; omega)]
theorem rd_ok2 {s : ByteArray} {x : Nat} {R : Ls} (hx : x < 18446744073709551616) (h : bl s = Num.leb x ++ R) : rdS s = (x, (Num.leb x).length, 0) := by
  unfold rdS; unfold bl at h; rw [h]; exact Num.rd_leb x hx R
theorem numf {s : ByteArray} {x : Nat} {R : Ls} (hx : x < 18446744073709551616) (h : bl s = Num.leb x ++ R) {c : Int} (hc : c = 0) :
    numV s 0 c = (x : Int) ∧ numE s 0 c = 0 ∧ bl (numS s 0 c) = R := by
  subst hc
  have hr := rd_ok2 hx h
  have h0 : (rdS s).2.2 = 0 := by rw [hr]
  refine ⟨by unfold numV; rw [if_pos ⟨rfl, h0, rfl⟩, hr], by unfold numE; rw [if_pos rfl, if_pos h0], ?_⟩
  unfold numS
  rw [if_pos ⟨rfl, h0, rfl⟩, hr, bl_tl, h]
  simp
theorem numb {s : ByteArray} {e0 c : Int} (h : numE s e0 c = 0) : e0 = 0 ∧ c = 0 ∧ U64 (numV s e0 c) ∧ numV s e0 c = xI s ∧ bl s = Num.leb (numV s e0 c).toNat ++ bl (numS s e0 c) := by
  unfold numE at h
  by_cases h0 : e0 = 0
  · rw [if_pos h0] at h
    by_cases h1 : (rdS s).2.2 = 0
    · rw [if_pos h1] at h
      refine ⟨h0, h, numV_U64 _ _ _, ?_, ?_⟩
      · unfold numV xI; rw [if_pos ⟨h0, h1, h⟩]
      · unfold numV numS
        rw [if_pos ⟨h0, h1, h⟩, if_pos ⟨h0, h1, h⟩]
        have hr : Num.rd s.data.toList = ((rdS s).1, (rdS s).2.1, 0) := by rw [← h1]; rfl
        obtain ⟨hn, hl, _, _⟩ := Num.rd_ok hr
        rw [bl_tl, Int.toNat_natCast, hl]
        unfold bl
        rw [List.take_append_drop]
    · rw [if_neg h1] at h
      omega
  · rw [if_neg h0] at h
    exact absurd h h0
/-! ### A number up to a bound; a whole one; a text; a count -/
def uV (m : Int) (q : RS) : Int := numV q.s q.e (uC q.s m)
def uS (m : Int) (q : RS) : RS := ⟨numS q.s q.e (uC q.s m), numE q.s q.e (uC q.s m)⟩
def iV (q : RS) : Int := Num.zag (numV q.s q.e (iC q.s (-9223372036854775808) 9223372036854775807))
def iS (q : RS) : RS := ⟨numS q.s q.e (iC q.s (-9223372036854775808) 9223372036854775807), numE q.s q.e (iC q.s (-9223372036854775808) 9223372036854775807)⟩
def tV (m : Int) (q : RS) : ByteArray := txV q.s q.e m
def tS (m : Int) (q : RS) : RS := ⟨txS q.s q.e m, txE q.s q.e m⟩
def cV (m : Int) (q : RS) : Int := numV q.s q.e (cC q.s m)
def cS (m : Int) (q : RS) : RS := ⟨numS q.s q.e (cC q.s m), numE q.s q.e (cC q.s m)⟩
def wU (x : Int) : Ls := Num.leb x.toNat
def wI (x : Int) : Ls := Num.leb (Num.zig x).toNat
def wT (t : ByteArray) : Ls := Num.leb t.size ++ bl t
theorem wU_pos (x : Int) : 1 ≤ (wU x).length := Num.leb_pos _
theorem wI_pos (x : Int) : 1 ≤ (wI x).length := Num.leb_pos _
theorem wT_pos (t : ByteArray) : 1 ≤ (wT t).length := by unfold wT; rw [List.length_append]; have := Num.leb_pos t.size; omega
theorem bl_textS (t : ByteArray) : bl (textS t) = wT t := by unfold textS wT; rw [bl_app, bl_leb]; rfl
theorem bl_intS (x : Int) : bl (intS x) = wI x := bl_leb _
/-- What reads, and what was written: 'r' reads what 'w' wrote of what is 'ok', and nothing else. -/
structure Law {α : Type} (r : RS → α × RS) (w : α → Ls) (ok : α → Prop) : Prop where
  fwd : ∀ (a : α) (q : RS) (R : Ls), ok a → q.e = 0 → bl q.s = w a ++ R → (r q).1 = a ∧ (r q).2.e = 0 ∧ bl (r q).2.s = R
  bwd : ∀ q : RS, (r q).2.e = 0 → q.e = 0 ∧ ok (r q).1 ∧ bl q.s = w (r q).1 ++ bl (r q).2.s
def rU (m : Int) (q : RS) : Int × RS := (uV m q, uS m q)
def rI (q : RS) : Int × RS := (iV q, iS q)
def rT (m : Int) (q : RS) : ByteArray × RS := (tV m q, tS m q)
theorem law_u {m : Int} (hm : m ≤ 18446744073709551615) : Law (rU m) wU (fun x => 0 ≤ x ∧ x ≤ m) := by
  refine ⟨fun x q R hx he hb => ?_, fun q he => ?_⟩
  · obtain ⟨s, e⟩ := q
    dsimp only at he hb
    subst he
    have hxx : ((x.toNat : Nat) : Int) = x := by omega
    have hr := rd_ok2 (x := x.toNat) (by omega) hb
    have hc : uC s m = 0 := by unfold uC xI; rw [hr]; dsimp only; rw [if_neg (by omega)]
    have h := numf (x := x.toNat) (by omega) hb hc
    rw [hxx] at h
    exact h
  · obtain ⟨h1, h2, h3, h4, h5⟩ := numb he
    refine ⟨h1, ⟨h3.1, ?_⟩, h5⟩
    show numV q.s q.e (uC q.s m) ≤ m
    rw [h4]
    unfold uC at h2
    split at h2 <;> omega
theorem law_i : Law rI wI I64 := by
  refine ⟨fun x q R hx he hb => ?_, fun q he => ?_⟩
  · obtain ⟨s, e⟩ := q
    dsimp only at he hb
    subst he
    have hz := Num.zig_range x hx.1 hx.2
    have hxx : (((Num.zig x).toNat : Nat) : Int) = Num.zig x := by omega
    have hr := rd_ok2 (x := (Num.zig x).toNat) (by omega) hb
    have hc : iC s (-9223372036854775808) 9223372036854775807 = 0 := by
      have hxi : xI s = Num.zig x := by unfold xI; rw [hr]; exact hxx
      unfold iC
      rw [hxi, Num.zag_zig]
      unfold I64 at hx
      rw [if_neg (by omega)]
    have h := numf (x := (Num.zig x).toNat) (by omega) hb hc
    rw [hxx] at h
    refine ⟨?_, h.2⟩
    show Num.zag (numV s 0 _) = x
    rw [h.1, Num.zag_zig]
  · obtain ⟨h1, h2, h3, h4, h5⟩ := numb he
    have hz := Num.zag_range _ h3.1 h3.2
    refine ⟨h1, ?_, ?_⟩
    · show I64 (Num.zag _)
      unfold I64; omega
    · unfold wI
      show bl q.s = Num.leb (Num.zig (Num.zag (numV q.s q.e _))).toNat ++ _
      rw [Num.zig_zag _ h3.1]
      exact h5
theorem cnt_zero {s : ByteArray} {m : Int} (h : cC s m = 0) : 0 ≤ m ∧ xI s ≤ m ∧ xI s ≤ s.size - nI s := by
  rcases cC_cases s m with ⟨_, e⟩ | ⟨_, _, _, e⟩ | ⟨h1, h2, h3, _⟩
  · omega
  · omega
  · exact ⟨h1, h2, h3⟩
/-- A count, as it reads forth and back. -/
theorem cnt_fwd {m : Int} {n : Nat} {q : RS} {R : Ls} (hn : (n : Int) ≤ m) (hm : m ≤ 9223372036854775807) (he : q.e = 0) (hb : bl q.s = Num.leb n ++ R) (hR : n ≤ R.length) : cV m q = n ∧ (cS m q).e = 0 ∧ bl (cS m q).s = R := by
  obtain ⟨s, e⟩ := q
  dsimp only at he hb
  subst he
  have hr := rd_ok2 (x := n) (by omega) hb
  have hsz : s.size = (Num.leb n).length + R.length := by rw [← bl_len, hb, List.length_append]
  have hc : cC s m = 0 := by
    have hxI : xI s = n := by unfold xI; rw [hr]
    have hnI : nI s = ((Num.leb n).length : Nat) := by unfold nI; rw [hr]
    unfold cC cntC
    rw [hxI, hnI, if_neg (by omega), if_neg (by omega)]
  exact numf (x := n) (by omega) hb hc
theorem cnt_bwd {m : Int} {q : RS} (he : (cS m q).e = 0) : q.e = 0 ∧ ∃ n : Nat, cV m q = n ∧ (n : Int) ≤ m ∧ n ≤ (bl (cS m q).s).length ∧ bl q.s = Num.leb n ++ bl (cS m q).s := by
  obtain ⟨h1, h2, h3, h4, h5⟩ := numb he
  obtain ⟨k1, k2, k3⟩ := cnt_zero h2
  refine ⟨h1, (cV m q).toNat, ?_, ?_, ?_, h5⟩
  · have := h3.1; unfold cV; omega
  · have : cV m q = xI q.s := h4
    have := h3.1
    unfold cV at *
    omega
  · have hl := congrArg List.length h5
    rw [bl_len, List.length_append] at hl
    have hn : nI q.s = ((Num.leb (cV m q).toNat).length : Nat) := by
      have hr := rd_ok2 (x := (cV m q).toNat) (s := q.s) (R := bl (cS m q).s) (by have := h3.1; have := h3.2; unfold cV; omega) h5
      unfold nI
      rw [hr]
    have hv : cV m q = xI q.s := h4
    have hl2 : (bl (numS q.s q.e (cC q.s m))).length = (bl (cS m q).s).length := rfl
    have hl3 : (Num.leb (numV q.s q.e (cC q.s m)).toNat).length = (Num.leb (cV m q).toNat).length := rfl
    have := h3.1
    have e2 : numV q.s q.e (cC q.s m) = cV m q := rfl
    rw [e2] at this
    omega
theorem law_t {m : Int} (hm : m ≤ 9223372036854775807) : Law (rT m) wT (fun t => (t.size : Int) ≤ m) := by
  have key : ∀ q : RS, (cS m q).e = 0 → tV m q = (cS m q).s.extract 0 (cV m q).toNat ∧ (tS m q).e = 0 ∧ (tS m q).s = tl (cS m q).s (cV m q).toNat := fun q he => by
    refine ⟨rfl, he, ?_⟩
    show txS q.s q.e m = _
    unfold txS
    rw [if_pos (show numE q.s q.e (cC q.s m) = 0 from he)]
    rfl
  refine ⟨fun t q R ht he hb => ?_, fun q he => ?_⟩
  · unfold wT at hb
    rw [List.append_assoc] at hb
    obtain ⟨h1, h2, h3⟩ := cnt_fwd (n := t.size) ht hm he hb (by rw [List.length_append, bl_len]; omega)
    obtain ⟨k1, k2, k3⟩ := key q h2
    refine ⟨?_, k2, ?_⟩
    · show tV m q = t
      rw [k1, h1, Int.toNat_natCast]
      apply bl_inj
      have : bl ((cS m q).s.extract 0 t.size) = (bl (cS m q).s).take t.size := by unfold bl; simp
      rw [this, h3, List.take_append_of_le_length (by rw [bl_len]; exact Nat.le_refl _), List.take_of_length_le (by rw [bl_len]; exact Nat.le_refl _)]
    · show bl (tS m q).s = R
      rw [k3, h1, Int.toNat_natCast, bl_tl, h3, List.drop_append, List.drop_eq_nil_of_le (by rw [bl_len]; exact Nat.le_refl _), bl_len]
      simp
  · have he' : (cS m q).e = 0 := he
    obtain ⟨h1, n, h2, h3, h4, h5⟩ := cnt_bwd he'
    obtain ⟨k1, k2, k3⟩ := key q he'
    have hsz : (tV m q).size = n := by
      rw [k1, h2, Int.toNat_natCast]
      rw [bl_len] at h4
      simp; omega
    have hl : bl (tV m q) = (bl (cS m q).s).take n := by rw [k1, h2, Int.toNat_natCast]; unfold bl; simp
    refine ⟨h1, ?_, ?_⟩
    · show ((tV m q).size : Int) ≤ m
      rw [hsz]; exact h3
    · show bl q.s = wT (tV m q) ++ bl (tS m q).s
      unfold wT
      rw [hsz, hl, k3, h2, Int.toNat_natCast, bl_tl, List.append_assoc, List.take_append_drop]
      exact h5
/-! ### Two, one behind the other; what is another way told of -/
theorem Law.two {α β : Type} {r1 : RS → α × RS} {w1 : α → Ls} {ok1 : α → Prop} {r2 : RS → β × RS} {w2 : β → Ls} {ok2 : β → Prop} (h1 : Law r1 w1 ok1) (h2 : Law r2 w2 ok2) :
    Law (fun q => (((r1 q).1, (r2 (r1 q).2).1), (r2 (r1 q).2).2)) (fun x : α × β => w1 x.1 ++ w2 x.2) (fun x => ok1 x.1 ∧ ok2 x.2) := by
  refine ⟨fun x q R hx he hb => ?_, fun q he => ?_⟩
  · rw [List.append_assoc] at hb
    obtain ⟨a1, a2, a3⟩ := h1.fwd x.1 q _ hx.1 he hb
    obtain ⟨b1, b2, b3⟩ := h2.fwd x.2 _ _ hx.2 a2 a3
    exact ⟨by rw [a1, b1], b2, b3⟩
  · obtain ⟨b1, b2, b3⟩ := h2.bwd _ he
    obtain ⟨a1, a2, a3⟩ := h1.bwd _ b1
    exact ⟨a1, ⟨a2, b2⟩, by rw [List.append_assoc, ← b3]; exact a3⟩
theorem Law.of {α β : Type} {r : RS → α × RS} {w : α → Ls} {ok : α → Prop} (h : Law r w ok) (f : α → β) (g : β → α) (hfg : ∀ b, f (g b) = b) (hgf : ∀ a, g (f a) = a) :
    Law (fun q => (f (r q).1, (r q).2)) (fun b => w (g b)) (fun b => ok (g b)) := by
  refine ⟨fun b q R hx he hb => ?_, fun q he => ?_⟩
  · obtain ⟨a1, a2, a3⟩ := h.fwd (g b) q R hx he hb
    exact ⟨by dsimp only; rw [a1, hfg], a2, a3⟩
  · obtain ⟨a1, a2, a3⟩ := h.bwd q he
    exact ⟨a1, by dsimp only; rw [hgf]; exact a2, by dsimp only; rw [hgf]; exact a3⟩
/-! ### A list: how many, and each -/
def rdL {α : Type} (r : RS → α × RS) : Nat → RS → List α × RS
  | 0, q => ([], q)
  | n + 1, q => if q.e ≠ 0 then ([], q) else (let x := r q; let y := rdL r n x.2; (x.1 :: y.1, y.2))
def wL {α : Type} (w : α → Ls) (l : List α) : Ls := l.flatMap w
theorem rdL_fwd {α : Type} {r : RS → α × RS} {w : α → Ls} {ok : α → Prop} (h : Law r w ok) : ∀ (l : List α) (q : RS) (R : Ls), (∀ x ∈ l, ok x) → q.e = 0 → bl q.s = wL w l ++ R → (rdL r l.length q).1 = l ∧ (rdL r l.length q).2.e = 0 ∧ bl (rdL r l.length q).2.s = R := by
  intro l
  induction l with
  | nil => intro q R _ he hb; exact ⟨rfl, he, by unfold wL at hb; exact hb⟩
  | cons a l ih =>
    intro q R hx he hb
    have hb' : bl q.s = w a ++ (wL w l ++ R) := by rw [hb]; unfold wL; rw [List.flatMap_cons, List.append_assoc]
    obtain ⟨a1, a2, a3⟩ := h.fwd a q _ (hx a List.mem_cons_self) he hb'
    obtain ⟨b1, b2, b3⟩ := ih _ R (fun x h => hx x (List.mem_cons_of_mem _ h)) a2 a3
    rw [List.length_cons]
    unfold rdL
    rw [if_neg (by simp [he])]
    exact ⟨by dsimp only; rw [a1, b1], b2, b3⟩
theorem rdL_bwd {α : Type} {r : RS → α × RS} {w : α → Ls} {ok : α → Prop} (h : Law r w ok) : ∀ (n : Nat) (q : RS), (rdL r n q).2.e = 0 → q.e = 0 ∧ (rdL r n q).1.length = n ∧ (∀ x ∈ (rdL r n q).1, ok x) ∧ bl q.s = wL w (rdL r n q).1 ++ bl (rdL r n q).2.s := by
  intro n
  induction n with
  | zero => intro q he; exact ⟨he, rfl, (fun x h => by cases h), rfl⟩
  | succ n ih =>
    intro q he
    unfold rdL at he ⊢
    by_cases hq : q.e ≠ 0
    · rw [if_pos hq] at he; exact absurd he hq
    · rw [if_neg hq] at he ⊢
      dsimp only at he ⊢
      obtain ⟨b1, b2, b3, b4⟩ := ih _ he
      obtain ⟨a1, a2, a3⟩ := h.bwd q b1
      refine ⟨a1, by rw [List.length_cons, b2], fun x hx => ?_, ?_⟩
      · rcases List.mem_cons.1 hx with e | e
        · subst e; exact a2
        · exact b3 x e
      · rw [a3, b4]; unfold wL; rw [List.flatMap_cons, List.append_assoc]
def rL {α : Type} (m : Int) (r : RS → α × RS) (q : RS) : List α × RS := rdL r (cV m q).toNat (cS m q)
def wLs {α : Type} (w : α → Ls) (l : List α) : Ls := Num.leb l.length ++ wL w l
theorem wL_len {α : Type} {w : α → Ls} (hw : ∀ x, 1 ≤ (w x).length) (l : List α) : l.length ≤ (wL w l).length := by
  unfold wL
  induction l with
  | nil => exact Nat.le_refl _
  | cons a l ih => rw [List.flatMap_cons, List.length_append, List.length_cons]; have := hw a; omega
theorem law_l {α : Type} {r : RS → α × RS} {w : α → Ls} {ok : α → Prop} (h : Law r w ok) (hw : ∀ x, 1 ≤ (w x).length) {m : Int} (hm : m ≤ 9223372036854775807) :
    Law (rL m r) (wLs w) (fun l => (l.length : Int) ≤ m ∧ ∀ x ∈ l, ok x) := by
  refine ⟨fun l q R hx he hb => ?_, fun q he => ?_⟩
  · unfold wLs at hb
    rw [List.append_assoc] at hb
    obtain ⟨h1, h2, h3⟩ := cnt_fwd (n := l.length) hx.1 hm he hb (by rw [List.length_append]; have := wL_len hw l; omega)
    unfold rL
    rw [h1, Int.toNat_natCast]
    exact rdL_fwd h l _ R hx.2 h2 h3
  · unfold rL at he ⊢
    obtain ⟨b1, b2, b3, b4⟩ := rdL_bwd h _ _ he
    obtain ⟨h1, n, h2, h3, h4, h5⟩ := cnt_bwd b1
    rw [h2, Int.toNat_natCast] at b2 b3 b4 ⊢
    refine ⟨h1, ⟨by rw [b2]; exact h3, b3⟩, ?_⟩
    unfold wLs
    rw [b2, List.append_assoc, ← b4]
    exact h5
/-! ### A fault stays -/
theorem num_dead {s : ByteArray} {e c : Int} (h : e ≠ 0) : numV s e c = 0 ∧ numS s e c = s ∧ numE s e c = e :=
  ⟨by unfold numV; rw [if_neg (fun x => h x.1)], by unfold numS; rw [if_neg (fun x => h x.1)], by unfold numE; rw [if_neg h]⟩
end Ms
end Go.Proofs.YtlahficmkfgooaaGreat


/- Rows of jobs and their bytes: what a reader makes of bytes. No program in sight. -/
namespace Go.Proofs.YtlahficmkfgooaaGreat
open Go.RowKit Wire
set_option linter.unusedVariables false
set_option linter.unusedSimpArgs false
namespace Jb
/-- A row read; the numbers of its input by 'rl'. -/
def rowOf (rl : Ms.RS → List Int × Ms.RS) (q : Ms.RS) : JR × Ms.RS :=
  let a := Ms.rU 281474976710656 q
  let b := Ms.rT 32 a.2
  let c := Ms.rT 16384 b.2
  let d := rl c.2
  let f := Ms.rU 500 d.2
  let g := Ms.rU 3 f.2
  let h := Ms.rI g.2
  let i := Ms.rU 9999 h.2
  (⟨a.1, b.1, c.1, d.1, f.1, g.1, h.1, i.1⟩, i.2)
/-- One behind the other, whatever comes; and till a fault. -/
def accA {α : Type} (r : Ms.RS → α × Ms.RS) : Nat → List α → Ms.RS → List α × Ms.RS
  | 0, l, q => (l, q)
  | n + 1, l, q => accA r n (l ++ [(r q).1]) (r q).2
def accS {α : Type} (r : Ms.RS → α × Ms.RS) : Nat → List α → Ms.RS → List α × Ms.RS
  | 0, l, q => (l, q)
  | n + 1, l, q => if q.e ≠ 0 then (l, q) else accS r n (l ++ [(r q).1]) (r q).2
def rowQ (q : Ms.RS) : JR × Ms.RS := rowOf (Ms.rL 16 Ms.rI) q
def rowA (q : Ms.RS) : JR × Ms.RS := rowOf (fun q => accA Ms.rI (Ms.cV 16 q).toNat [] (Ms.cS 16 q)) q
def rowR (q : Ms.RS) : JR × Ms.RS := rowOf (fun q => accS Ms.rI (Ms.cV 16 q).toNat [] (Ms.cS 16 q)) q
def endJ (y : List JR × Ms.RS) : List JR × Int := if endE y.2.s y.2.e ≠ 0 then ([], 8) else if mayB y.1 281474976710656 = false then ([], 8) else (y.1, 0)
def decJ (s : ByteArray) : List JR × Int := endJ (Ms.rL 256 rowQ ⟨s, 0⟩)
def decA (s : ByteArray) : List JR × Int := endJ (accA rowA (Ms.cV 256 ⟨s, 0⟩).toNat [] (Ms.cS 256 ⟨s, 0⟩))
def decR (s : ByteArray) : List JR × Int := endJ (accS rowR (Ms.cV 256 ⟨s, 0⟩).toNat [] (Ms.cS 256 ⟨s, 0⟩))
/-! ### What is read where a fault is -/
theorem uS_dead {m : Int} {q : Ms.RS} (h : q.e ≠ 0) : Ms.uS m q = q := by
  obtain ⟨s, e⟩ := q
  obtain ⟨_, h2, h3⟩ := Ms.num_dead (s := s) (c := uC s m) h
  unfold Ms.uS; dsimp only; rw [h2, h3]
theorem cS_dead {m : Int} {q : Ms.RS} (h : q.e ≠ 0) : Ms.cS m q = q ∧ Ms.cV m q = 0 := by
  obtain ⟨s, e⟩ := q
  obtain ⟨h1, h2, h3⟩ := Ms.num_dead (s := s) (c := cC s m) h
  unfold Ms.cS Ms.cV; dsimp only; rw [h1, h2, h3]; exact ⟨rfl, rfl⟩
theorem iS_dead {q : Ms.RS} (h : q.e ≠ 0) : Ms.iS q = q := by
  obtain ⟨s, e⟩ := q
  obtain ⟨_, h2, h3⟩ := Ms.num_dead (s := s) (c := iC s (-9223372036854775808) 9223372036854775807) h
  unfold Ms.iS; dsimp only; rw [h2, h3]
theorem tS_dead {m : Int} {q : Ms.RS} (h : q.e ≠ 0) : Ms.tS m q = q := by
  obtain ⟨s, e⟩ := q
  obtain ⟨h1, h2, h3⟩ := Ms.num_dead (s := s) (c := cC s m) h
  unfold Ms.tS txS txE; dsimp only
  rw [h2, h3, if_neg h]
theorem rowOf_dead {rl : Ms.RS → List Int × Ms.RS} (hr : ∀ q : Ms.RS, q.e ≠ 0 → (rl q).2 = q) {q : Ms.RS} (h : q.e ≠ 0) : (rowOf rl q).2 = q := by
  show Ms.uS 9999 (Ms.iS (Ms.uS 3 (Ms.uS 500 (rl (Ms.tS 16384 (Ms.tS 32 (Ms.uS 281474976710656 q)))).2))) = q
  rw [uS_dead h, tS_dead h, tS_dead h, hr q h, uS_dead h, uS_dead h, iS_dead h, uS_dead h]
section acc
variable {α : Type} {r : Ms.RS → α × Ms.RS}
theorem accA_dead (hd : ∀ q : Ms.RS, q.e ≠ 0 → (r q).2 = q) : ∀ (n : Nat) (l : List α) (q : Ms.RS), q.e ≠ 0 → (accA r n l q).2 = q
  | 0, _, _, _ => rfl
  | n + 1, l, q, h => by
    show (accA r n (l ++ [(r q).1]) (r q).2).2 = q
    rw [hd q h]; exact accA_dead hd n _ q h
theorem accS_eq : ∀ (n : Nat) (l : List α) (q : Ms.RS), accS r n l q = (l ++ (Ms.rdL r n q).1, (Ms.rdL r n q).2)
  | 0, l, q => by simp [accS, Ms.rdL]
  | n + 1, l, q => by
    unfold accS Ms.rdL
    by_cases h : q.e ≠ 0
    · rw [if_pos h, if_pos h]; simp
    · rw [if_neg h, if_neg h, accS_eq n]
      simp
theorem accA_st {r' : Ms.RS → α × Ms.RS} (hs : ∀ q, (r' q).2 = (r q).2) (hd : ∀ q : Ms.RS, q.e ≠ 0 → (r q).2 = q) : ∀ (n : Nat) (l : List α) (q : Ms.RS), (accA r' n l q).2 = (Ms.rdL r n q).2
  | 0, l, q => rfl
  | n + 1, l, q => by
    unfold accA Ms.rdL
    by_cases h : q.e ≠ 0
    · rw [if_pos h, hs, hd q h]
      exact accA_dead (r := r') (fun q h => by rw [hs, hd q h]) n _ q h
    · rw [if_neg h, accA_st hs hd n, hs]
theorem accA_eq {r' : Ms.RS → α × Ms.RS} {w : α → Ms.Ls} {ok : α → Prop} (hl : Ms.Law r w ok) (hs : ∀ q, (r' q).2 = (r q).2) (hv : ∀ q, (r q).2.e = 0 → (r' q).1 = (r q).1) :
    ∀ (n : Nat) (l : List α) (q : Ms.RS), (Ms.rdL r n q).2.e = 0 → (accA r' n l q).1 = l ++ (Ms.rdL r n q).1
  | 0, l, q, _ => by simp [accA, Ms.rdL]
  | n + 1, l, q, h => by
    unfold Ms.rdL at h ⊢
    unfold accA
    by_cases hq : q.e ≠ 0
    · rw [if_pos hq] at h; exact absurd h hq
    · rw [if_neg hq] at h ⊢
      dsimp only at h ⊢
      rw [hs, hv q (Ms.rdL_bwd hl n _ h).1, accA_eq hl hs hv n _ _ h]
      simp
end acc
/-! ### The bytes -/
abbrev JTu := Int × ByteArray × ByteArray × List Int × Int × Int × Int × Int
def toJ (x : JTu) : JR := ⟨x.1, x.2.1, x.2.2.1, x.2.2.2.1, x.2.2.2.2.1, x.2.2.2.2.2.1, x.2.2.2.2.2.2.1, x.2.2.2.2.2.2.2⟩
def ofJ (r : JR) : JTu := (r.job, r.tok, r.prog, r.inp, r.fuel, r.st, r.val, r.err)
def wRow (r : JR) : Ms.Ls := Ms.wU r.job ++ (Ms.wT r.tok ++ (Ms.wT r.prog ++ (Ms.wLs Ms.wI r.inp ++ (Ms.wU r.fuel ++ (Ms.wU r.st ++ (Ms.wI r.val ++ Ms.wU r.err))))))
def okRow (r : JR) : Prop := (0 ≤ r.job ∧ r.job ≤ 281474976710656) ∧ (r.tok.size : Int) ≤ 32 ∧ (r.prog.size : Int) ≤ 16384 ∧ ((r.inp.length : Int) ≤ 16 ∧ ∀ x ∈ r.inp, I64 x) ∧ (0 ≤ r.fuel ∧ r.fuel ≤ 500) ∧ (0 ≤ r.st ∧ r.st ≤ 3) ∧ I64 r.val ∧ (0 ≤ r.err ∧ r.err ≤ 9999)
theorem law_row : Ms.Law rowQ wRow okRow :=
  ((Ms.law_u (m := 281474976710656) (by decide)).two ((Ms.law_t (m := 32) (by decide)).two ((Ms.law_t (m := 16384) (by decide)).two ((Ms.law_l (m := 16) Ms.law_i Ms.wI_pos (by decide)).two
    ((Ms.law_u (m := 500) (by decide)).two ((Ms.law_u (m := 3) (by decide)).two (Ms.law_i.two (Ms.law_u (m := 9999) (by decide))))))))).of toJ ofJ (fun _ => rfl) (fun _ => rfl)
theorem wRow_pos (r : JR) : 1 ≤ (wRow r).length := by unfold wRow; rw [List.length_append]; have := Ms.wU_pos r.job; omega
theorem law_rows : Ms.Law (Ms.rL 256 rowQ) (Ms.wLs wRow) (fun l => (l.length : Int) ≤ 256 ∧ ∀ x ∈ l, okRow x) := Ms.law_l law_row wRow_pos (by decide)
theorem rowQ_dead (q : Ms.RS) (h : q.e ≠ 0) : (rowQ q).2 = q := rowOf_dead (fun q h => by
  show (Ms.rdL Ms.rI (Ms.cV 16 q).toNat (Ms.cS 16 q)).2 = q
  rw [(cS_dead h).1, (cS_dead h).2]; rfl) h
theorem rI_dead (q : Ms.RS) (h : q.e ≠ 0) : (Ms.rI q).2 = q := iS_dead h
theorem inA_st (q : Ms.RS) : (accA Ms.rI (Ms.cV 16 q).toNat [] (Ms.cS 16 q)).2 = (Ms.rL 16 Ms.rI q).2 := accA_st (fun _ => rfl) rI_dead _ _ _
theorem inA_eq (q : Ms.RS) (h : (Ms.rL 16 Ms.rI q).2.e = 0) : (accA Ms.rI (Ms.cV 16 q).toNat [] (Ms.cS 16 q)).1 = (Ms.rL 16 Ms.rI q).1 := by
  rw [accA_eq Ms.law_i (fun _ => rfl) (fun _ _ => rfl) _ _ _ h]; rfl
theorem rowOf_st {a b : Ms.RS → List Int × Ms.RS} (h : ∀ q, (a q).2 = (b q).2) (q : Ms.RS) : (rowOf a q).2 = (rowOf b q).2 := by
  show Ms.uS 9999 (Ms.iS (Ms.uS 3 (Ms.uS 500 (a _).2))) = Ms.uS 9999 (Ms.iS (Ms.uS 3 (Ms.uS 500 (b _).2)))
  rw [h]
theorem rowA_st (q : Ms.RS) : (rowA q).2 = (rowQ q).2 := rowOf_st inA_st q
theorem rowA_eq (q : Ms.RS) (h : (rowQ q).2.e = 0) : (rowA q).1 = (rowQ q).1 := by
  have h1 : (Ms.uS 9999 (Ms.iS (Ms.uS 3 (Ms.uS 500 (Ms.rL 16 Ms.rI (Ms.tS 16384 (Ms.tS 32 (Ms.uS 281474976710656 q)))).2)))).e = 0 := h
  have h2 := ((Ms.law_u (m := 9999) (by decide)).bwd _ h1).1
  have h3 := (Ms.law_i.bwd _ h2).1
  have h4 := ((Ms.law_u (m := 3) (by decide)).bwd _ h3).1
  have h5 := ((Ms.law_u (m := 500) (by decide)).bwd _ h4).1
  have h6 := inA_eq _ h5
  have h7 := inA_st (Ms.tS 16384 (Ms.tS 32 (Ms.uS 281474976710656 q)))
  have h8 := Prod.ext h6 h7
  unfold rowA rowQ rowOf
  generalize hq : Ms.tS 16384 (Ms.tS 32 (Ms.uS 281474976710656 q)) = q' at h8
  have hq' : (Ms.rT 16384 (Ms.rT 32 (Ms.rU 281474976710656 q).2).2).2 = q' := hq
  dsimp only
  rw [hq', h8]
theorem rowR_eq : rowR = rowQ := by
  funext q
  unfold rowR rowQ
  congr 1
  funext q
  rw [accS_eq]
  rfl
theorem endE_e {s : ByteArray} {e : Int} (h : endE s e = 0) : e = 0 ∧ s.size = 0 := by
  unfold endE at h
  split at h
  · cases h
  · rename_i h1
    refine ⟨h, ?_⟩
    by_cases h2 : s.size = 0
    · exact h2
    · exact absurd ⟨h, h2⟩ h1
theorem decA_eq (s : ByteArray) : decA s = decJ s := by
  unfold decA decJ
  have h1 : (accA rowA (Ms.cV 256 ⟨s, 0⟩).toNat [] (Ms.cS 256 ⟨s, 0⟩)).2 = (Ms.rL 256 rowQ ⟨s, 0⟩).2 := accA_st rowA_st rowQ_dead _ _ _
  have h2 : (Ms.rL 256 rowQ ⟨s, 0⟩).2.e = 0 → (accA rowA (Ms.cV 256 ⟨s, 0⟩).toNat [] (Ms.cS 256 ⟨s, 0⟩)).1 = (Ms.rL 256 rowQ ⟨s, 0⟩).1 := fun h => by
    rw [accA_eq law_row rowA_st rowA_eq _ _ _ h]; rfl
  unfold endJ
  rw [h1]
  by_cases h : endE (Ms.rL 256 rowQ ⟨s, 0⟩).2.s (Ms.rL 256 rowQ ⟨s, 0⟩).2.e ≠ 0
  · rw [if_pos h, if_pos h]
  · rw [if_neg h, if_neg h, h2 (endE_e (by simpa using h)).1]
theorem decR_eq (s : ByteArray) : decR s = decJ s := by
  unfold decR decJ
  rw [rowR_eq, accS_eq]
  rfl
/-! ### Forth and back -/
theorem bl_ints (l : List Int) : Ms.bl (intsS l) = Ms.wL Ms.wI l := by
  have key : ∀ n, n ≤ l.length → Ms.bl (catS (fun i => intS (l.getD i 0)) n) = Ms.wL Ms.wI (l.take n) := by
    intro n
    induction n with
    | zero => intro _; rfl
    | succ n ih =>
      intro h
      have hn : n < l.length := by omega
      rw [← catS_succ, Ms.bl_app, ih (by omega), List.take_succ_eq_append_getElem hn, Ms.bl_intS]
      unfold Ms.wL
      rw [List.flatMap_append, List.getD_eq_getElem?_getD, List.getElem?_eq_getElem hn]
      simp
  unfold intsS
  rw [key _ (Nat.le_refl _), List.take_length]
theorem bl_row (r : JR) : Ms.bl (rowS r) = wRow r := by
  unfold rowS wRow Ms.wLs
  simp only [Ms.bl_app, Ms.bl_leb, Ms.bl_textS, bl_ints, Ms.bl_intS, Ms.wU, List.append_assoc, Int.toNat_natCast]
theorem bl_raw (l : List JR) : Ms.bl (rawS l) = Ms.wLs wRow l := by
  have key : ∀ n, n ≤ l.length → Ms.bl (rawI l n) = Num.leb l.length ++ Ms.wL wRow (l.take n) := by
    intro n
    induction n with
    | zero => intro _; rw [rawI_zero, Ms.bl_leb]; simp [Ms.wL]
    | succ n ih =>
      intro h
      have hn : n < l.length := by omega
      rw [rawI_succ l n hn, Ms.bl_app, ih (by omega), List.take_succ_eq_append_getElem hn, bl_row]
      unfold Ms.wL
      rw [List.flatMap_append]
      simp
  unfold rawS Ms.wLs
  rw [key _ (Nat.le_refl _), List.take_length]
theorem ask_len {p : ByteArray} {n : Nat} {f : Int} (h : askE p n f = 0) : n ≤ 16 := by
  unfold askE at h
  have h1 : (Cd.dec p).2 = 0 := by
    by_cases e : (Cd.dec p).2 = 0
    · exact e
    · rw [if_pos e] at h; exact absurd h e
  rw [if_neg (fun e => e h1)] at h
  have h2 : inE (Cd.dec p).1 n = 0 := by
    by_cases e : inE (Cd.dec p).1 n = 0
    · exact e
    · rw [if_pos e] at h; exact absurd h e
  have hb := Cd.mayB_of (Cd.dec_back h1).1
  unfold inE at h2
  split at h2
  · rename_i e; exact absurd h2 e
  · split at h2
    · cases h2
    · rename_i e
      have e : (n : Int) = Cd.argsAt (Cd.dec p).1 0 := by simpa using e
      unfold Cd.argsAt at e
      cases hf : (Cd.dec p).1[(0 : Int).toNat]? with
      | none => rw [hf] at e; simp at e; omega
      | some f =>
        rw [hf] at e
        have := (Cd.funB_of (hb.2 f (List.mem_of_getElem? hf))).1
        simp at e
        omega
theorem okRow_of {l : List JR} (h : mayB l 281474976710656 = true) (hk : ∀ r ∈ l, KOk r) : (l.length : Int) ≤ 256 ∧ ∀ r ∈ l, okRow r := by
  obtain ⟨h1, h2, _⟩ := mayB_iff.1 h
  refine ⟨by omega, fun r hr => ?_⟩
  obtain ⟨a1, a2, a3, a4, a5, a6⟩ := h1.one r hr
  have ha := dec_size a4
  have hn := ask_len a4
  have ht := tokB_size a3
  have hs := stB_range a5
  exact ⟨⟨by omega, a2⟩, by omega, by omega, ⟨by omega, (hk r hr).2⟩, ha.2, ⟨by omega, by omega⟩, (hk r hr).1, resB_range a6⟩
theorem dec_raw {l : List JR} (h : mayB l 281474976710656 = true) (hk : ∀ r ∈ l, KOk r) : decJ (rawS l) = (l, 0) := by
  obtain ⟨h1, h2, h3⟩ := law_rows.fwd l ⟨rawS l, 0⟩ [] (okRow_of h hk) rfl (by rw [bl_raw]; simp)
  have hs : (Ms.rL 256 rowQ ⟨rawS l, 0⟩).2.s.size = 0 := by rw [← Ms.bl_len, h3]; rfl
  unfold decJ endJ
  rw [h1, h2, if_neg (by unfold endE; rw [if_neg (by rw [hs]; simp)]; simp), if_neg (by rw [h]; simp)]
theorem dec_more {l : List JR} (h : mayB l 281474976710656 = true) (hk : ∀ r ∈ l, KOk r) : decJ (rawS l ++ ⟨#[0]⟩) = ([], 8) := by
  obtain ⟨h1, h2, h3⟩ := law_rows.fwd l ⟨rawS l ++ ⟨#[0]⟩, 0⟩ [0] (okRow_of h hk) rfl (by show Ms.bl (rawS l ++ ⟨#[0]⟩) = _; rw [Ms.bl_app, bl_raw]; rfl)
  have hs : (Ms.rL 256 rowQ ⟨rawS l ++ ⟨#[0]⟩, 0⟩).2.s.size = 1 := by rw [← Ms.bl_len, h3]; rfl
  unfold decJ endJ
  rw [h2, if_pos (by unfold endE; rw [if_pos ⟨rfl, by rw [hs]; decide⟩]; decide)]
theorem dec_back {s : ByteArray} (h : (decJ s).2 = 0) : mayB (decJ s).1 281474976710656 = true ∧ rawS (decJ s).1 = s ∧ ∀ r ∈ (decJ s).1, okRow r := by
  unfold decJ endJ at h ⊢
  split at h
  · cases h
  · rename_i h1
    rw [if_neg h1]
    split at h
    · cases h
    · rename_i h2
      rw [if_neg h2]
      obtain ⟨e1, e2⟩ := endE_e (by simpa using h1)
      obtain ⟨_, b2, b3⟩ := law_rows.bwd _ e1
      refine ⟨by simpa using h2, Ms.bl_inj ?_, b2.2⟩
      rw [bl_raw]
      have : Ms.bl (Ms.rL 256 rowQ ⟨s, 0⟩).2.s = [] := List.length_eq_zero_iff.1 (by rw [Ms.bl_len]; exact e2)
      rw [this, List.append_nil] at b3
      exact b3.symm
/-- What a reader makes, whatever comes, is small enough. -/
theorem uV_bd {m : Int} (hm : 0 ≤ m) (q : Ms.RS) : 0 ≤ Ms.uV m q ∧ Ms.uV m q ≤ m := by
  unfold Ms.uV numV
  split
  · rename_i h
    have h2 := h.2.2
    unfold uC xI at h2
    split at h2
    · cases h2
    · exact ⟨by omega, by omega⟩
  · exact ⟨Int.le_refl _, hm⟩
theorem cV_bd {m : Int} (hm : 0 ≤ m) (q : Ms.RS) : 0 ≤ Ms.cV m q ∧ Ms.cV m q ≤ m := by
  have h0 := numV_U64 q.s q.e (cC q.s m)
  refine ⟨h0.1, ?_⟩
  by_cases he : (Ms.cS m q).e = 0
  · obtain ⟨_, n, h2, h3, _⟩ := Ms.cnt_bwd he
    omega
  · unfold Ms.cV numV
    split
    · rename_i h
      exfalso
      exact he (by show numE q.s q.e _ = 0; unfold numE; rw [if_pos h.1, if_pos h.2.1]; exact h.2.2)
    · exact hm
theorem iV_bd (q : Ms.RS) : I64 (Ms.iV q) := by
  have h := numV_U64 q.s q.e (iC q.s (-9223372036854775808) 9223372036854775807)
  have := Num.zag_range _ h.1 h.2
  unfold Ms.iV I64
  omega
theorem tV_bd {m : Int} (hm : 0 ≤ m) (hm2 : m ≤ 9223372036854775807) (q : Ms.RS) : ((Ms.tV m q).size : Int) ≤ m := by
  have h := (cV_bd hm q).2
  have h0 := (cV_bd hm q).1
  unfold Ms.tV txV
  have h2 : (numV q.s q.e (cC q.s m)) = Ms.cV m q := rfl
  rw [h2]
  simp
  omega
theorem accA_len {α : Type} {r : Ms.RS → α × Ms.RS} : ∀ (n : Nat) (l : List α) (q : Ms.RS), (accA r n l q).1.length = l.length + n
  | 0, l, q => rfl
  | n + 1, l, q => by
    show (accA r n _ _).1.length = _
    rw [accA_len n]; simp; omega
theorem accA_all {α : Type} {r : Ms.RS → α × Ms.RS} {P : α → Prop} (h : ∀ q, P (r q).1) : ∀ (n : Nat) (l : List α) (q : Ms.RS), (∀ x ∈ l, P x) → ∀ x ∈ (accA r n l q).1, P x
  | 0, l, q, hl => hl
  | n + 1, l, q, hl => accA_all h n _ _ (fun x hx => by
    rcases List.mem_append.1 hx with hx | hx
    · exact hl x hx
    · simp at hx; subst hx; exact h q)
end Jb
end Go.Proofs.YtlahficmkfgooaaGreat
