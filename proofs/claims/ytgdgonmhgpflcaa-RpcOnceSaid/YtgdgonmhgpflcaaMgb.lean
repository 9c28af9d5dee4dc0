import Derived.Test.YtgdgonmhgpflcaaMga
import Derived.Below

/- The walks of the document's readers of layer 1, of how many bytes a number has, and of the statements' own example. No condition but that a text is no longer than Go lets it be. -/
namespace Go.Proofs.Ytgdgonmhgpflcaa
open Go.RowKit
set_option linter.unusedVariables false

/-- The document's loop that looks for the last byte. -/
def RRel1 (s : ByteArray) (n : Value) : Prop := ∃ k : Nat, k ≤ s.size ∧ k ≤ 10 ∧ n = .int .i64 k ∧ Num.Up s.data.toList k
/-- The document's loop that adds up. -/
def vmod (s : ByteArray) (n j : Nat) : Int := ((Num.val ((s.data.toList.take (n + 1)).drop j) % 18446744073709551616 : Nat) : Int)
theorem vmod_range (s : ByteArray) (n j : Nat) : 0 ≤ vmod s n j ∧ vmod s n j ≤ 18446744073709551615 := by unfold vmod; omega
def RRel2 (s : ByteArray) (n : Nat) (x i : Value) : Prop :=
  ∃ j : Nat, j ≤ n + 1 ∧ i = .int .i64 ((j : Int) - 1) ∧ x = .int .u64 (vmod s n j)
theorem rr_step {s : ByteArray} {n j : Nat} (hn : n < s.size) (hj : j ≤ n) :
    IntKind.u64.wrap (IntKind.u64.wrap (128 * vmod s n (j + 1)) + (s[j].toNat : Int) % 128) = vmod s n j := by
  unfold vmod
  have hl : j < (s.data.toList.take (n + 1)).length := by rw [List.length_take, bl]; omega
  rw [Num.val_drop hl, IntKind.wrap_u64, IntKind.wrap_u64]
  have hb : (s.data.toList.take (n + 1))[j] = s[j] := by rw [List.getElem_take]; exact bat s j (by omega)
  rw [hb]
  omega
theorem take_mk (s : ByteArray) (n : Nat) (x : ByteArray) : x = s.extract 0 (n + 1) ↔ x.data.toList = s.data.toList.take (n + 1) := by
  constructor
  · intro h; subst h; simp [ByteArray.data_extract]
  · intro h; apply ByteArray.ext; apply Array.toList_inj.1; rw [h]; simp [ByteArray.data_extract]
def RReadPost (s : ByteArray) (w : World) (e : Ending) (w' : World) : Prop :=
  e = .returned (.tuple #[.int .u64 ((rdS s).1 : Nat), .int .i64 ((rdS s).2.1 : Nat), .int .i64 ((rdS s).2.2 : Nat)]) ∧ Below w.heap.size w w'
theorem rread_post {s : ByteArray} {w w' : World} {a b c : Nat} {a' b' c' : Int} (h : rdS s = (a, b, c)) (h1 : a' = a) (h2 : b' = b) (h3 : c' = c) (hb : Below w.heap.size w w') : RReadPost s w (.returned (.tuple #[.int .u64 a', .int .i64 b', .int .i64 c'])) w' := by
  unfold RReadPost; rw [h, h1, h2, h3]; exact ⟨rfl, hb⟩
theorem rread_yes {s : ByteArray} {k : Nat} (h : Num.Up s.data.toList k) (h1 : k < s.size) (h2 : k < 10) (h3 : s[k].toNat < 128)
    (he : Num.lebS (vmod s k 0) = s.extract 0 (k + 1)) : rdS s = (Num.val (s.data.toList.take (k + 1)) % 18446744073709551616, k + 1, 0) := by
  rw [take_mk] at he
  exact (Num.rd_ref h h1 h2 (by rw [bat s k h1]; exact h3)).1 (by simpa only [Num.lebS, vmod, Int.toNat_natCast, List.drop_zero] using he)
theorem rread_no {s : ByteArray} {k : Nat} (h : Num.Up s.data.toList k) (h1 : k < s.size) (h2 : k < 10) (h3 : s[k].toNat < 128)
    (he : ¬ Num.lebS (vmod s k 0) = s.extract 0 (k + 1)) : rdS s = (0, 0, 8) := by
  rw [take_mk] at he
  exact (Num.rd_ref h h1 h2 (by rw [bat s k h1]; exact h3)).2 (by simpa only [Num.lebS, vmod, Int.toNat_natCast, List.drop_zero] using he)
set_option maxRecDepth 100000 in
set_option maxHeartbeats 1000000 in
theorem rread_raw (s : ByteArray) (hs : s.size ≤ maxLen) (w : World) : Calls Try.prog 87 #[.string s] w (RReadPost s w) := by
  unfold maxLen at hs
  go_enter Try.func87, Try.ntmps87
  go_wp2_with fail
  go_loop [5] (fun n => RRel1 s n) (fun n => 10 - (intOf n).toNat)
  case atStart => exact ⟨0, Nat.zero_le _, Nat.zero_le _, rfl, Num.up_zero _⟩
  case round =>
    obtain ⟨k, hk, hk10, rfl, hup⟩ := hrel
    have HUP := Lib.hid hup
    clear hup
    by_cases hlt : k < s.size
    · by_cases h10 : k < 10
      · by_cases hb : 128 ≤ s[k].toNat
        · have H1 := Lib.hid (read_next HUP.out hlt hb)
          go_wp2_with fail
          go_round
          case rel => exact ⟨k + 1, by omega, by omega, by go_num, H1.out⟩
          case measure => simp [intOf]; omega
        · have hat : (0 : Int) = vmod s k (k + 1) := by
            unfold vmod
            rw [List.drop_eq_nil_of_le (by rw [List.length_take]; exact Nat.min_le_left _ _)]; rfl
          have HAT := Lib.hid hat
          clear hat
          have hne : ((k : Int) == (s.size : Int)) = false := by simp; omega
          have hne2 : ((k : Int) == 10) = false := by simp; omega
          go_wp2_with fail
          go_loop [6, 7] (fun x i => RRel2 s k x i) (fun _ i => (intOf i + 1).toNat)
          case atStart =>
            exact ⟨k + 1, by omega, congrArg (Value.int .i64) (by omega), by rw [← HAT.out]⟩
          case round =>
            obtain ⟨j, hj, rfl, rfl⟩ := hrel
            by_cases h0 : 1 ≤ j
            · obtain ⟨i, rfl⟩ : ∃ i, j = i + 1 := ⟨j - 1, by omega⟩
              have H1 := Lib.hid (rr_step (s := s) hlt (j := i) (by omega))
              go_wp2_with fail
              go_round
              case rel => exact ⟨i, by omega, rfl, by rw [H1.out]⟩
              case measure => simp only [intOf]; omega
            · have hv := vmod_range s k 0
              obtain rfl : j = 0 := by omega
              have hU : U64 (vmod s k 0) := hv
              have HY := Lib.hid (fun he => rread_yes HUP.out hlt h10 (by omega) he)
              have HN := Lib.hid (fun he => rread_no HUP.out hlt h10 (by omega) he)
              have ek : (k + 1 : Int) ≤ s.size := by omega
              have e3 : IntKind.i64.wrap ((k : Int) + 1) = (k : Int) + 1 := IntWalk.i64_in _ (by omega)
              have e4 : (0 : Int) ≤ (k : Int) + 1 := by omega
              have e5 : ((k : Int) + 1).toNat = k + 1 := by omega
              clear hv
              go_wp2_with fail
              go_region_with (go_at_call 90; ((with_reducible refine (ruint_any _ hU _).mono ?_); rintro e w' ⟨rfl, hb⟩))
              all_goals clear e3 e4 e5
              all_goals go_wp2_with fail
              · go_ret3
                exact rread_post (HN.out (str_nt ‹_›)) rfl rfl rfl ((Below.refl _ _).drew.trans hb)
              · go_ret3
                exact rread_post (HY.out (str_nf ‹_›)) (by unfold vmod; rw [List.drop_zero]) (by omega) rfl ((Below.refl _ _).drew.trans hb)
      · have H1 := Lib.hid (read_far HUP.out h10)
        have hk1 : 10 ≤ k := by omega
        have hne : ((k : Int) == (s.size : Int)) = false := by simp; omega
        have hne2 : ((k : Int) == 10) = true := by simp; omega
        go_wp2_with fail
        all_goals (go_ret3; exact rread_post H1.out rfl rfl rfl (Below.refl _ _))
    · by_cases h10 : k < 10
      · have H1 := Lib.hid (read_end HUP.out hk hlt h10)
        have hne : ((k : Int) == (s.size : Int)) = true := by simp; omega
        go_wp2_with fail
        all_goals (go_ret3; exact rread_post H1.out rfl rfl rfl (Below.refl _ _))
      · have H1 := Lib.hid (read_far HUP.out h10)
        have hk1 : 10 ≤ k := by omega
        have hne : ((k : Int) == (s.size : Int)) = true := by simp; omega
        have hne2 : ((k : Int) == 10) = true := by simp; omega
        go_wp2_with fail
        all_goals (go_ret3; exact rread_post H1.out rfl rfl rfl (Below.refl _ _))

/-! ### ReadInt -/
def readIntV (s : ByteArray) : Value := .tuple #[.int .i64 (Num.zag ((rdS s).1 : Nat)), .int .i64 ((rdS s).2.1 : Nat), .int .i64 ((rdS s).2.2 : Nat)]
theorem rdS_U64 (s : ByteArray) : U64 ((rdS s).1 : Nat) := by
  have h : (rdS s).1 < 18446744073709551616 := by
    rcases hr : rdS s with ⟨x, n, e⟩
    by_cases he : e = 0
    · subst he; exact (Num.rd_ok hr).2.2.1
    · have := Num.rd_err (l := s.data.toList)
      unfold rdS at hr
      rw [hr] at this
      simp at this
      rcases this with h | h
      · exact absurd h he
      · show x < _; omega
  unfold U64; omega
end Go.Proofs.Ytgdgonmhgpflcaa


/- A region that draws its order and whose operations read, make memory and call: each is told by what it yields, whatever came between. No condition. -/
namespace Go.Proofs.Ytgdgonmhgpflcaa
namespace Reg
set_option linter.unusedVariables false
open Go.RowKit
/-- What is told of a slot's value, in a world. -/
abbrev Spec := Value → World → Prop
def Is (c : Value) : Spec := fun v _ => v = c
def Grow (w w' : World) : Prop := Below w.heap.size w w'
def Stab (S : Spec) (G : World → World → Prop) : Prop := ∀ v w w', G w w' → S v w → S v w'
def StJ (J : World → Prop) (G : World → World → Prop) : Prop := ∀ w w', G w w' → J w → J w'
def JT : World → Prop := fun _ => True
theorem stj_t (G : World → World → Prop) : StJ JT G := fun _ _ _ _ => trivial
theorem stab_is (c : Value) (G : World → World → Prop) : Stab (Is c) G := fun _ _ _ _ h => h
def look : List (Option Tmp × Spec) → Tmp → Option Spec
  | [], _ => none
  | (d, S) :: r, t => if d = some t then some S else look r t
def Fact (K : List (Option Tmp × Spec)) (a0 : Act) (t : Tmp) (v : Value) (w : World) : Prop :=
  match look K t with
  | some S => S v w
  | none => v = a0.tmps.getD t undef
section
variable {P : Program} {ops : Array Oper} {Q : Exit → Act → World → Prop} {md : Region.Mode} {n : Nat} {I : World → Prop} {a0 : Act} {R : Act → World → Prop}
def OB (P : Program) (ops : Array Oper) (I J : World → Prop) (a0 : Act) (K : List (Option Tmp × Spec)) (o : Oper) (S : Spec) (G : World → World → Prop) : Prop :=
  ∀ a w, I w → J w → (∀ t ∈ o.looksAt ops, Fact K a0 t (a.tmps.getD t undef) w) →
    if Region.wanted o (yielded ops a.tmps) then o.wp P a w (fun a' w' => ∃ v, a' = a.put o.dst v ∧ S v w' ∧ G w w') (fun _ _ _ => False) else S undef w
def Final (R : Act → World → Prop) : List (Option Tmp × Spec) → Act → (World → Prop) → Prop
  | [], A, F => ∀ w, F w → R A w
  | (d, S) :: r, A, F => ∀ v, Final R r (A.put d v) (fun w => F w ∧ S v w)
def Rely (P : Program) (ops : Array Oper) (I : World → Prop) (w0 : World) (a0 : Act) (R : Act → World → Prop) : List Oper → List (Option Tmp × Spec) → List (World → World → Prop) → List (World → Prop) → Prop
  | [], K, _, _ => Final R K a0 I
  | o :: rest, K, Gs, Js =>
    (∃ S, Stab S Grow ∧ (∀ G ∈ Gs, Stab S G) ∧ OB P ops I JT a0 K o S Grow ∧ Rely P ops I w0 a0 R rest ((o.dst, S) :: K) Gs Js) ∨
    (∃ S G J, Stab S Grow ∧ (∀ G' ∈ Gs, Stab S G') ∧ (∀ w w', G w w' → I w → I w') ∧ (∀ p ∈ K, Stab p.2 G) ∧ OB P ops I J a0 K o S G ∧
      (StJ J Grow ∧ J w0 ∧ (∀ G' ∈ Gs, StJ J G') ∧ (∀ J' ∈ Js, StJ J' G)) ∧ Rely P ops I w0 a0 R rest ((o.dst, S) :: K) (G :: Gs) (J :: Js))
/-- What is told of the first k. -/
def Kof (ops : Array Oper) (S : Nat → Spec) : Nat → List (Option Tmp × Spec)
  | 0 => []
  | k + 1 => (((ops[k]?).bind (·.dst)), S k) :: Kof ops S k
theorem Kof_congr {S S' : Nat → Spec} : ∀ k, (∀ j, j < k → S j = S' j) → Kof ops S k = Kof ops S' k := by
  intro k
  induction k with
  | zero => intro _; rfl
  | succ k ih => intro h; simp only [Kof]; rw [h k (by omega), ih fun j hj => h j (by omega)]
structure Told (P : Program) (ops : Array Oper) (I : World → Prop) (a0 : Act) (S : Nat → Spec) (G : Nat → World → World → Prop) (J : Nat → World → Prop) (k : Nat) : Prop where
  inv : ∀ i, i < k → ∀ w w', G i w w' → I w → I w'
  stab : ∀ i j, i < k → j < k → i ≠ j → Stab (S j) (G i)
  ob : ∀ j o, j < k → ops[j]? = some o → OB P ops I (J j) a0 (Kof ops S j) o (S j) (G j)
  keep : ∀ i j, i < k → j < k → i ≠ j → StJ (J j) (G i)
theorem mem_Kof {S : Nat → Spec} {k j : Nat} (h : j < k) : (((ops[j]?).bind (·.dst)), S j) ∈ Kof ops S k := by
  induction k with
  | zero => omega
  | succ k ih =>
    simp only [Kof]
    by_cases hj : j = k
    · subst hj; exact List.mem_cons_self
    · exact List.mem_cons_of_mem _ (ih (by omega))
theorem told_of {w0 : World} (hIG : ∀ w w', Grow w w' → I w → I w') : ∀ (rest : List Oper) (k : Nat) (S : Nat → Spec) (G : Nat → World → World → Prop) (J : Nat → World → Prop) (Gs : List (World → World → Prop)) (Js : List (World → Prop)),
    (∀ j, j < rest.length → ops[k + j]? = rest[j]?) → Told P ops I a0 S G J k → (∀ j, j < k → Stab (S j) Grow) → (∀ i, i < k → G i = Grow ∨ G i ∈ Gs) →
    (∀ j, j < k → StJ (J j) Grow ∧ J j w0 ∧ (J j = JT ∨ J j ∈ Js)) →
    Rely P ops I w0 a0 R rest (Kof ops S k) Gs Js → ∃ S' G' J', Told P ops I a0 S' G' J' (k + rest.length) ∧ (∀ j, j < k + rest.length → J' j w0) ∧ Final R (Kof ops S' (k + rest.length)) a0 I := by
  intro rest
  induction rest with
  | nil => intro k S G J Gs Js _ ht _ _ hJ h; exact ⟨S, G, J, ht, fun j hj => (hJ j hj).2.1, h⟩
  | cons o rest ih =>
    intro k S G J Gs Js hops ht hgrow hGs hJ h
    have hk : ops[k]? = some o := by have := hops 0 (by simp); simpa using this
    -- the new one told
    have step : ∀ (Sn : Spec) (Gn : World → World → Prop) (Gs' : List (World → World → Prop)) (Jn : World → Prop) (Js' : List (World → Prop)), Stab Sn Grow → (∀ G ∈ Gs, Stab Sn G) → (∀ w w', Gn w w' → I w → I w') → (∀ j, j < k → Stab (S j) Gn) →
        OB P ops I Jn a0 (Kof ops S k) o Sn Gn → (Gn = Grow ∨ Gn ∈ Gs') → (∀ G ∈ Gs, G ∈ Gs') →
        (StJ Jn Grow ∧ Jn w0 ∧ (∀ G' ∈ Gs, StJ Jn G') ∧ (∀ j, j < k → StJ (J j) Gn)) → (Jn = JT ∨ Jn ∈ Js') → (∀ G ∈ Js, G ∈ Js') → Rely P ops I w0 a0 R rest ((o.dst, Sn) :: Kof ops S k) Gs' Js' →
        ∃ S' G' J', Told P ops I a0 S' G' J' (k + (o :: rest).length) ∧ (∀ j, j < k + (o :: rest).length → J' j w0) ∧ Final R (Kof ops S' (k + (o :: rest).length)) a0 I := by
      intro Sn Gn Gs' Jn Js' h1 h2 h3 h4 h5 h6 h7 h9 h10 h11 h8
      let S1 : Nat → Spec := fun j => if j = k then Sn else S j
      let G1 : Nat → World → World → Prop := fun j => if j = k then Gn else G j
      let J1 : Nat → World → Prop := fun j => if j = k then Jn else J j
      have eJ : ∀ j, j < k → J1 j = J j := fun j hj => by simp only [J1]; rw [if_neg (by omega)]
      have eJk : J1 k = Jn := if_pos rfl
      have eS : ∀ j, j < k → S1 j = S j := fun j hj => by simp only [S1]; rw [if_neg (by omega)]
      have eG : ∀ j, j < k → G1 j = G j := fun j hj => by simp only [G1]; rw [if_neg (by omega)]
      have eSk : S1 k = Sn := if_pos rfl
      have eGk : G1 k = Gn := if_pos rfl
      have eK : ∀ j, j ≤ k → Kof ops S1 j = Kof ops S j := fun j hj => Kof_congr j fun i hi => eS i (by omega)
      have hK : Kof ops S1 (k + 1) = (o.dst, Sn) :: Kof ops S k := by simp only [Kof, hk, Option.bind_some, eSk, eK k (Nat.le_refl _)]
      have htold : Told P ops I a0 S1 G1 J1 (k + 1) := by
        refine ⟨fun i hi w w' hg hI => ?_, fun i j hi hj hne => ?_, fun j oj hj hoj => ?_, fun i j hi hj hne => ?_⟩
        · by_cases hik : i = k
          · subst hik; rw [eGk] at hg; exact h3 w w' hg hI
          · rw [eG i (by omega)] at hg; exact ht.inv i (by omega) w w' hg hI
        · by_cases hik : i = k
          · subst hik; rw [eGk, eS j (by omega)]; exact h4 j (by omega)
          · rw [eG i (by omega)]
            by_cases hjk : j = k
            · subst hjk; rw [eSk]
              rcases hGs i (by omega) with e | e
              · rw [e]; exact h1
              · exact h2 _ e
            · rw [eS j (by omega)]; exact ht.stab i j (by omega) (by omega) hne
        · by_cases hjk : j = k
          · subst hjk; rw [eSk, eGk, eJk, eK j (Nat.le_refl _)]
            have : oj = o := Option.some.inj (hoj.symm.trans hk)
            subst this; exact h5
          · rw [eS j (by omega), eG j (by omega), eJ j (by omega), eK j (by omega)]; exact ht.ob j oj (by omega) hoj
        · by_cases hik : i = k
          · subst hik; rw [eGk, eJ j (by omega)]; exact h9.2.2.2 j (by omega)
          · rw [eG i (by omega)]
            by_cases hjk : j = k
            · subst hjk; rw [eJk]
              rcases hGs i (by omega) with e | e
              · rw [e]; exact h9.1
              · exact h9.2.2.1 _ e
            · rw [eJ j (by omega)]; exact ht.keep i j (by omega) (by omega) hne
      have := ih (k + 1) S1 G1 J1 Gs' Js' (fun j hj => by have := hops (j + 1) (by simp; omega); rw [show k + 1 + j = k + (j + 1) from by omega, this]; simp) htold
        (fun j hj => by
          by_cases hjk : j = k
          · subst hjk; rw [eSk]; exact h1
          · rw [eS j (by omega)]; exact hgrow j (by omega))
        (fun i hi => by
          by_cases hik : i = k
          · subst hik; rw [eGk]; exact h6
          · rw [eG i (by omega)]
            rcases hGs i (by omega) with e | e
            · exact .inl e
            · exact .inr (h7 _ e))
        (fun j hj => by
          by_cases hjk : j = k
          · subst hjk; rw [eJk]; exact ⟨h9.1, h9.2.1, h10⟩
          · rw [eJ j (by omega)]
            have := hJ j (by omega)
            exact ⟨this.1, this.2.1, this.2.2.imp id (h11 _)⟩)
        (by rw [hK]; exact h8)
      rw [show k + (o :: rest).length = k + 1 + rest.length from by simp; omega]
      exact this
    rcases h with ⟨Sn, h1, h2, h3, h4⟩ | ⟨Sn, Gn, Jn, h1, h2, h3, h4, h5, h7, h6⟩
    · exact step Sn Grow Gs JT Js h1 h2 hIG hgrow h3 (.inl rfl) (fun _ h => h) ⟨stj_t _, trivial, fun _ _ => stj_t _, fun j hj => (hJ j hj).1⟩ (.inl rfl) (fun _ h => h) h4
    · exact step Sn Gn (Gn :: Gs) Jn (Jn :: Js) h1 h2 h3 (fun j hj => h4 _ (mem_Kof hj)) h5 (.inr List.mem_cons_self) (fun _ h => List.mem_cons_of_mem _ h)
        ⟨h7.1, h7.2.1, h7.2.2.1, fun j hj => by
          rcases (hJ j hj).2.2 with e | e
          · rw [e]; exact stj_t _
          · exact h7.2.2.2 _ e⟩ (.inr List.mem_cons_self) (fun _ h => List.mem_cons_of_mem _ h) h6

/-! ### The check -/
def readsOk (md : Region.Mode) (ops : Array Oper) (n : Nat) (i : Nat) : Bool :=
  match ops[i]? with
  | some oi => (oi.looksAt ops).all fun t => (List.range n).all fun j =>
    (match ops[j]? with | some oj => oj.dst != some t || (decide (j < i) && ahead md ops ops.size j i) || (decide (i < j) && ahead md ops ops.size i j) | none => true)
  | none => false
def distOk (ops : Array Oper) (n : Nat) (i : Nat) : Bool :=
  (List.range n).all fun j => i == j || (match ops[i]?, ops[j]? with | some oi, some oj => oi.dst == none || oi.dst != oj.dst | _, _ => true)
def relyOk (P : Program) (md : Region.Mode) (ops : Array Oper) (n m : Nat) : Bool :=
  textOk P md ops n && decide (n ≤ ops.size) && (List.range n).all fun i => readsOk md ops n i && distOk ops n i &&
    ((List.range ops.size).all fun t => decide (t < n) || ahead md ops ops.size i t) &&
    (match (ops[i]?).bind (·.dst) with | some d => decide (d < m) | none => true)
structure BodyOk (P : Program) (md : Region.Mode) (ops : Array Oper) (n m : Nat) : Prop where
  ok : Ok P md ops n
  le : n ≤ ops.size
  reads : ∀ i oi, i < n → ops[i]? = some oi → ∀ t ∈ oi.looksAt ops, ∀ j oj, j < n → ops[j]? = some oj → oj.dst = some t → (j < i ∧ ahead md ops ops.size j i = true) ∨ (i < j ∧ ahead md ops ops.size i j = true)
  dist : ∀ i j oi oj d, i < n → j < n → i ≠ j → ops[i]? = some oi → ops[j]? = some oj → oi.dst = some d → oj.dst ≠ some d
  tail : ∀ i t, i < n → n ≤ t → t < ops.size → ahead md ops ops.size i t = true
  bound : ∀ i oi d, i < n → ops[i]? = some oi → oi.dst = some d → d < m
theorem bodyOk_of {m : Nat} (h : relyOk P md ops n m = true) : BodyOk P md ops n m := by
  unfold relyOk at h
  simp only [Bool.and_eq_true, decide_eq_true_eq, List.all_eq_true, List.mem_range] at h
  obtain ⟨⟨h1, h2⟩, h3⟩ := h
  refine ⟨ok_of h1, h2, fun i oi hi hoi t ht j oj hj hoj hd => ?_, fun i j oi oj d hi hj hne hoi hoj hd hd' => ?_, fun i t hi ht htl => ?_, fun i oi d hi hoi hd => ?_⟩
  · have := (h3 i hi).1.1.1
    unfold readsOk at this
    rw [hoi] at this
    simp only [List.all_eq_true, List.mem_range] at this
    have := this t ht j hj
    rw [hoj] at this
    simp only [Bool.or_eq_true, Bool.and_eq_true, decide_eq_true_eq, hd] at this
    rcases this with (h | h) | h
    · simp at h
    · exact .inl h
    · exact .inr h
  · have := (h3 i hi).1.1.2
    unfold distOk at this
    simp only [List.all_eq_true, List.mem_range, Bool.or_eq_true, beq_iff_eq] at this
    rcases this j hj with h | h
    · exact hne h
    · rw [hoi, hoj] at h
      simp only [hd, hd'] at h
      simp at h
  · have := (h3 i hi).1.2 t htl
    simp only [Bool.or_eq_true, decide_eq_true_eq] at this
    exact this.resolve_left (by omega)
  · have := (h3 i hi).2
    rw [hoi] at this
    simp only [Option.bind_some, hd, decide_eq_true_eq] at this
    exact this

/-! ### The theorem -/
def Holds (d : Option Tmp) (S : Spec) (a : Act) (w : World) : Prop :=
  match d with
  | some t => S (a.tmps.getD t undef) w
  | none => ∃ v, S v w
theorem act_ext {a b : Act} (hs : a.tmps.size = b.tmps.size) (hd : a.defers = b.defers) (h : ∀ t, a.tmps.getD t undef = b.tmps.getD t undef) : a = b := by
  cases a with | mk ta da => cases b with | mk tb db =>
  simp only at hs hd h
  subst hd
  congr 1
  apply Array.ext hs
  intro i h1 h2
  have := h i
  simpa [Array.getD_eq_getD_getElem?, h1, h2] using this
theorem put_size (a : Act) (d : Option Tmp) (v : Value) : (a.put d v).tmps.size = a.tmps.size := by cases d <;> simp [Act.put]
theorem put_defers' (a : Act) (d : Option Tmp) (v : Value) : (a.put d v).defers = a.defers := by cases d <;> rfl
theorem put_getD_ne (a : Act) (d : Option Tmp) (v : Value) (t : Nat) (h : d ≠ some t) : (a.put d v).tmps.getD t undef = a.tmps.getD t undef := by
  cases d with
  | none => rfl
  | some d =>
    have hne : d ≠ t := fun e => h (by rw [e])
    simp only [Act.put, Array.getD_eq_getD_getElem?, Array.getElem?_setIfInBounds_ne hne]
theorem put_getD_eq (a : Act) (t : Nat) (v : Value) (h : t < a.tmps.size) : (a.put (some t) v).tmps.getD t undef = v := by
  simp [Act.put, Array.getD_eq_getD_getElem?, h]
theorem final_use : ∀ (K : List (Option Tmp × Spec)) (A : Act) (F : World → Prop), Final R K A F → ∀ (a : Act) (w : World), a.tmps.size = A.tmps.size → a.defers = A.defers → F w →
    (∀ p ∈ K, Holds p.1 p.2 a w) → (∀ t, (∀ p ∈ K, p.1 ≠ some t) → a.tmps.getD t undef = A.tmps.getD t undef) → R a w := by
  intro K
  induction K with
  | nil =>
    intro A F h a w hs hd hF _ hag
    have : a = A := act_ext hs hd fun t => hag t fun p hp => by cases hp
    subst this; exact h w hF
  | cons p K ih =>
    intro A F h a w hs hd hF hh hag
    obtain ⟨d, S⟩ := p
    have h0 : Holds d S a w := hh _ List.mem_cons_self
    cases d with
    | none =>
      obtain ⟨v, hv⟩ := h0
      exact ih _ _ (h v) a w hs hd ⟨hF, hv⟩ (fun p hp => hh p (List.mem_cons_of_mem _ hp)) fun t ht => hag t fun p hp => by
        rcases List.mem_cons.1 hp with rfl | hp
        · simp
        · exact ht p hp
    | some d =>
      refine ih _ _ (h (a.tmps.getD d undef)) a w (by rw [put_size]; exact hs) (by rw [put_defers']; exact hd) ⟨hF, h0⟩ (fun p hp => hh p (List.mem_cons_of_mem _ hp)) fun t ht => ?_
      by_cases htd : d = t
      · subst htd
        rcases Nat.lt_or_ge d A.tmps.size with hlt | hge
        · rw [put_getD_eq _ _ _ hlt]
        · rw [Array.getD_eq_getD_getElem?, Array.getElem?_eq_none (by omega), Array.getD_eq_getD_getElem?, Array.getElem?_eq_none (by rw [put_size]; exact hge)]
      · rw [put_getD_ne _ _ _ _ (by simpa using htd)]
        exact hag t fun p hp => by
          rcases List.mem_cons.1 hp with rfl | hp
          · simpa using htd
          · exact ht p hp
theorem look_Kof {S : Nat → Spec} {t : Tmp} : ∀ (k : Nat), (∀ S', look (Kof ops S k) t = some S' → ∃ j, j < k ∧ (ops[j]?).bind (·.dst) = some t ∧ S' = S j) ∧ (look (Kof ops S k) t = none → ∀ j, j < k → (ops[j]?).bind (·.dst) ≠ some t) := by
  intro k
  induction k with
  | zero => exact ⟨fun _ h => by simp [Kof, look] at h, fun _ j hj => by omega⟩
  | succ k ih =>
    simp only [Kof, look]
    constructor
    · intro S' h
      split at h
      · rename_i e; cases h; exact ⟨k, by omega, e, rfl⟩
      · obtain ⟨j, hj, h1, h2⟩ := ih.1 S' h; exact ⟨j, by omega, h1, h2⟩
    · intro h j hj
      split at h
      · cases h
      · rename_i e
        by_cases hjk : j = k
        · subst hjk; exact e
        · exact ih.2 h j (by omega)
structure Inv (ops : Array Oper) (n : Nat) (S : Nat → Spec) (J : Nat → World → Prop) (I : World → Prop) (a0 : Act) (listed : Array Bool) (a : Act) (w : World) : Prop where
  size : a.tmps.size = a0.tmps.size
  defers : a.defers = a0.defers
  inv : I w
  done : ∀ j o, j < n → listed.getD j false = true → ops[j]? = some o → Holds o.dst (S j) a w
  rest : ∀ t, (∀ j o, j < n → listed.getD j false = true → ops[j]? = some o → o.dst ≠ some t) → a.tmps.getD t undef = a0.tmps.getD t undef
  tail : ∀ t, n ≤ t → t < ops.size → listed.getD t true = false
  pre : ∀ j, j < n → listed.getD j true = false → J j w
theorem wp_up {o : Oper} {a : Act} {w : World} {K K' : Act → World → Prop} (hK : ∀ a w, K a w → K' a w) (h : o.wp P a w K (fun _ _ _ => False)) : o.wp P a w K' Q := by
  unfold Oper.wp at h ⊢
  generalize (execOp a.eval o).run P w = r at h
  cases r with
  | ok n w' =>
    cases n <;> simp only [Oper.upon] at h ⊢
    case value v => exact hK _ _ h
    case skip => exact hK _ _ h
    case defer d => exact hK _ _ h
    case enter f args =>
      refine Calls.mono h fun e w'' hR => ?_
      cases e with
      | returned v => exact hK _ _ hR
      | panicked c => exact hR.elim
      | outgrown => obtain ⟨_, _, h⟩ := hR; exact h.elim
    case row row args => exact Rows.mono h fun v w'' hR => hK _ _ hR
  | halt x w' => cases x <;> simp only [Oper.upon] at h
theorem rely_any {S : Nat → Spec} {G : Nat → World → World → Prop} {J : Nat → World → Prop} (bo : BodyOk P md ops n a0.tmps.size) (ht : Told P ops I a0 S G J n)
    (hf : Final (fun a w => wpOps P ops (RegQ P ops n Q) (List.range' n (ops.size - n)) a w) (Kof ops S n) a0 I) :
    ∀ (fuel : Nat) (listed : Array Bool) (a : Act) (w : World), Closed md ops listed → (left ops.size listed).length ≤ fuel → Inv ops n S J I a0 listed a w → wpAny P md ops Q fuel listed a w := by
  intro fuel
  -- when the body is done
  have fin : ∀ (fuel : Nat) (listed : Array Bool) (a : Act) (w : World), Closed md ops listed → (left ops.size listed).length ≤ fuel → Inv ops n S J I a0 listed a w → (∀ j, j < n → listed.getD j false = true) → wpAny P md ops Q fuel listed a w := by
    intro fuel listed a w hc hlen inv hall
    have hleft : left ops.size listed = List.range' n (ops.size - n) := by
      have h1 : List.range ops.size = List.range n ++ List.range' n (ops.size - n) := by
        rw [List.range_eq_range', List.range_eq_range']
        have := List.range'_append (s := 0) (m := n) (n := ops.size - n) (step := 1)
        simp only [Nat.zero_add, Nat.one_mul] at this
        rw [this]; congr 1; have := bo.le; omega
      unfold left
      rw [h1, List.filter_append]
      have e1 : (List.range n).filter (fun i => !listed.getD i true) = [] := List.filter_eq_nil_iff.2 fun i hi => by
        have hin := List.mem_range.1 hi
        have := hall i hin
        have hlt : i < listed.size := by rw [hc.1]; have := bo.le; omega
        simp [hlt] at this ⊢; exact this
      have e2 : (List.range' n (ops.size - n)).filter (fun i => !listed.getD i true) = List.range' n (ops.size - n) := List.filter_eq_self.2 fun i hi => by
        have := List.mem_range'_1.1 hi
        rw [inv.tail i this.1 (by omega)]; rfl
      rw [e1, e2]; rfl
    refine text_any bo.ok fuel listed a w hc (fun k hk => by rw [hleft] at hk; exact (List.mem_range'_1.1 hk).1) hlen ?_
    rw [hleft]
    refine final_use _ _ _ hf a w inv.size inv.defers inv.inv (fun p hp => ?_) fun t htt => ?_
    · have : ∀ k, k ≤ n → p ∈ Kof ops S k → Holds p.1 p.2 a w := by
        intro k
        induction k with
        | zero => intro _ h; cases h
        | succ k ih =>
          intro hk h
          simp only [Kof] at h
          rcases List.mem_cons.1 h with rfl | h
          · have hlt : k < ops.size := by have := bo.le; omega
            have hok : ops[k]? = some ops[k] := Array.getElem?_eq_getElem hlt
            have := inv.done k _ (by omega) (hall k (by omega)) hok
            rw [hok]; exact this
          · exact ih (by omega) h
      exact this n (Nat.le_refl _) hp
    · exact inv.rest t fun j o hj _ hoj hd => htt _ (mem_Kof (S := S) hj) (by simp only [hoj, Option.bind_some]; exact hd)
  induction fuel with
  | zero =>
    intro listed a w hc hlen inv
    refine fin 0 listed a w hc hlen inv fun j hj => ?_
    cases hl : listed.getD j false with
    | true => rfl
    | false =>
      exfalso
      have hlt : j < ops.size := by have := bo.le; omega
      have : j ∈ left ops.size listed := mem_left.2 ⟨hlt, by
        have : j < listed.size := by rw [hc.1]; exact hlt
        simp [this] at hl ⊢; exact hl⟩
      have hnil : left ops.size listed = [] := List.eq_nil_of_length_eq_zero (by omega)
      rw [hnil] at this; cases this
  | succ fuel ih =>
    intro listed a w hc hlen inv
    by_cases hall : ∀ j, j < n → listed.getD j false = true
    · exact fin _ listed a w hc hlen inv hall
    · obtain ⟨b, hb⟩ := Classical.not_forall.1 hall
      obtain ⟨hbn, hbl⟩ := Classical.not_imp.1 hb
      have hbf : listed.getD b false = false := by simpa using hbl
      have hblt : b < ops.size := by have := bo.le; omega
      have hbt : listed.getD b true = false := by
        have : b < listed.size := by rw [hc.1]; exact hblt
        simp [this] at hbf ⊢; exact hbf
      refine ⟨fun hr => ?_, fun i hir => ?_⟩
      · exfalso
        -- some operation may come
        have hm : b ∈ left ops.size listed := mem_left.2 ⟨hblt, hbt⟩
        cases hl : left ops.size listed with
        | nil => rw [hl] at hm; cases hm
        | cons i L =>
          have hi := mem_left.1 (hl ▸ List.mem_cons_self : i ∈ left ops.size listed)
          have hoi : ops[i]? = some ops[i] := Array.getElem?_eq_getElem hi.1
          have : i ∈ Region.ready md ops listed := mem_ready.2 ⟨hi.2, _, hoi, fun e he hb => by
            have hlt := bo.ok.edge i _ hoi e he hb
            cases hge : listed.getD e.on false with
            | true => rfl
            | false =>
              exfalso
              have hm : e.on ∈ left ops.size listed := mem_left.2 ⟨by omega, by
                rw [Array.getD_eq_getD_getElem?, Array.getElem?_eq_getElem (by rw [hc.1]; omega)] at hge ⊢; exact hge⟩
              rw [hl] at hm
              rcases List.mem_cons.1 hm with h | h
              · omega
              · have hs := left_sorted ops.size listed
                rw [hl, List.pairwise_cons] at hs
                have := hs.1 _ h
                omega⟩
          rw [hr] at this; cases this
      · obtain ⟨hun, oi, hi, hdeps⟩ := mem_ready.1 hir
        have hilt : i < ops.size := (Array.getElem?_eq_some_iff.1 hi).1
        have hin : i < n := by
          rcases Nat.lt_or_ge i n with h | h
          · exact h
          · have := ahead_listed hc _ _ _ _ hi hdeps (bo.tail b i hbn h hilt)
            rw [hbf] at this; cases this
        have hclosed' : Closed md ops (listed.setIfInBounds i true) := by
          refine ⟨by simp [hc.1], fun j oj hj hl e he hb => ?_⟩
          by_cases hij : i = j
          · subst hij
            have : oj = oi := Option.some.inj (hj.symm.trans hi)
            subst this
            exact getD_set_true (hdeps e he hb)
          · rw [getD_set_ne false hij] at hl
            exact getD_set_true (hc.2 j oj hj hl e he hb)
        have hlen' : (left ops.size (listed.setIfInBounds i true)).length ≤ fuel := by
          have hm : i ∈ left ops.size listed := mem_left.2 ⟨hilt, hun⟩
          obtain ⟨pre, post, hsplit⟩ := List.append_of_mem hm
          rw [left_set hc.1 hsplit]
          rw [hsplit] at hlen
          simp only [List.length_append, List.length_cons] at hlen ⊢
          omega
        have hself : (listed.setIfInBounds i true).getD i false = true := by
          have : i < listed.size := by rw [hc.1]; exact hilt
          simp [Array.getD_eq_getD_getElem?, this]
        -- what it looks at is as told
        have hfacts : ∀ t ∈ oi.looksAt ops, Fact (Kof ops S i) a0 t (a.tmps.getD t undef) w := by
          intro t htl
          unfold Fact
          cases hlk : look (Kof ops S i) t with
          | some S' =>
            obtain ⟨j, hj, hdj, rfl⟩ := (look_Kof i).1 S' hlk
            cases hoj : ops[j]? with
            | none => rw [hoj] at hdj; cases hdj
            | some oj =>
              rw [hoj] at hdj
              simp only [Option.bind_some] at hdj
              have hlj : listed.getD j false = true := by
                rcases bo.reads i oi hin hi t htl j oj (by omega) hoj hdj with ⟨_, h⟩ | ⟨h, _⟩
                · exact ahead_listed hc _ _ _ _ hi hdeps h
                · omega
              have := inv.done j oj (by omega) hlj hoj
              rw [hdj] at this
              exact this
          | none =>
            have hno := (look_Kof i).2 hlk
            refine inv.rest t fun j oj hjn hlj hoj hd => ?_
            rcases bo.reads i oi hin hi t htl j oj hjn hoj hd with ⟨h, _⟩ | ⟨h, hah⟩
            · exact hno j h (by rw [hoj]; exact hd)
            · have hdj := hc.2 j oj hoj hlj
              have := ahead_listed hc _ _ _ _ hoj hdj hah
              rw [getD_tf hun] at this; cases this
        have hob := ht.ob i oi hin hi a w inv.inv (inv.pre i hin hun) hfacts
        -- the invariant behind it
        have hinv : ∀ v w', S i v w' → (w' = w ∨ G i w w') → Inv ops n S J I a0 (listed.setIfInBounds i true) (a.put oi.dst v) w' := by
          intro v w' hS hG
          refine ⟨by rw [put_size]; exact inv.size, by rw [put_defers']; exact inv.defers, ?_, fun j oj hj hl hoj => ?_, fun t htt => ?_, fun t ht1 ht2 => ?_, fun j hj hl => ?_⟩
          · rcases hG with rfl | hG
            · exact inv.inv
            · exact ht.inv i hin w w' hG inv.inv
          · by_cases hij : i = j
            · subst hij
              have : oj = oi := Option.some.inj (hoj.symm.trans hi)
              subst this
              unfold Holds
              cases hd : oj.dst with
              | none => exact ⟨v, hS⟩
              | some d =>
                simp only
                rw [put_getD_eq _ _ _ (by rw [inv.size]; exact bo.bound i oj d hin hi hd)]
                exact hS
            · rw [getD_set_ne false hij] at hl
              have h0 := inv.done j oj hj hl hoj
              have hst := ht.stab i j hin hj hij
              unfold Holds at h0 ⊢
              cases hd : oj.dst with
              | none =>
                rw [hd] at h0
                obtain ⟨u, hu⟩ := h0
                rcases hG with rfl | hG
                · exact ⟨u, hu⟩
                · exact ⟨u, hst u w w' hG hu⟩
              | some d =>
                rw [hd] at h0
                simp only at h0 ⊢
                rw [put_getD_ne _ _ _ _ (bo.dist j i oj oi d hj hin (fun e => hij e.symm) hoj hi hd)]
                rcases hG with rfl | hG
                · exact h0
                · exact hst _ w w' hG h0
          · rw [put_getD_ne _ _ _ _ (htt i oi hin hself hi)]
            exact inv.rest t fun j oj hj hl hoj => htt j oj hj (by
              by_cases hij : i = j
              · subst hij; exact hself
              · rw [getD_set_ne false hij]; exact hl) hoj
          · rw [getD_set_ne true (by omega)]; exact inv.tail t ht1 ht2
          · by_cases hij : i = j
            · subst hij
              have hlt : i < listed.size := by rw [hc.1]; exact hilt
              simp [Array.getD_eq_getD_getElem?, hlt] at hl
            · rw [getD_set_ne true hij] at hl
              have h0 := inv.pre j hj hl
              rcases hG with rfl | hG
              · exact h0
              · exact ht.keep i j hin hj hij w w' hG h0
        unfold wpOp
        rw [hi]
        simp only
        split at hob
        · rename_i hw
          rw [if_pos hw]
          refine .inl (wp_up (fun a' w' h' => ?_) hob)
          obtain ⟨v, rfl, hS, hG⟩ := h'
          exact ih _ _ _ hclosed' hlen' (hinv v w' hS (.inr hG))
        · rename_i hw
          rw [if_neg hw]
          exact ih _ _ _ hclosed' hlen' (hinv undef w hob (.inl rfl))
/-- A REGION THAT DRAWS ITS ORDER, BY WHAT EACH OPERATION YIELDS. The first n of its operations in whatever order, the others behind them as in the text. -/
theorem wp_rely (n : Nat) (I : World → Prop) {id : Nat} {l : List Oper} {w : World} (hm : P.follows .mixedOrders = true) (hok : relyOk P .any l.toArray n a0.tmps.size = true)
    (hI : I w.drew) (hIG : ∀ w w', Grow w w' → I w → I w')
    (h : Rely P l.toArray I w.drew a0 (fun A w => wpList P l.toArray (RegQ P l.toArray n Q) (l.drop n) A w) (l.take n) [] [] []) : (Code.region id l.toArray true).wp P Q a0 w := by
  have bo := bodyOk_of hok
  have hnl : n ≤ l.length := by simpa using bo.le
  have htail : ∀ A w, wpList P l.toArray (RegQ P l.toArray n Q) (l.drop n) A w → wpOps P l.toArray (RegQ P l.toArray n Q) (List.range' n (l.toArray.size - n)) A w := by
    intro A w h
    have := wpOps_eq_wpList (P := P) (ops := l.toArray) (Q := RegQ P l.toArray n Q) (l.drop n) n (by simp)
    rw [List.length_drop] at this
    rw [show l.toArray.size - n = l.length - n from by simp, this]
    exact h
  obtain ⟨S, G, J, ht, hJ0, hf⟩ := told_of (w0 := w.drew) (P := P) (ops := l.toArray) (R := fun A w => wpList P l.toArray (RegQ P l.toArray n Q) (l.drop n) A w) hIG (l.take n) 0 (fun _ _ _ => True) (fun _ => Grow) (fun _ => JT) [] []
    (fun j hj => by
      rw [List.length_take] at hj
      simp only [Nat.zero_add, List.getElem?_toArray]
      rw [List.getElem?_take, if_pos (by omega)]) ⟨fun i hi => by omega, fun i j hi => by omega, fun j o hj => by omega, fun i j hi => by omega⟩ (fun j hj => by omega) (fun i hi => by omega) (fun j hj => by omega) h
  have hlen : 0 + (l.take n).length = n := by rw [List.length_take]; omega
  rw [hlen] at ht hf hJ0
  have final_mono : ∀ (K : List (Option Tmp × Spec)) (A : Act) (F : World → Prop), Final (fun A w => wpList P l.toArray (RegQ P l.toArray n Q) (l.drop n) A w) K A F →
      Final (fun A w => wpOps P l.toArray (RegQ P l.toArray n Q) (List.range' n (l.toArray.size - n)) A w) K A F := by
    intro K
    induction K with
    | nil => intro A F h w hF; exact htail A w (h w hF)
    | cons p K ih => intro A F h v; exact ih _ _ (h v)
  refine wp_region_any hm (rely_any bo ht (final_mono _ _ _ hf) l.toArray.size _ a0 _ ⟨by simp, fun j oj hj hl => ?_⟩ ?_ ⟨rfl, rfl, hI, fun j o hj hl => ?_, fun _ _ => rfl, fun t _ ht => ?_, fun j hj _ => hJ0 j hj⟩)
  · rw [Array.getD_eq_getD_getElem?, Array.getElem?_replicate] at hl
    split at hl <;> simp at hl
  · unfold left
    exact Nat.le_trans (List.length_filter_le _ _) (by simp)
  · rw [Array.getD_eq_getD_getElem?, Array.getElem?_replicate] at hl
    split at hl <;> simp at hl
  · rw [Array.getD_eq_getD_getElem?, Array.getElem?_replicate, if_pos (by simpa using ht)]; rfl

/-! ### Its steps -/
theorem rely_nil {K : List (Option Tmp × Spec)} {Gs : List (World → World → Prop)} {Js : List (World → Prop)} {w0 : World} (h : Final R K a0 I) : Rely P ops I w0 a0 R [] K Gs Js := h
/-- An operation that yields one value, whatever the world in which I holds, and leaves the world. -/
theorem rely_is {o : Oper} {rest : List Oper} {K : List (Option Tmp × Spec)} {Gs : List (World → World → Prop)} {Js : List (World → Prop)} {w0 : World} (c : Value)
    (h : ∀ a w, I w → (∀ t ∈ o.looksAt ops, Fact K a0 t (a.tmps.getD t undef) w) → Det P ops o a w c)
    (hr : Rely P ops I w0 a0 R rest ((o.dst, Is c) :: K) Gs Js) : Rely P ops I w0 a0 R (o :: rest) K Gs Js := by
  refine .inl ⟨Is c, stab_is c _, fun G _ => stab_is c G, fun a w hI _ hF => ?_, hr⟩
  rcases h a w hI hF with ⟨hw, hrun⟩ | ⟨hw, rfl⟩
  · rw [if_pos hw]
    unfold Oper.wp
    rw [hrun]
    exact ⟨c, rfl, rfl, Below.refl _ _⟩
  · rw [if_neg (by simp [hw])]; rfl
theorem det_plain {o : Oper} {a : Act} {w : World} {v : Value} (hg : o.guard = none) (h : (execOp a.eval o).run P w = .ok (.value v) w) : Det P ops o a w v := .inl ⟨by simp [Region.wanted, hg], h⟩
/-- An operation that makes memory, or calls what does. -/
theorem rely_rel {o : Oper} {rest : List Oper} {K : List (Option Tmp × Spec)} {Gs : List (World → World → Prop)} {Js : List (World → Prop)} {w0 : World} (S : Spec) (hS : Stab S Grow) (hG : ∀ G ∈ Gs, Stab S G) (hg : o.guard = none)
    (h : ∀ a w, I w → (∀ t ∈ o.looksAt ops, Fact K a0 t (a.tmps.getD t undef) w) → o.wp P a w (fun a' w' => ∃ v, a' = a.put o.dst v ∧ S v w' ∧ Grow w w') (fun _ _ _ => False))
    (hr : Rely P ops I w0 a0 R rest ((o.dst, S) :: K) Gs Js) : Rely P ops I w0 a0 R (o :: rest) K Gs Js :=
  .inl ⟨S, hS, hG, fun a w hI _ hF => by rw [if_pos (by simp [Region.wanted, hg])]; exact h a w hI hF, hr⟩
/-- One that turns something that was there, out of a state that nothing else turns. -/
theorem rely_turn {o : Oper} {rest : List Oper} {K : List (Option Tmp × Spec)} {Gs : List (World → World → Prop)} {Js : List (World → Prop)} {w0 : World} (S : Spec) (G : World → World → Prop) (J : World → Prop) (hS : Stab S Grow) (hG : ∀ G ∈ Gs, Stab S G) (hI : ∀ w w', G w w' → I w → I w')
    (hK : ∀ p ∈ K, Stab p.2 G) (hg : o.guard = none) (hJ : StJ J Grow) (hJ0 : J w0) (hJG : ∀ G' ∈ Gs, StJ J G') (hJJ : ∀ J' ∈ Js, StJ J' G)
    (h : ∀ a w, I w → J w → (∀ t ∈ o.looksAt ops, Fact K a0 t (a.tmps.getD t undef) w) → o.wp P a w (fun a' w' => ∃ v, a' = a.put o.dst v ∧ S v w' ∧ G w w') (fun _ _ _ => False))
    (hr : Rely P ops I w0 a0 R rest ((o.dst, S) :: K) (G :: Gs) (J :: Js)) : Rely P ops I w0 a0 R (o :: rest) K Gs Js :=
  .inr ⟨S, G, J, hS, hG, hI, hK, fun a w hI hJ hF => by rw [if_pos (by simp [Region.wanted, hg])]; exact h a w hI hJ hF, ⟨hJ, hJ0, hJG, hJJ⟩, hr⟩
theorem final_nil {A : Act} {F : World → Prop} (h : ∀ w, F w → R A w) : Final R [] A F := h
theorem final_is {d : Option Tmp} {c : Value} {K : List (Option Tmp × Spec)} {A : Act} {F : World → Prop} (h : Final R K (A.put d c) F) : Final R ((d, Is c) :: K) A F := by
  intro v
  have mono : ∀ (K : List (Option Tmp × Spec)) (A : Act) (F F' : World → Prop), (∀ w, F' w → F w) → Final R K A F → Final R K A F' := by
    intro K
    induction K with
    | nil => intro A F F' hF h w hw; exact h w (hF w hw)
    | cons p K ih => intro A F F' hF h v; exact ih _ _ _ (fun w hw => ⟨hF w hw.1, hw.2⟩) (h v)
  by_cases hv : v = c
  · subst hv; exact mono K _ F _ (fun w hw => hw.1) h
  · have none : ∀ (K : List (Option Tmp × Spec)) (A : Act) (F : World → Prop), (∀ w, ¬ F w) → Final R K A F := by
      intro K
      induction K with
      | nil => intro A F hF w hw; exact absurd hw (hF w)
      | cons p K ih => intro A F hF v; exact ih _ _ fun w hw => hF w hw.1
    exact none K _ _ fun w hw => hv hw.2
theorem final_rel {d : Option Tmp} {S : Spec} {K : List (Option Tmp × Spec)} {A : Act} {F : World → Prop} (h : ∀ v, Final R K (A.put d v) (fun w => F w ∧ S v w)) : Final R ((d, S) :: K) A F := h
end
end Reg
end Go.Proofs.Ytgdgonmhgpflcaa


/- Blocks known whole, and worlds that differ in some blocks alone: small laws over any program. No condition. -/
namespace Go.Proofs.Ytgdgonmhgpflcaa
open Go.RowKit
set_option linter.unusedVariables false

/-- Block b holds the cells A. -/
def Blk (w : World) (b : Nat) (T : TypeId) (A : Array Value) : Prop := w.heap[b]? = some (.cells A T (0, 0))
theorem Blk.cell {w : World} {b : Nat} {T : TypeId} {A : Array Value} (h : Blk w b T A) (o : Nat) : w.cell? ⟨b, o, none⟩ = A[o]? := by
  unfold Blk at h; simp [World.cell?, h]
theorem Blk.frozen {w : World} {b : Nat} {T : TypeId} {A : Array Value} (h : Blk w b T A) (o : Nat) : w.frozen? ⟨b, o, none⟩ = false := by
  unfold Blk at h; simp [World.frozen?, h]
theorem Blk.lt {w : World} {b : Nat} {T : TypeId} {A : Array Value} (h : Blk w b T A) : b < w.heap.size := (Array.getElem?_eq_some_iff.1 h).1
theorem Blk.set {w : World} {b : Nat} {T : TypeId} {A : Array Value} (h : Blk w b T A) (o : Nat) (v : Value) : Blk (w.setCell ⟨b, o, none⟩ v) b T (A.setIfInBounds o v) := by
  unfold Blk at h ⊢
  simp [World.setCell, Array.getElem?_modify, h]
theorem Blk.set_ne {w : World} {b : Nat} {T : TypeId} {A : Array Value} (h : Blk w b T A) {p : Addr} (v : Value) (hne : b ≠ p.block) : Blk (w.setCell p v) b T A := by
  unfold Blk at h ⊢; rw [Below.heap_setCell _ _ _ _ hne]; exact h
theorem Blk.alloc {w : World} {b : Nat} {T : TypeId} {A : Array Value} (h : Blk w b T A) (o : Obj) : Blk (w.alloc o) b T A := by
  have := h.lt
  unfold Blk at h ⊢; rw [Below.heap_alloc _ _ _ this]; exact h
theorem Blk.drew {w : World} {b : Nat} {T : TypeId} {A : Array Value} (h : Blk w b T A) : Blk w.drew b T A := h
theorem Blk.new (w : World) (T : TypeId) (A : Array Value) : Blk (w.alloc (.cells A T)) w.heap.size T A := heap_alloc_new w _

/-- The worlds differ in new blocks and in those of S alone. -/
structure Only (S : Nat → Prop) (w w' : World) : Prop where
  os : w'.os = w.os
  tape : w'.tape = w.tape
  output : w'.output = w.output
  size : w.heap.size ≤ w'.heap.size
  block : ∀ k, k < w.heap.size → ¬ S k → w'.heap[k]? = w.heap[k]?
theorem Only.refl (S : Nat → Prop) (w : World) : Only S w w := ⟨rfl, rfl, rfl, Nat.le_refl _, fun _ _ _ => rfl⟩
theorem Only.trans {S : Nat → Prop} {a b c : World} (h : Only S a b) (k : Only S b c) : Only S a c :=
  ⟨k.os.trans h.os, k.tape.trans h.tape, k.output.trans h.output, Nat.le_trans h.size k.size, fun i hi hs => (k.block i (Nat.lt_of_lt_of_le hi h.size) hs).trans (h.block i hi hs)⟩
theorem Only.mono {S S' : Nat → Prop} {w w' : World} (h : Only S w w') (hs : ∀ k, k < w.heap.size → S k → S' k) : Only S' w w' :=
  ⟨h.os, h.tape, h.output, h.size, fun k hk hn => h.block k hk fun hk' => hn (hs k hk hk')⟩
theorem Only.of_below {S : Nat → Prop} {w w' : World} (h : Below w.heap.size w w') : Only S w w' := ⟨h.os, h.tape, h.output, h.size, fun k hk _ => h.block k hk⟩
theorem Only.below {S : Nat → Prop} {w w' : World} {B : Nat} (h : Only S w w') (hB : B ≤ w.heap.size) (hs : ∀ k, S k → B ≤ k) : Below B w w' :=
  ⟨h.os, h.tape, h.output, h.size, fun k hk => h.block k (by omega) fun hs' => by have := hs k hs'; omega⟩
theorem Only.drew {S : Nat → Prop} {a w : World} (h : Only S a w) : Only S a w.drew := ⟨h.os, h.tape, h.output, h.size, h.block⟩
theorem Only.alloc {S : Nat → Prop} {a w : World} (h : Only S a w) (o : Obj) : Only S a (w.alloc o) :=
  ⟨h.os, h.tape, h.output, by have := h.size; simp; omega, fun k hk hs => by rw [Below.heap_alloc _ _ _ (by have := h.size; omega)]; exact h.block k hk hs⟩
theorem Only.setCell {S : Nat → Prop} {a w : World} (h : Only S a w) {p : Addr} (hp : S p.block ∨ a.heap.size ≤ p.block) (v : Value) : Only S a (w.setCell p v) :=
  ⟨h.os, h.tape, h.output, by have := h.size; simp [World.setCell]; omega, fun k hk hs => by
    rw [Below.heap_setCell _ _ _ _ (by rcases hp with hp | hp
                                       · intro e; subst e; exact hs hp
                                       · omega)]
    exact h.block k hk hs⟩
theorem Only.set1 {b : Nat} {a w : World} (h : Only (· = b) a w) {o : Nat} {v : Value} : Only (· = b) a (w.setCell ⟨b, o, none⟩ v) := h.setCell (p := ⟨b, o, none⟩) (Or.inl rfl) v
theorem Only.step {S : Nat → Prop} {w w1 w2 : World} (h : Only S w w1) (k : Below w1.heap.size w1 w2) : Only S w w2 := h.trans (.of_below k)
theorem Only.stepB {S : Nat → Prop} {w w1 w2 : World} {B : Nat} (h : Only S w w1) (k : Below B w1 w2) (hB : w.heap.size ≤ B) : Only S w w2 :=
  ⟨k.os.trans h.os, k.tape.trans h.tape, k.output.trans h.output, Nat.le_trans h.size k.size, fun i hi hs => (k.block i (by omega)).trans (h.block i hi hs)⟩
theorem Blk.only {S : Nat → Prop} {w w' : World} {b : Nat} {T : TypeId} {A : Array Value} (h : Blk w b T A) (ho : Only S w w') (hs : ¬ S b) : Blk w' b T A := by
  have := h.lt
  unfold Blk at h ⊢; rw [ho.block b this hs]; exact h
theorem Blk.below {w w' : World} {b : Nat} {T : TypeId} {A : Array Value} (h : Blk w b T A) (ho : Below w.heap.size w w') : Blk w' b T A := by
  have := h.lt
  unfold Blk at h ⊢; rw [ho.block b this]; exact h
theorem Blk.belowB {B : Nat} {w w' : World} {b : Nat} {T : TypeId} {A : Array Value} (h : Blk w b T A) (ho : Below B w w') (hb : b < B) : Blk w' b T A := by
  unfold Blk at h ⊢; rw [ho.block b hb]; exact h
section
variable {P : Program} {ops : Array Oper} {rest : List Oper} {o : Oper} {a : Act} {Q : Exit → Act → World → Prop}
/-- 's = append(s, x)', x a row of cells that was laid just now. -/
theorem wpl_append_row {w0 : World} {ys : List Value} {e' : TypeId} {s x : Operand} {t e : TypeId} {z : Value} {size bytes : Nat} {base : Nat} {v : Value} {n : Nat} {xs : List Value} {nb : Nat}
    (hgd : o.guard = none) (ho : o.op = .call { callee := .builtin .append, args := #[s, x], argTypes := #[t, t] })
    (hx : a.eval x = .slice (some ⟨nb, 0, none⟩) 1 1) (hs : a.eval s = v)
    (ht : P.underlying t = some (.slice e)) (hi : Info P e z size bytes) (hz : z.cells.size = size) (hy : ys.all (·.oneCell') = true) (hl : ys.length = 1 * size) (hsz : 0 < size) (hb : bytes ≤ 1024)
    (hown : w0.ownsRow base e size v n xs) (hn : n < 2147483648) (hbase : base ≤ w0.heap.size) (hnb : nb = w0.heap.size)
    (h : ∀ v' w', w'.ownsRow base e size v' (n + 1) (xs ++ ys) → Below base w0 w' → wpList P ops Q rest (a.put o.dst v') w') :
    wpList P ops Q (o :: rest) a (w0.alloc (.cells ys.toArray e')) := by
  subst hnb
  obtain ⟨i, hi1, hi2, hi3, hi4⟩ := info_parts hi
  refine wpList_append_own _ hgd s x t ho base e i z size bytes ht hi1 hi2 hi3 hi4 hz hsz v n xs hs (hown.alloc _) _ 1 1 ys hx hl ?_ (fun u hu => List.all_eq_true.1 hy u hu)
    (by unfold maxLen; omega) (by have : (n + 1) * bytes ≤ 2147483648 * 1024 := Nat.mul_le_mul (by omega) hb; omega) (by simp; omega) ?_
  · intro j u hj
    have : (⟨w0.heap.size, 0, none⟩ : Addr).add j = ⟨w0.heap.size, j, none⟩ := by unfold Addr.add; split <;> simp_all
    rw [this, (Blk.new w0 e' ys.toArray).cell j]; simpa using hj
  intro v' w' h1 h2 _
  refine h v' w' h1 (((Below.refl _ _).alloc hbase _).grown h2 (by simp; omega) ?_)
  intro k hk
  exact (hown.lt k hk).1
end
/-! ### Whole arrays and records, out of the middle of a block -/
section
variable {P : Program} {ops : Array Oper} {rest : List Oper} {o : Oper} {a : Act} {w : World} {Q : Exit → Act → World → Prop}
theorem run_loadVar_part (g off : Nat) (ty : TypeId) (cs : List Value) (d : TypeDesc) (hc : ∀ j v, cs[j]? = some v → w.cell? ⟨g, off + j, none⟩ = some v)
    (hu : P.underlying ty = some d) (hd : (match d with | .struct _ | .array _ _ => true | _ => false) = true) (hi : (P.info? ty).map (·.size) = some cs.length) :
    (loadVar ty ⟨g, off, none⟩).run P w = .ok (.agg cs.toArray) w := by
  have hl : (loadCells ⟨g, off, none⟩ cs.length).run P w = .ok cs.toArray w :=
    run_loadCells_list (P := P) w ⟨g, off, none⟩ cs (fun j v hv => by
      have hadd : (⟨g, off, none⟩ : Addr).add j = ⟨g, off + j, none⟩ := by unfold Addr.add; split <;> simp_all
      rw [hadd]; exact hc j v hv)
  cases hq : P.info? ty with
  | none => simp [hq] at hi
  | some i =>
    have hs : i.size = cs.length := by simpa [hq] using hi
    have hagg : (isAgg ty).run P w = .ok true w := by
      unfold isAgg
      rw [Sem.run_bind, run_underlying hu w]
      cases d <;> simp_all
    simp [loadVar, Sem.run_bind, hagg, sizeOf, typeInfo, hq, hs, hl]
theorem wpl_load_part (hgd : o.guard = none) (ty : TypeId) (x : Operand) (ho : o.op = .load ty x) (g off : Nat) (hx : a.eval x = .pointer (some ⟨g, off, none⟩)) (cs : List Value) (d : TypeDesc)
    (hc : ∀ j v, cs[j]? = some v → w.cell? ⟨g, off + j, none⟩ = some v)
    (hu : P.underlying ty = some d) (hd : (match d with | .struct _ | .array _ _ => true | _ => false) = true) (hi : (P.info? ty).map (·.size) = some cs.length)
    (h : wpList P ops Q rest (a.put o.dst (.agg cs.toArray)) w) : wpList P ops Q (o :: rest) a w :=
  wpList_plain hgd fun K hK => by
    unfold Oper.wp execOp
    simp only [ho, hx, Instr.loadAt, Instr.sureAddr, Sem.run_bind, Sem.run_pure, Result.andThen_ok, run_loadVar_part g off ty cs d hc hu hd hi]
    exact hK _ _ h
/-- One record out of an array's cells. -/
theorem run_index_part {xt e : TypeId} {n m k : Nat} (F ys : Array Value) (d : TypeDesc) (hu : P.underlying xt = some (.array n e)) (he : P.underlying e = some d) (hd : (match d with | .struct _ | .array _ _ => true | _ => false) = true)
    (hi : (P.info? e).map (·.size) = some m) (hk : k < n) (hF : F.extract (k * m) (k * m + m) = ys) : (Instr.index xt (.agg F) (.int .i64 k)).run P w = .ok (.agg ys) w := by
  cases hq : P.info? e with
  | none => simp [hq] at hi
  | some i =>
    have hs : i.size = m := by simpa [hq] using hi
    have hagg : (isAgg e).run P w = .ok true w := by
      unfold isAgg
      rw [Sem.run_bind, run_underlying he w]
      cases d <;> simp_all
    have h1 : (0 : Int) ≤ k ∧ (k : Int) < n := by omega
    have h2 : (k : Int).toNat * m = k * m := by simp
    simp [Instr.index, Sem.run_bind, asIntOf, run_underlying hu, h1, part, hagg, sizeOf, typeInfo, hq, hs, hF]
    omega
end
/-- The k-th of rows of equal length. -/
theorem flat_extract {α β : Type} (f : α → List β) (m : Nat) (hf : ∀ x, (f x).length = m) (l : List α) (k : Nat) (h : k < l.length) : (l.flatMap f).toArray.extract (k * m) (k * m + m) = (f l[k]).toArray := by
  have hdrop : ∀ (l : List α) (k : Nat) (h : k < l.length), (l.flatMap f).drop (k * m) = f l[k] ++ (l.drop (k + 1)).flatMap f := by
    intro l
    induction l with
    | nil => intro k h; simp at h
    | cons x l ih =>
      intro k h
      cases k with
      | zero => simp
      | succ k =>
        have : (k + 1) * m = (f x).length + k * m := by rw [hf, Nat.succ_mul]; omega
        rw [List.flatMap_cons, this, List.drop_append, List.drop_eq_nil_of_le (by omega)]
        simp only [List.nil_append, Nat.add_sub_cancel_left, List.getElem_cons_succ, List.drop_succ_cons]
        exact ih k (by simpa using h)
  apply Array.ext'
  rw [Array.toList_extract]
  simp only [List.extract_eq_take_drop, Nat.add_sub_cancel_left]
  rw [hdrop l k h, List.take_append, List.take_of_length_le (by rw [hf]; exact Nat.le_refl _), hf, Nat.sub_self]
  simp
theorem setCell_size (w : World) (p : Addr) (v : Value) : (w.setCell p v).heap.size = w.heap.size := by simp [World.setCell]
end Go.Proofs.Ytgdgonmhgpflcaa


/- Steps of the theorem on regions that draw their order. No condition. -/
namespace Go.Proofs.Ytgdgonmhgpflcaa
namespace Reg
open Go.RowKit
set_option linter.unusedVariables false
section
variable {P : Program} {ops : Array Oper} {I : World → Prop} {a0 : Act} {R : Act → World → Prop} {o : Oper} {rest : List Oper} {K : List (Option Tmp × Spec)} {Gs : List (World → World → Prop)} {Js : List (World → Prop)} {w0 : World}
theorem looks1 {t : Tmp} (hop : o.op.operands = #[.tmp t]) : t ∈ o.looksAt ops := by simp [Oper.looksAt, hop]
theorem looksB {t : Tmp} (h : (o.looksAt ops).contains t = true) : t ∈ o.looksAt ops := by simpa using h
theorem looksN {t : Tmp} {os : Array Operand} (hop : o.op.operands = os) (h : Operand.tmp t ∈ os.toList) : t ∈ o.looksAt ops := by
  unfold Oper.looksAt
  rw [hop]
  exact List.mem_append_left _ (List.mem_filterMap.2 ⟨_, h, rfl⟩)
/-- An operation on one slot. -/
theorem rely_one (t : Tmp) (u c : Value) (hg : o.guard = none) (hop : o.op.operands = #[.tmp t]) (hu : ∀ v w, Fact K a0 t v w → v = u)
    (hrun : ∀ (ρ : Operand → Value) w, ρ (.tmp t) = u → I w → (execOp ρ o).run P w = .ok (.value c) w)
    (hr : Rely P ops I w0 a0 R rest ((o.dst, Is c) :: K) Gs Js) : Rely P ops I w0 a0 R (o :: rest) K Gs Js :=
  rely_is c (fun a w hI hF => det_plain hg (hrun _ w (hu _ w (hF t (looks1 hop))) hI)) hr
theorem rely_move (t : Tmp) (u : Value) (hg : o.guard = none) (hop : o.op = .move (.tmp t)) (hu : ∀ v w, Fact K a0 t v w → v = u)
    (hr : Rely P ops I w0 a0 R rest ((o.dst, Is u) :: K) Gs Js) : Rely P ops I w0 a0 R (o :: rest) K Gs Js :=
  rely_one t u u hg (by rw [hop]; rfl) hu (fun ρ w h _ => by simp [execOp, hop, h]) hr
/-- A call of a function whose arguments lie in slots. -/
theorem rely_call (S : Spec) (G : World → World → Prop) (J : World → Prop) (hS : Stab S Grow) (hG : ∀ G ∈ Gs, Stab S G) (hI : ∀ w w', G w w' → I w → I w')
    (hK : ∀ p ∈ K, Stab p.2 G) (hg : o.guard = none) (hJ : StJ J Grow) (hJ0 : J w0) (hJG : ∀ G' ∈ Gs, StJ J G') (hJJ : ∀ J' ∈ Js, StJ J' G)
    (f : FuncId) (args : Array Value) (hrun : ∀ (a : Act) (w : World), I w → (∀ t ∈ o.looksAt ops, Fact K a0 t (a.tmps.getD t undef) w) → (execOp a.eval o).run P w = .ok (.enter f args) w)
    (hc : ∀ w, I w → J w → Calls P f args w fun e w' => ∃ v, e = .returned v ∧ S v w' ∧ G w w')
    (hr : Rely P ops I w0 a0 R rest ((o.dst, S) :: K) (G :: Gs) (J :: Js)) : Rely P ops I w0 a0 R (o :: rest) K Gs Js := by
  refine rely_turn S G J hS hG hI hK hg hJ hJ0 hJG hJJ (fun a w hi hj hF => ?_) hr
  unfold Oper.wp
  rw [hrun a w hi hF]
  simp only [Oper.upon]
  refine (hc w hi hj).mono fun e w' ⟨v, he, h1, h2⟩ => ?_
  subst he
  exact ⟨v, rfl, h1, h2⟩
end
end Reg
end Go.Proofs.Ytgdgonmhgpflcaa
