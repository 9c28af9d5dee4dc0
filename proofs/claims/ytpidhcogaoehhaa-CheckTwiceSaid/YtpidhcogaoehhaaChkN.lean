import Derived.Test.YtpidhcogaoehhaaChkM
import Derived.Test.YtpidhcogaoehhaaChkX
import Derived.Test.YtpidhcogaoehhaaMgm
import Derived.Test.YtpidhcogaoehhaaCodeTa
import Derived.Test.YtpidhcogaoehhaaCodeU

/- The law 'CheckTwice': plain facts and contracts. No condition. -/
namespace Go.Proofs.Ytpidhcogaoehhaa
open Go.RowKit Cd Wire
set_option linter.unusedVariables false
set_option linter.unusedSimpArgs false
namespace Cd
theorem mayB_lim {l : List FunV} (h : mayB l = true) : Lim l := by
  obtain ⟨h1, h2⟩ := mayB_of h
  exact ⟨by omega, fun f hf => by have := (funB_of (h2 f hf)).2.2.1; omega⟩
/-- A formed program's bytes are read as that program. -/
theorem enc_dec {l : List FunV} (h : encC l = 0) (ho : OkP l) : dec (encV l) = (l, 0) := by
  unfold encC at h
  cases hm : mayB l with
  | false => rw [hm] at h; simp at h
  | true =>
    rw [hm] at h
    simp only [if_true] at h
    by_cases hs : 16384 < (progS l).size
    · rw [if_pos hs] at h; omega
    · have e : encV l = progS l := by unfold encV; rw [hm, if_pos rfl, if_neg hs]
      rw [e]
      exact dec_prog hm ho (by omega)
theorem look_forks {l : List FunV} {fn op : Nat} (h : lookE l = (0, fn, op)) : ∀ f ∈ l, ∀ o ∈ f.ops, o.k = 12 → 0 ≤ o.n ∧ o.n < l.length := fun f hf o ho hk => inB_iff.1 (fork_in ((look_zero h).2 f hf) ho hk)
theorem lim_dbl {l : List FunV} (h : Lim l) (h2 : 2 * l.length ≤ 16) : Lim (dbl l) := by
  refine ⟨by rw [dbl_length]; omega, fun f hf => ?_⟩
  rcases List.mem_append.1 (show f ∈ l ++ l.map (shF l.length) from hf) with h1 | h1
  · exact h.2 f h1
  · obtain ⟨f0, h0, rfl⟩ := List.mem_map.1 h1
    have := h.2 f0 h0
    simpa [shF] using this
theorem okp_dbl {l : List FunV} {fn op : Nat} (h : lookE l = (0, fn, op)) (ho : OkP l) (h2 : 2 * l.length ≤ 16) : OkP (dbl l) := by
  intro f hf
  rcases List.mem_append.1 (show f ∈ l ++ l.map (shF l.length) from hf) with h1 | h1
  · exact ho f h1
  · obtain ⟨f0, h0, rfl⟩ := List.mem_map.1 h1
    obtain ⟨a1, a2, a3⟩ := ho f0 h0
    refine ⟨a1, a2, fun o hoo => ?_⟩
    obtain ⟨o0, ho0, rfl⟩ := List.mem_map.1 (show o ∈ f0.ops.map (shO l.length) from hoo)
    by_cases hk : o0.k = 12
    · have := look_forks h f0 h0 o0 ho0 hk
      obtain ⟨b1, b2, b3, b4, b5⟩ := a3 o0 ho0
      refine ⟨by rw [shO_k]; exact b1, by rw [shO_d]; exact b2, by rw [shO_a]; exact b3, by rw [shO_b]; exact b4, ?_⟩
      rw [shO_fork hk]
      unfold I64
      omega
    · rw [shO_not hk]; exact a3 o0 ho0
end Cd
theorem reach_c {W : World} {x : Value} {l : List FunV} {fn : Int} {R : List Int} (hx : FunsAt W x l) (hl : Lim l) (ho : OkP l) (h : reachX l fn = R) : Calls Try.prog 12 #[.agg #[x], .int .i64 fn] W fun e w' => ∃ v, e = .returned v ∧ IntsAt w' v R ∧ Below W.heap.size W w' :=
  (reach_any hx hl ho).mono fun e w' ⟨v, h1, h2, h3⟩ => ⟨v, h1, h ▸ h2, h3⟩
theorem dec_c {s : ByteArray} {W : World} {l : List FunV} {c : Int} (h : dec s = (l, c)) : Calls Try.prog 15 #[.string s] W fun e w' => ∃ v, e = .returned (.tuple #[.agg #[v], .int .i64 c]) ∧ FunsAt w' v l ∧ Below W.heap.size W w' :=
  (decode_any s W).mono fun e w' ⟨v, l', c', h1, h2, h3, h4, h5⟩ => ⟨v, by rw [h1, h3, h], by rw [h2, h] at h4; exact h4, h5⟩
theorem enc_c {fs : List FunV} {W : World} {v : Value} {s : ByteArray} {c : Int} (hv : FunsAt W v fs) (hn : Lim fs) (ho : OkP fs) (h1 : encV fs = s) (h2 : encC fs = c) :
    Calls Try.prog 14 #[.agg #[v]] W fun e w' => e = .returned (.tuple #[.string s, .int .i64 c]) ∧ Below W.heap.size W w' :=
  (encode_go hv hn ho).mono fun e w' ⟨s', c', h, e1, e2, hb⟩ => ⟨by rw [h, e1, e2, h1, h2], hb⟩
/-- The program as it came, in its block. -/
structure TkW (W : World) (v : Value) (l : List FunV) (w : World) : Prop where
  t : Blk w W.heap.size 24 #[v]
  a : FunsAt w v l
  bel : Below W.heap.size W w
theorem TkW.step {W : World} {v : Value} {l : List FunV} {w w' : World} (h : TkW W v l w) (k : Below w.heap.size w w') : TkW W v l w' := ⟨h.t.below k, h.a.below k, h.bel.step k⟩
theorem TkW.alloc {W : World} {v : Value} {l : List FunV} {w : World} (h : TkW W v l w) (o : Obj) : TkW W v l (w.alloc o) := h.step ((Below.refl _ _).alloc (Nat.le_refl _) o)
theorem TkW.drew {W : World} {v : Value} {l : List FunV} {w : World} (h : TkW W v l w) : TkW W v l w.drew := h.step (Below.refl _ _).drew
end Go.Proofs.Ytpidhcogaoehhaa
