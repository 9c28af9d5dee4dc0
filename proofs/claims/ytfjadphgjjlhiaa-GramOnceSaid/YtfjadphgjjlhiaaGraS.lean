
/- The walks of the document's net's Take and Drop. No condition but that the rows are not too long and numbers rise. -/
import Derived.Test.YtfjadphgjjlhiaaGraR
namespace Go.Proofs.Ytfjadphgjjlhiaa
open Go.RowKit Go.Maps Gr Sok
set_option linter.unusedVariables false
set_option linter.unusedSimpArgs false
namespace Gr
theorem ix_none' {L : List G} {x : Int} (h : ix L x = none) : L.find? (fun g => g.id == x) = none := by
  unfold ix at h
  rw [List.findIdx?_eq_none_iff] at h
  rw [List.find?_eq_none]
  intro g hg; simp [h g hg]
theorem ix_some {L : List G} {x : Int} {i : Nat} (h : ix L x = some i) : ∃ hi : i < L.length, L[i].id = x ∧ L.find? (fun g => g.id == x) = some L[i] := by
  unfold ix at h
  rw [List.findIdx?_eq_some_iff_getElem] at h
  obtain ⟨hi, h1, h2⟩ := h
  refine ⟨hi, by simpa using h1, ?_⟩
  rw [List.find?_eq_some_iff_getElem]
  exact ⟨h1, i, hi, rfl, fun j hj => by simpa using h2 j hj⟩
theorem rem_at : ∀ {L : List G} {i : Nat} (hi : i < L.length), L.Pairwise (fun a b => a.id < b.id) → rem L L[i].id = L.eraseIdx i := by
  intro L
  induction L with
  | nil => intro i hi; simp at hi
  | cons a L ih =>
    intro i hi hp
    obtain ⟨h1, h2⟩ := List.pairwise_cons.1 hp
    cases i with
    | zero =>
      unfold rem
      rw [List.getElem_cons_zero, List.filter_cons_of_neg (by simp), List.eraseIdx_cons_zero, List.filter_eq_self]
      intro g hg; have := h1 g hg; simp; omega
    | succ i =>
      have hi' : i < L.length := by simpa using hi
      have hlt := h1 _ (List.getElem_mem hi')
      rw [List.getElem_cons_succ, List.eraseIdx_cons_succ, ← ih hi' h2]
      unfold rem
      rw [List.filter_cons_of_pos (by simp; omega)]
end Gr
/-- A call that leaves the net with other messages. -/
def GonR (w : World) (B r : Nat) (vC : Value) (last : Int) (L : List G) (Cs : List (Int × Int)) (v : Value) (e : Ending) (w' : World) : Prop :=
  e = .returned v ∧ ∃ vL', RW w' B r vL' vC last L Cs ∧ Only (· = r) w w'
theorem only_fin {r Q : Nat} {w X : World} (hQ : w.heap.size ≤ Q) (ho : Only (· = r) w X) (v0 v1 v2 v3 : Value) : Only (· = r) w ((((X.setCell ⟨Q, 0, none⟩ v0).setCell ⟨Q, 1, none⟩ v1).setCell ⟨Q, 2, none⟩ v2).setCell ⟨Q, 3, none⟩ v3) :=
  (((ho.setCell (p := ⟨Q, 0, none⟩) (.inr hQ) v0).setCell (p := ⟨Q, 1, none⟩) (.inr hQ) v1).setCell (p := ⟨Q, 2, none⟩) (.inr hQ) v2).setCell (p := ⟨Q, 3, none⟩) (.inr hQ) v3
section
variable {w w' : World} {B r : Nat} {vL vC : Value} {last : Int} {L : List G} {Cs : List (Int × Int)}
/-- .. while a block that is none of its own turns. -/
theorem RW.fin {X : World} (h : RW X B r vL vC last L Cs) {Q : Nat} (h1 : Q ≠ r) (h2 : ∀ g, vL.ownBlock = some g → g ≠ Q) (h3 : ∀ g, vC.ownBlock = some g → g ≠ Q) (v0 v1 v2 v3 : Value) : RW ((((X.setCell ⟨Q, 0, none⟩ v0).setCell ⟨Q, 1, none⟩ v1).setCell ⟨Q, 2, none⟩ v2).setCell ⟨Q, 3, none⟩ v3) B r vL vC last L Cs :=
  h.only (S := fun k => k = Q) (((((Only.refl (fun k => k = Q) X).setCell (p := ⟨Q, 0, none⟩) (.inl rfl) v0).setCell (p := ⟨Q, 1, none⟩) (.inl rfl) v1).setCell (p := ⟨Q, 2, none⟩) (.inl rfl) v2).setCell (p := ⟨Q, 3, none⟩) (.inl rfl) v3) (fun e => h1 e.symm) h2 h3
theorem RW.old {Q : Nat} (h : RW w B r vL vC last L Cs) (hQ : w.heap.size ≤ Q) : Q ≠ r ∧ (∀ g, vL.ownBlock = some g → g ≠ Q) ∧ (∀ g, vC.ownBlock = some g → g ≠ Q) := by
  have := h.blk.lt
  refine ⟨by omega, fun g hg => ?_, fun g hg => ?_⟩
  · have := (owns_type h.row hg).choose_spec.2.2; omega
  · have := (owns_type h.cuts hg).choose_spec.2.2; omega
set_option maxRecDepth 100000 in
set_option maxHeartbeats 2000000 in
theorem rtake_any (h : RW w B r vL vC last L Cs) (hL : L.length ≤ 100000) (hC : Cs.length ≤ 100000) (hp : L.Pairwise (fun a b => a.id < b.id)) (x : Int) {t : G × Int × List G} (ht : takeG (cutL Cs) L x = t) :
    Calls Try.prog 16 #[.pointer (some ⟨r, 0, none⟩), .int .u64 x] w (GonR w B r vC last t.2.2 Cs (.tuple #[gv t.1, .int .i64 t.2.1])) := by
  have hB0 : Below w.heap.size w (w.alloc (.cells #[.int .u64 0, .int .i64 0, .int .i64 0, .string ⟨#[]⟩] 33)) := (Below.refl _ _).alloc (Nat.le_refl _) _
  have HB0 := Lib.hid hB0
  have HZ0 := Lib.hid (Blk.new w 33 #[.int .u64 0, .int .i64 0, .int .i64 0, .string ⟨#[]⟩])
  have HR0 := Lib.hid (h.below hB0)
  have HOLD := Lib.hid (h.old (Nat.le_refl _))
  have HF := Lib.hid (find_any (h.below hB0) hL x)
  have HL := Lib.hid (And.intro hL (And.intro hC hp))
  have HT := Lib.hid ht
  clear h hL hC hp ht hB0
  go_enter Try.func16, Try.ntmps16
  go_upto_region 1 with fail
  generalize w.alloc (.cells #[.int .u64 0, .int .i64 0, .int .i64 0, .string ⟨#[]⟩] 33) = w1 at *
  generalize hQ : w.heap.size = Q at *
  have HQ := Lib.hid hQ
  clear hQ
  cases hix : ix L x with
  | none =>
    have HT2 : Hid (t = (g0, 5, L)) := Lib.hid (by rw [← HT.out]; unfold takeG; rw [ix_none' hix])
    have HIX : Hid (ixI L x = -1) := Lib.hid (by unfold ixI; rw [hix])
    clear hix HT
    have hf := HZ0.out.frozen
    have zc0 : (w1).cell? ⟨Q, 0, none⟩ = some (.int .u64 0) := by rw [HZ0.out.cell 0]; rfl
    have zc1 : (w1).cell? ⟨Q, 1, none⟩ = some (.int .i64 0) := by rw [HZ0.out.cell 1]; rfl
    have zc2 : (w1).cell? ⟨Q, 2, none⟩ = some (.int .i64 0) := by rw [HZ0.out.cell 2]; rfl
    have zc3 : (w1).cell? ⟨Q, 3, none⟩ = some (.string ⟨#[]⟩) := by rw [HZ0.out.cell 3]; rfl
    rw [HIX.out] at HF
    go_wp2_with (go_at_call 33; ((with_reducible refine HF.out.mono ?_); rintro e w2 ⟨rfl, rfl⟩))
    rw [HT2.out]
    exact ret_pair (cs := #[.int .u64 0, .int .i64 0, .int .i64 0, .string ⟨#[]⟩]) (T := 33) rfl rfl rfl ((((HZ0.out.set 0 _).set 1 _).set 2 _).set 3 _) Try.underlying33 rfl (by kernel_rfl) rfl ⟨rfl, _, HR0.out.fin HOLD.out.1 HOLD.out.2.1 HOLD.out.2.2 _ _ _ _, only_fin (Nat.le_of_eq HQ.out) (Only.of_below (by rw [HQ.out]; exact HB0.out)) _ _ _ _⟩
  | some i =>
    obtain ⟨hi, hx, hfi⟩ := ix_some hix
    have HT2 : Hid (t = if cutL Cs L[i].fr L[i].tt then (g0, 90, L) else (L[i], 0, L.eraseIdx i)) := Lib.hid (by rw [← HT.out]; unfold takeG; rw [hfi, ← hx, rem_at hi HL.out.2.2])
    have HIX : Hid (ixI L x = i) := Lib.hid (by unfold ixI; rw [hix])
    have HIL := Lib.hid hi
    obtain ⟨g, cap, eL, hbg, hgl, hgr, z0, z1, z2, z3⟩ := HR0.out.gram hi
    subst eL
    have c1 := HR0.out.c1
    have hil' : (i : Int) < (L.length : Int) := by omega
    have hi0 : (0 : Int) ≤ (i : Int) := by omega
    have hin : ¬ (i : Int) < 0 := by omega
    rw [HIX.out] at HF
    have HCUT := Lib.hid (fun (wz : World) (hz : RW wz B r (.slice (some ⟨g, 0, none⟩) L.length cap) vC last L Cs) => iscut_any hz HL.out.2.1 L[i].fr L[i].tt)
    have HG : Hid (∀ (wz : World) (vz : Value), RW wz B r vz vC last L Cs → Calls Try.prog 35 #[.pointer (some ⟨r, 0, none⟩), .int .i64 i] wz (GoneP wz B r vC last (L.eraseIdx i) Cs (.tuple #[]))) := Lib.hid fun wz vz hz => gone_any hz HL.out.1 HIL.out
    clear hix HT hx hfi hbg HIX
    generalize L[i] = q at *
    clear hi
    obtain ⟨id, fr, tt, tx⟩ := q
    dsimp only at z0 z1 z2 z3 HCUT HT2
    go_upto_region 5 with (go_at_call 33; ((with_reducible refine HF.out.mono ?_); rintro e w2 ⟨rfl, rfl⟩))
    have HRX := Lib.hid (HR0.out.alloc (.cells #[.int .u64 id, .int .i64 fr, .int .i64 tt, .string tx] 33))
    have HQX := Lib.hid (Blk.new w2 33 #[.int .u64 id, .int .i64 fr, .int .i64 tt, .string tx])
    have HZX := Lib.hid (HZ0.out.alloc (.cells #[.int .u64 id, .int .i64 fr, .int .i64 tt, .string tx] 33))
    have HBX : Hid (Below w.heap.size w (w2.alloc (.cells #[.int .u64 id, .int .i64 fr, .int .i64 tt, .string tx] 33))) := Lib.hid (by rw [HQ.out]; exact HB0.out.alloc (by have := HZ0.out.lt; omega) _)
    have HQR : Hid (w2.heap.size ≠ r) := Lib.hid (by have := HR0.out.blk.lt; omega)
    have HQN : Hid (w2.heap.size ≠ Q) := Lib.hid (by have := HZ0.out.lt; omega)
    clear c1 z0 z1 z2 z3 HR0 HZ0 HB0 HF hgl
    generalize w2.alloc (.cells #[.int .u64 id, .int .i64 fr, .int .i64 tt, .string tx] 33) = X at *
    generalize w2.heap.size = Y at *
    have HCX := Lib.hid (HCUT.out X HRX.out)
    clear HCUT
    have y0 : X.cell? ⟨Y, 0, none⟩ = some (.int .u64 id) := by rw [HQX.out.cell 0]; rfl
    have y1 : X.cell? ⟨Y, 1, none⟩ = some (.int .i64 fr) := by rw [HQX.out.cell 1]; rfl
    have y2 : X.cell? ⟨Y, 2, none⟩ = some (.int .i64 tt) := by rw [HQX.out.cell 2]; rfl
    have y3 : X.cell? ⟨Y, 3, none⟩ = some (.string tx) := by rw [HQX.out.cell 3]; rfl
    cases hcut : cutL Cs fr tt with
    | true =>
      have HT3 : Hid (t = (g0, 90, L)) := Lib.hid (by rw [HT2.out, hcut]; rfl)
      rw [hcut] at HCX
      have hf := HZX.out.frozen
      have zc0 : (X).cell? ⟨Q, 0, none⟩ = some (.int .u64 0) := by rw [HZX.out.cell 0]; rfl
      have zc1 : (X).cell? ⟨Q, 1, none⟩ = some (.int .i64 0) := by rw [HZX.out.cell 1]; rfl
      have zc2 : (X).cell? ⟨Q, 2, none⟩ = some (.int .i64 0) := by rw [HZX.out.cell 2]; rfl
      have zc3 : (X).cell? ⟨Q, 3, none⟩ = some (.string ⟨#[]⟩) := by rw [HZX.out.cell 3]; rfl
      go_wp2_with (go_at_call 34; ((with_reducible refine HCX.out.mono ?_); rintro e w5 ⟨rfl, rfl⟩))
      rw [HT3.out]
      exact ret_pair (cs := #[.int .u64 0, .int .i64 0, .int .i64 0, .string ⟨#[]⟩]) (T := 33) rfl rfl rfl ((((HZX.out.set 0 _).set 1 _).set 2 _).set 3 _) Try.underlying33 rfl (by kernel_rfl) rfl ⟨rfl, _, HRX.out.fin HOLD.out.1 HOLD.out.2.1 HOLD.out.2.2 _ _ _ _, only_fin (Nat.le_of_eq HQ.out) (Only.of_below HBX.out) _ _ _ _⟩
    | false =>
      have HT3 : Hid (t = (⟨id, fr, tt, tx⟩, 0, L.eraseIdx i)) := Lib.hid (by rw [HT2.out, hcut]; rfl)
      rw [hcut] at HCX
      have HGX := Lib.hid (HG.out X _ HRX.out)
      go_upto_region 8 with (first | (go_at_call 34; ((with_reducible refine HCX.out.mono ?_); rintro e w5 ⟨rfl, rfl⟩)) | (go_at_call 35; ((with_reducible refine HGX.out.mono ?_); rintro e w5 ⟨rfl, vL', hr5, ho5, hnew5⟩)))
      have HR5 := Lib.hid hr5
      have HO5 := Lib.hid ((Only.of_below (S := (· = r)) HBX.out).trans ho5)
      have HQ5 := Lib.hid (HQX.out.only ho5 HQR.out)
      have HZ5 := Lib.hid (HZX.out.only ho5 HOLD.out.1)
      have HOLD5 : Hid ((∀ g, vL'.ownBlock = some g → g ≠ Q) ∧ ∀ g, vC.ownBlock = some g → g ≠ Q) := Lib.hid ⟨fun g hg => by have := hnew5 g hg; have := HZX.out.lt; omega, HOLD.out.2.2⟩
      clear y0 y1 y2 y3 HCX HG HGX HRX hr5 ho5 hnew5 HQX HZX HBX
      have y0 : w5.cell? ⟨Y, 0, none⟩ = some (.int .u64 id) := by rw [HQ5.out.cell 0]; rfl
      have y1 : w5.cell? ⟨Y, 1, none⟩ = some (.int .i64 fr) := by rw [HQ5.out.cell 1]; rfl
      have y2 : w5.cell? ⟨Y, 2, none⟩ = some (.int .i64 tt) := by rw [HQ5.out.cell 2]; rfl
      have y3 : w5.cell? ⟨Y, 3, none⟩ = some (.string tx) := by rw [HQ5.out.cell 3]; rfl
      have hf := HZ5.out.frozen
      have zc0 : (w5).cell? ⟨Q, 0, none⟩ = some (.int .u64 0) := by rw [HZ5.out.cell 0]; rfl
      have zc1 : (w5).cell? ⟨Q, 1, none⟩ = some (.int .i64 0) := by rw [HZ5.out.cell 1]; rfl
      have zc2 : (w5).cell? ⟨Q, 2, none⟩ = some (.int .i64 0) := by rw [HZ5.out.cell 2]; rfl
      have zc3 : (w5).cell? ⟨Q, 3, none⟩ = some (.string ⟨#[]⟩) := by rw [HZ5.out.cell 3]; rfl
      go_wp2_with fail
      rw [HT3.out]
      exact ret_pair (cs := #[.int .u64 id, .int .i64 fr, .int .i64 tt, .string tx]) (T := 33) rfl rfl rfl ((((HZ5.out.set 0 _).set 1 _).set 2 _).set 3 _) Try.underlying33 rfl (by kernel_rfl) rfl ⟨rfl, _, HR5.out.fin HOLD.out.1 HOLD5.out.1 HOLD5.out.2 _ _ _ _, only_fin (Nat.le_of_eq HQ.out) HO5.out _ _ _ _⟩
set_option maxRecDepth 100000 in
set_option maxHeartbeats 2000000 in
theorem rdrop_any (h : RW w B r vL vC last L Cs) (hL : L.length ≤ 100000) (hp : L.Pairwise (fun a b => a.id < b.id)) (x : Int) {k : Int} (hk : (if hasId L x then 1 else 0) = k) :
    Calls Try.prog 18 #[.pointer (some ⟨r, 0, none⟩), .int .u64 x] w (GonR w B r vC last (rem L x) Cs (.int .i64 k)) := by
  have HR := Lib.hid h
  have HF := Lib.hid (find_any h hL x)
  have HL := Lib.hid (And.intro hL hp)
  have HK := Lib.hid hk
  clear h hL hp hk
  go_enter Try.func18, Try.ntmps18
  cases hix : ix L x with
  | none =>
    have hno : hasId L x = false := by
      unfold hasId
      rw [List.any_eq_false]
      intro g hg
      have := List.find?_eq_none.1 (ix_none' hix) g hg
      simpa using this
    have HT2 : Hid (rem L x = L ∧ k = 0) := Lib.hid ⟨rem_none hno, by rw [← HK.out, hno]; rfl⟩
    have HIX : Hid (ixI L x = -1) := Lib.hid (by unfold ixI; rw [hix])
    clear hix hno
    rw [HIX.out] at HF
    go_wp2_with (go_at_call 33; ((with_reducible refine HF.out.mono ?_); rintro e w2 ⟨rfl, rfl⟩))
    go_ret
    exact ⟨by rw [HT2.out.2]; rfl, vL, by rw [HT2.out.1]; exact HR.out, Only.refl _ _⟩
  | some i =>
    obtain ⟨hi, hx, hfi⟩ := ix_some hix
    have hyes : hasId L x = true := by unfold hasId; rw [List.any_eq_true]; exact ⟨_, List.getElem_mem hi, by simp [hx]⟩
    have HT2 : Hid (rem L x = L.eraseIdx i ∧ k = 1) := Lib.hid ⟨by rw [← hx, rem_at hi HL.out.2], by rw [← HK.out, hyes]; rfl⟩
    have HIX : Hid (ixI L x = i) := Lib.hid (by unfold ixI; rw [hix])
    have HG := Lib.hid (gone_any HR.out HL.out.1 hi)
    have hin : ¬ (i : Int) < 0 := by omega
    rw [HIX.out] at HF
    clear hix hyes hx hfi HIX hi
    go_wp2_with (first | (go_at_call 33; ((with_reducible refine HF.out.mono ?_); rintro e w2 ⟨rfl, rfl⟩)) | (go_at_call 35; ((with_reducible refine HG.out.mono ?_); rintro e w5 ⟨rfl, vL', hr5, ho5, hnew5⟩)))
    go_ret
    exact ⟨by rw [HT2.out.2]; rfl, vL', by rw [HT2.out.1]; exact hr5, ho5⟩
end
end Go.Proofs.Ytfjadphgjjlhiaa
