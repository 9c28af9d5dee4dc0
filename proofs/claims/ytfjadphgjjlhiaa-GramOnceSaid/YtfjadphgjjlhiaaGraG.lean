
/- The walk of a net's Drop. No condition but that the net is one. -/
import Derived.Test.YtfjadphgjjlhiaaGraF
namespace Go.Proofs.Ytfjadphgjjlhiaa
open Go.RowKit Go.Maps Gr Sok
set_option linter.unusedVariables false
set_option linter.unusedSimpArgs false
namespace Gr
/-- A row of uint64. -/
def Ul (w : World) (p : Option Addr) (xs : List Int) : Prop := (xs = [] ∨ ∃ g o, p = some ⟨g, o, none⟩ ∧ ∀ i, i < xs.length → w.cell? ⟨g, o + i, none⟩ = some (.int .u64 xs[i]!))
theorem Ul.only {S : Nat → Prop} {w w' : World} {p : Option Addr} {xs : List Int} (h : Ul w p xs) (ho : Only S w w') (hlt : ∀ g o, p = some ⟨g, o, none⟩ → g < w.heap.size ∧ ¬ S g) : Ul w' p xs := by
  rcases h with h | ⟨g, o, hp, hc⟩
  · exact .inl h
  · refine .inr ⟨g, o, hp, fun i hi => ?_⟩
    rw [← hc i hi]
    exact World.cell?_of_block (ho.block g (hlt g o hp).1 (hlt g o hp).2)
def hasId (L : List G) (x : Int) : Bool := L.any fun g => g.id == x
def rem (L : List G) (x : Int) : List G := L.filter fun g => !(g.id == x)
theorem hasId_t {L : List G} {x : Int} (h : hasId L x = true) : ∃ g ∈ L, g.id = x := by
  unfold hasId at h; rw [List.any_eq_true] at h
  obtain ⟨g, hg, e⟩ := h; exact ⟨g, hg, by simpa using e⟩
theorem hasId_f {L : List G} {x : Int} (h : hasId L x = false) : ¬ ∃ g ∈ L, g.id = x := by
  rintro ⟨g, hg, e⟩
  unfold hasId at h; rw [List.any_eq_false] at h
  exact h g hg (by simp [e])
theorem rem_none {L : List G} {x : Int} (h : hasId L x = false) : rem L x = L := by
  unfold rem; rw [List.filter_eq_self]
  intro g hg
  have := hasId_f h
  simp; intro e; exact this ⟨g, hg, e⟩
/-- One number dropped. -/
def dr (s : Nat × List G) (x : Int) : Nat × List G := (s.1 + (if hasId s.2 x then 1 else 0), rem s.2 x)
def drN (L : List G) (xs : List Int) : Nat × List G := xs.foldl dr (0, L)
theorem drN_take {L : List G} {xs : List Int} {i : Nat} (h : i < xs.length) : drN L (xs.take (i + 1)) = dr (drN L (xs.take i)) xs[i]! := by
  unfold drN; rw [List.take_succ_eq_append_getElem h, List.foldl_append, getElem!_pos xs i h]; rfl
end Gr
def DrR (w : World) (b h c : Nat) (last : Int) (L : List G) (xs : List Int) (C : Int → Int → Bool) (N : Nat) (u v : Value) (wr : World) : Prop :=
  ∃ i : Nat, i ≤ xs.length ∧ u = .int .i64 (drN L (xs.take i)).1 ∧ v = .int .i64 i ∧ (drN L (xs.take i)).1 ≤ i ∧ NW wr b h c last (drN L (xs.take i)).2 C N ∧ Only (· = h) w wr
def DrPost (w : World) (b h c : Nat) (last : Int) (L : List G) (xs : List Int) (C : Int → Int → Bool) (N : Nat) (e : Ending) (w' : World) : Prop :=
  e = .returned (.int .i64 (drN L xs).1) ∧ NW w' b h c last (drN L xs).2 C N ∧ Only (· = h) w w'
theorem only_cut {h : Nat} {w w1 : World} (hb : Below w.heap.size w w1) : Only (· = h) w w1 := Only.of_below hb
set_option maxRecDepth 100000 in
set_option maxHeartbeats 2000000 in
theorem drop_any {w : World} {b h c N : Nat} {last : Int} {L : List G} {C : Int → Int → Bool} (n : NW w b h c last L C N) {p : Option Addr} {m cap : Nat} {xs : List Int} (hp : Ul w p xs) (hm : xs.length = m) (hmx : m ≤ 100000)
    (hlt : ∀ g o, p = some ⟨g, o, none⟩ → g < w.heap.size ∧ ¬ g = h) (hu : ∀ x ∈ xs, U64 x) :
    Calls Try.prog 17 #[.pointer (some ⟨b, 0, none⟩), .slice p m cap] w (DrPost w b h c last L xs C N) := by
  have HP := Lib.hid hp
  have HM := Lib.hid (And.intro hm hmx)
  have HLT := Lib.hid hlt
  have HU := Lib.hid hu
  have HZ : Hid (DrR w b h c last L xs C N (.int .i64 0) (.int .i64 0) w) := Lib.hid ⟨0, Nat.zero_le _, rfl, rfl, Nat.le_refl _, n, Only.refl _ _⟩
  clear n hp hm hmx hlt hu
  go_enter Try.func17, Try.ntmps17
  go_wp2_with fail
  go_loopw [4, 11] (fun u v wr => DrR w b h c last L xs C N u v wr) (fun _ v _ => ((m : Int) - intOf v).toNat)
  case atStart => exact HZ.out
  case round =>
    clear HZ
    obtain ⟨i, hi, rfl, rfl, hcnt, hn, ho⟩ := hrel
    have HN := Lib.hid hn
    have HO := Lib.hid ho
    have HI := Lib.hid (And.intro hi hcnt)
    by_cases him : i < xs.length
    · have him' : (i : Int) < (m : Int) := by have := HM.out; omega
      have hi0 : (0 : Int) ≤ (i : Int) := by omega
      obtain ⟨g, o, rfl, hc⟩ : ∃ g o, p = some ⟨g, o, none⟩ ∧ ∀ i, i < xs.length → wr.cell? ⟨g, o + i, none⟩ = some (.int .u64 xs[i]!) := by
        rcases HP.out.only ho HLT.out with h0 | h1
        · rw [h0] at him; exact absurd him (Nat.not_lt_zero _)
        · exact h1
      have x0 := hc i him
      have hux : U64 xs[i]! := HU.out _ (by rw [getElem!_pos xs i him]; exact List.getElem_mem _)
      have hst := drN_take (L := L) him
      have HST := Lib.hid hst
      have HIM := Lib.hid him
      have HE : Hid (wrap64 ((i : Int) + 1) = ((i + 1 : Nat) : Int)) := Lib.hid (Sou.w64n rfl (by have := HM.out; omega))
      clear hc hi hcnt hn ho hst him
      generalize xs[i]! = x at *
      generalize drN L (xs.take i) = S at *
      obtain ⟨cnt, Lc⟩ := S
      dsimp only at HN HI ⊢
      have HE2 : Hid (wrap64 ((cnt : Int) + 1) = ((cnt + 1 : Nat) : Int)) := Lib.hid (Sou.w64n rfl (by have h1 := HI.out.1; have h2 : cnt ≤ i := HI.out.2; have := HM.out; omega))
      cases hh : hasId Lc x with
      | false =>
        have HC := Lib.hid (one_miss HN.out (hasId_f hh) hux)
        have HS2 : Hid (dr (cnt, Lc) x = (cnt, Lc)) := Lib.hid (by unfold dr; dsimp only; rw [hh, rem_none hh]; rfl)
        clear hh hux
        go_wp2_with (go_at_call 29; ((with_reducible refine HC.out.mono ?_); rintro e w1 ⟨rfl, hb⟩; have HB := Lib.hid (hb.alloc hb.size (.cells #[.int .u64 0, .int .i64 0, .int .i64 0, .string ⟨#[]⟩] 33)); clear hb; unfold gv g0))
        have HZ : Hid (DrR w b h c last L xs C N (.int .i64 cnt) (.int .i64 ((i + 1 : Nat) : Int)) (w1.alloc (.cells #[.int .u64 0, .int .i64 0, .int .i64 0, .string ⟨#[]⟩] 33))) := Lib.hid ⟨i + 1, HIM.out, by rw [HST.out, HS2.out], rfl, by rw [HST.out, HS2.out]; have := HI.out.2; dsimp only at this ⊢; omega, by rw [HST.out, HS2.out]; exact HN.out.below HB.out, HO.out.trans (Only.of_below HB.out)⟩
        clear x0 HB
        go_roundw
        case rel => first | exact HZ.out | (rw [HE.out]; exact HZ.out)
        case measure => have := HIM.out; have := HM.out; first | (simp [intOf]; omega) | (rw [HE.out]; simp [intOf]; omega)
      | true =>
        obtain ⟨g1, hg1, hgx⟩ := hasId_t hh
        have HC := Lib.hid (one_any HN.out hg1 hgx)
        have HS2 : Hid (dr (cnt, Lc) x = (cnt + 1, rem Lc x)) := Lib.hid (by unfold dr; dsimp only; rw [hh]; rfl)
        have HX := Lib.hid hux
        clear hh hux hg1 hgx
        obtain ⟨id, fr, tt, tx⟩ := g1
        go_upto_region 6 with (go_at_call 29; ((with_reducible refine HC.out.mono ?_); rintro e w1 ⟨rfl, hb⟩; have HB := Lib.hid (hb.alloc hb.size (.cells #[.int .u64 id, .int .i64 fr, .int .i64 tt, .string tx] 33)); clear hb; unfold gv))
        have HN2 := Lib.hid (HN.out.below HB.out)
        have HO2 := Lib.hid (HO.out.trans (Only.of_below (S := (· = h)) HB.out))
        generalize w1.alloc (.cells #[.int .u64 id, .int .i64 fr, .int .i64 tt, .string tx] 33) = X at *
        have n1 := HN2.out.c1
        obtain ⟨D, o, o1, o2, o3⟩ := HN2.out.gm
        have HOW := Lib.hid o
        have HKEY := Lib.hid (keyG HX.out)
        have HF : Hid (∀ w5, w5.ownsMap Try.prog 29 gramE h N (D.del (KU x)) → X.mapTurned w5 h → NW w5 b h c last (rem Lc x) C N ∧ Only (· = h) X w5) := Lib.hid fun w5 o' t' => by
          obtain ⟨p1, p2, p3⟩ := del_ok o.isMap (o.tidy kdG) o1 o2 o3 HN2.out.inv.2.2.1 x
          have hoh := only_turned t'.grown
          exact ⟨⟨HN2.out.blk.only hoh HN2.out.ap.1, ⟨_, o', p1, p2, p3⟩, HN2.out.cm.kept t'.grown (by intro e; injection e with e; exact HN2.out.ap.2.2 e.symm), HN2.out.ap, inv_del HN2.out.inv _⟩, hoh⟩
        clear o o1 o2 o3 x0 HB
        go_wp2_with (at_delete; refine wpList_delete_own _ rfl _ _ 55 29 rfl 33 kdG Try.underlying55 _ h N D rfl HOW.out _ (KU x) rfl HKEY.out ?_; intro w5 o5 t5; have HR := Lib.hid (HF.out w5 o5 t5); clear o5 t5 n1)
        have HZ : Hid (DrR w b h c last L xs C N (.int .i64 ((cnt + 1 : Nat) : Int)) (.int .i64 ((i + 1 : Nat) : Int)) w5) := Lib.hid ⟨i + 1, HIM.out, by rw [HST.out, HS2.out], rfl, by rw [HST.out, HS2.out]; have := HI.out.2; dsimp only at this ⊢; omega, by rw [HST.out, HS2.out]; exact HR.out.1, HO2.out.trans HR.out.2⟩
        go_roundw
        case rel => first | exact HZ.out | (rw [HE.out]; exact HZ.out) | (rw [show wrap64 ((cnt : Int) + 1) = ((cnt + 1 : Nat) : Int) from HE2.out, HE.out]; exact HZ.out) | (rw [show wrap64 ((cnt : Int) + 1) = ((cnt + 1 : Nat) : Int) from HE2.out]; exact HZ.out)
        case measure => have := HIM.out; have := HM.out; first | (simp [intOf]; omega) | (rw [HE.out]; simp [intOf]; omega)
    · have hie : i = xs.length := by have := HI.out; omega
      have him' : ¬ (i : Int) < (m : Int) := by have := HM.out; omega
      have HT : Hid (xs.take i = xs) := Lib.hid (by rw [hie]; exact List.take_length)
      clear hi hcnt hn ho him hie
      rw [HT.out] at HN ⊢
      go_wp2_with fail
      go_ret
      exact ⟨rfl, HN.out, HO.out⟩
end Go.Proofs.Ytfjadphgjjlhiaa
