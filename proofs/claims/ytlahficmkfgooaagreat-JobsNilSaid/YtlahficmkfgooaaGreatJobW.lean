import Derived.Test.YtlahficmkfgooaaGreatJobV

/- What no jobs answer; a script's steps in the world; the statements' guards; the walk of JobsNil. No condition. -/
namespace Go.Proofs.YtlahficmkfgooaaGreat
open Go.RowKit Go.Maps Jb
set_option linter.unusedVariables false
set_option linter.unusedSimpArgs false
set_option maxRecDepth 100000 in
theorem cancel_nil (j : Int) (w : World) : Calls Tryz.prog 17 #[.pointer none, .int .u64 j] w fun e w' => e = .returned (.tuple #[.int .u8 0, .int .i64 1]) ∧ Below w.heap.size w w' := by
  have HM := Lib.hid (wcanc_nil (w.alloc (.cells #[.int .u8 0] 5)) j w.heap.size)
  have HG := Lib.hid (Blk.new w 5 #[.int .u8 0])
  have HW := Lib.hid ((Below.refl _ w).alloc (Nat.le_refl _) (.cells #[.int .u8 0] 5))
  go_enter Tryz.func17, Tryz.ntmps17
  go_wp2_with fail
  go_wp2_with (go_at_call 52; go_loud ((with_reducible refine HM.out.mono ?_); rintro e w1 ⟨rfl, hw1⟩; have hw1 := hw1.symm; subst hw1))
  refine bodyPost_ret (v := .tuple #[.int .u8 0, .int .i64 1]) (by rw [results_cell_tmp rfl]; simp [go_sem]) rfl ?_
  exact ⟨rfl, HW.out⟩
set_option maxRecDepth 100000 in
theorem done_nil (j v ev : Int) (w : World) : Calls Tryz.prog 18 #[.pointer none, .int .u64 j, .agg #[.int .i64 v, .int .i64 ev]] w fun e w' => e = .returned (.int .i64 1) ∧ Below w.heap.size w w' := by
  have HM := Lib.hid (wdone_nil (w.alloc (.cells #[.int .i64 v, .int .i64 ev] 39)) j w.heap.size)
  have HW := Lib.hid ((Below.refl _ w).alloc (Nat.le_refl _) (.cells #[.int .i64 v, .int .i64 ev] 39))
  go_enter Tryz.func18, Tryz.ntmps18
  go_wp2_with (go_at_call 52; go_loud ((with_reducible refine HM.out.mono ?_); rintro e w1 ⟨rfl, hw1⟩; have hw1 := hw1.symm; subst hw1))
  go_ret
  exact ⟨rfl, HW.out⟩
set_option maxRecDepth 100000 in
set_option maxHeartbeats 1000000 in
theorem find_nil (j : Int) (w : World) : Calls Tryz.prog 16 #[.pointer none, .int .u64 j] w fun e w' => e = .returned (.tuple #[.agg #[.int .u64 0, .string ⟨#[]⟩, .string ⟨#[]⟩, .slice none 0 0, .int .i64 0, .int .u8 0, .int .i64 0, .int .i64 0], .int .i64 1]) ∧ Below w.heap.size w w' := by
  have HM := Lib.hid (wfind_nil (w.alloc (.cells #[.int .u64 0, .string ⟨#[]⟩, .string ⟨#[]⟩, .slice none 0 0, .int .i64 0, .int .u8 0, .int .i64 0, .int .i64 0] 48)) j w.heap.size)
  have HX := Lib.hid (Blk.new w 48 #[.int .u64 0, .string ⟨#[]⟩, .string ⟨#[]⟩, .slice none 0 0, .int .i64 0, .int .u8 0, .int .i64 0, .int .i64 0])
  have HW := Lib.hid ((Below.refl _ w).alloc (Nat.le_refl _) (.cells #[.int .u64 0, .string ⟨#[]⟩, .string ⟨#[]⟩, .slice none 0 0, .int .i64 0, .int .u8 0, .int .i64 0, .int .i64 0] 48))
  go_enter Tryz.func16, Tryz.ntmps16
  go_wp2_with fail
  (with_reducible refine HM.out.mono ?_)
  rintro e w1 ⟨rfl, hw1⟩
  have hw1 := hw1.symm
  subst hw1
  go_wp2_with (first | (refine wpl_load_blk HX.out rfl _ _ rfl rfl Tryz.underlying48 rfl (by kernel_rfl) ?_) | (refine wpl_store_blk (c' := #[.int .u64 0, .string ⟨#[]⟩, .string ⟨#[]⟩, .slice none 0 0, .int .i64 0, .int .u8 0, .int .i64 0, .int .i64 0]) HX.out rfl _ _ _ rfl rfl rfl (by kernel_rfl) rfl (by simp [jcells, Value.oneCell']) ?_; go_loud (intro w2 hb2 ho2; have HX2 := Lib.hid hb2; have HO2 := Lib.hid ho2; clear hb2 ho2)))
  exact ret_pair (cs := #[.int .u64 0, .string ⟨#[]⟩, .string ⟨#[]⟩, .slice none 0 0, .int .i64 0, .int .u8 0, .int .i64 0, .int .i64 0]) (T := 48) rfl rfl rfl HX2.out Tryz.underlying48 rfl (by kernel_rfl) rfl ⟨rfl, HW.out.trans (Only.below HO2.out HW.out.size (fun k e => by have e' : k = w.heap.size := e; omega))⟩
set_option maxRecDepth 100000 in
theorem submit_nil (tok prog : ByteArray) (v : Value) (fuel : Int) (w : World) : Calls Tryz.prog 15 #[.pointer none, .string tok, .string prog, v, .int .i64 fuel] w fun e w' => e = .returned (.tuple #[.int .u64 0, .int .u8 0, .int .i64 1]) ∧ w = w' := by
  go_enter Tryz.func15, Tryz.ntmps15
  go_wp2_with (go_at_call 47; go_loud ((with_reducible refine (jnone_nil _).mono ?_); rintro e w1 ⟨rfl, rfl⟩))
  go_ret3
  exact ⟨rfl, rfl⟩
/-! ### A script -/
namespace Jb
structure StJ where
  k : Int
  tok : ByteArray
  prog : ByteArray
  inp : List Int
  fuel : Int
  job : Int
  val : Int
  err : Int
instance : Inhabited StJ := ⟨⟨0, ⟨#[]⟩, ⟨#[]⟩, [], 0, 0, 0, 0⟩⟩
def scells (s : StJ) (v : Value) : List Value := [.int .u8 s.k, .string s.tok, .string s.prog, v, .int .i64 s.fuel, .int .u64 s.job, .int .i64 s.val, .int .i64 s.err]
def LiteS (s : StJ) : Prop := s.prog.size ≤ 2048 ∧ s.tok.size ≤ 1024 ∧ s.inp.length ≤ 100
def LiteR (s : JR) : Prop := s.prog.size ≤ 2048 ∧ s.tok.size ≤ 1024 ∧ s.inp.length ≤ 100
end Jb
def StAt (W : World) (g o : Nat) (s : StJ) : Prop := ∃ v, IntsAt W v s.inp ∧ ∀ j u, (scells s v)[j]? = some u → W.cell? ⟨g, o + j, none⟩ = some u
def ScrAt (W : World) (v : Value) (l : List StJ) : Prop := ∃ p cap, v = .slice p l.length cap ∧ (0 < l.length → ∃ g off, p = some ⟨g, off, none⟩ ∧ g < W.heap.size ∧ ∀ i (h : i < l.length), StAt W g (off + i * 8) l[i])
theorem StAt.below {w w' : World} {g o : Nat} {s : StJ} (h : StAt w g o s) (hb : Below w.heap.size w w') (hg : g < w.heap.size) : StAt w' g o s := by
  obtain ⟨v, h1, h2⟩ := h
  exact ⟨v, h1.below hb, fun j u hu => by rw [hb.cell (p := ⟨g, o + j, none⟩) hg]; exact h2 j u hu⟩
theorem ScrAt.below {w w' : World} {v : Value} {l : List StJ} (h : ScrAt w v l) (hb : Below w.heap.size w w') : ScrAt w' v l := by
  obtain ⟨p, cap, rfl, hx⟩ := h
  refine ⟨p, cap, rfl, fun hl => ?_⟩
  obtain ⟨g, off, rfl, hg, hc⟩ := hx hl
  exact ⟨g, off, rfl, Nat.lt_of_lt_of_le hg hb.size, fun i hi => (hc i hi).below hb hg⟩
theorem ScrAt.slice {w : World} {v : Value} {l : List StJ} (h : ScrAt w v l) : ∃ p cap, v = .slice p l.length cap := by obtain ⟨p, cap, e, _⟩ := h; exact ⟨p, cap, e⟩
theorem ScrAt.ptr {w : World} {p : Option Addr} {c n : Nat} {l : List StJ} (h : ScrAt w (.slice p n c) l) {i : Nat} (hi : i < l.length) :
    ∃ g off, p = some ⟨g, off, none⟩ ∧ g < w.heap.size ∧ StAt w g (off + i * 8) l[i] := by
  obtain ⟨p', c', h1, h2⟩ := h
  injection h1 with h1 _ _
  subst h1
  obtain ⟨g, off, h3, h4, h5⟩ := h2 (by omega)
  exact ⟨g, off, h3, h4, h5 i hi⟩
/-- A script of one step, just laid. -/
theorem scr1 {W : World} {s : StJ} {v : Value} (hv : IntsAt W v s.inp) : ScrAt (W.alloc (.cells (scells s v).toArray 41)) (.slice (some ⟨W.heap.size, 0, none⟩) 1 1) [s] := by
  refine ⟨_, 1, rfl, fun _ => ⟨_, 0, rfl, by simp, fun i hi => ?_⟩⟩
  have : i = 0 := by simp at hi; omega
  subst this
  refine ⟨v, hv.below ((Below.refl _ W).alloc (Nat.le_refl _) _), fun j u hu => ?_⟩
  show _ = some u
  have h := (Blk.new W 41 (scells s v).toArray).cell (0 + 0 * 8 + j)
  rw [h]
  simpa using hu
def GrdP (P : Prop) (w : World) (e : Ending) (w' : World) : Prop := (∃ r : Bool, e = .returned (.bool r) ∧ (r = false → P)) ∧ Below w.heap.size w w'
set_option maxRecDepth 100000 in
set_option maxHeartbeats 2000000 in
theorem heavy_j {W : World} {v : Value} {l : List StJ} (hv : ScrAt W v l) : Calls Tryz.prog 14 #[v] W (GrdP (l.length ≤ 100 ∧ ∀ s ∈ l, LiteS s) W) := by
  obtain ⟨p, cap, rfl⟩ := hv.slice
  have HV := Lib.hid hv
  clear hv
  by_cases hbig : 100 < l.length
  · have hbig' : (100 : Int) < (l.length : Int) := by omega
    clear hbig
    go_enter Tryz.func14, Tryz.ntmps14
    go_wp2_with fail
    go_ret
    exact ⟨⟨true, rfl, fun h => by cases h⟩, Below.refl _ _⟩
  · have hbig' : ¬ (100 : Int) < (l.length : Int) := by omega
    have HBG := Lib.hid hbig
    clear hbig
    go_enter Tryz.func14, Tryz.ntmps14
    go_wp2_with fail
    go_loopw [3] (fun u wr => ∃ i : Nat, i ≤ l.length ∧ u = .int .i64 (i : Nat) ∧ (∀ s ∈ l.take i, LiteS s) ∧ Below W.heap.size W wr) (fun u _ => ((l.length : Int) - intOf u).toNat)
    case atStart => exact ⟨0, Nat.zero_le _, rfl, (fun s h => by cases h), Below.refl _ _⟩
    case round =>
      obtain ⟨i, hi0, rfl, hli, hbel⟩ := hrel
      have HLI := Lib.hid hli
      have HBL := Lib.hid hbel
      clear hli
      by_cases hi : i < l.length
      · obtain ⟨g, off, rfl, hg, hat⟩ := HV.out.ptr hi
        obtain ⟨va, hva, hx⟩ := hat.below hbel hg
        have HTK : Hid (l.take (i + 1) = l.take i ++ [l[i]]) := Lib.hid (List.take_succ_eq_append_getElem hi)
        have hi' : (i : Int) < (l.length : Int) := by omega
        have hi0' : (0 : Int) ≤ (i : Int) := by omega
        have HE : Hid (wrap64 ((i : Int) + 1) = ((i + 1 : Nat) : Int)) := Lib.hid (by have := HBG.out; unfold wrap64; omega)
        have HIN := Lib.hid hi
        generalize l[i] = x at *
        obtain ⟨pa, ca, rfl⟩ := hva.slice
        have x1 : wr.cell? ⟨g, off + i * 8 + 1, none⟩ = some (.string x.tok) := hx 1 _ rfl
        have x2 : wr.cell? ⟨g, off + i * 8 + 2, none⟩ = some (.string x.prog) := hx 2 _ rfl
        have x3 : wr.cell? ⟨g, off + i * 8 + 3, none⟩ = some (.slice pa x.inp.length ca) := hx 3 _ rfl
        clear hx hva hat hbel hi
        by_cases h2 : 2048 < x.prog.size
        · have h2' : (2048 : Int) < (x.prog.size : Int) := by omega
          clear h2
          go_wp2_with fail
          go_ret
          exact ⟨⟨true, rfl, fun h => by cases h⟩, HBL.out⟩
        · have h2' : ¬ (2048 : Int) < (x.prog.size : Int) := by omega
          by_cases h1 : 1024 < x.tok.size
          · have h1' : (1024 : Int) < (x.tok.size : Int) := by omega
            clear h1
            go_wp2_with fail
            go_ret
            exact ⟨⟨true, rfl, fun h => by cases h⟩, HBL.out⟩
          · have h1' : ¬ (1024 : Int) < (x.tok.size : Int) := by omega
            by_cases h3 : 100 < x.inp.length
            · have h3' : (100 : Int) < (x.inp.length : Int) := by omega
              clear h3
              go_wp2_with fail
              go_ret
              exact ⟨⟨true, rfl, fun h => by cases h⟩, HBL.out⟩
            · have h3' : ¬ (100 : Int) < (x.inp.length : Int) := by omega
              have HX : Hid (LiteS x) := Lib.hid ⟨by omega, by omega, by omega⟩
              clear h1 h2 h3
              go_wp2_with fail
              go_roundw
              case rel =>
                refine ⟨i + 1, by have := HIN.out; omega, by first | rw [HE.out] | simp, fun s hs => ?_, HBL.out⟩
                rw [HTK.out] at hs
                rcases List.mem_append.1 hs with h | h
                · exact HLI.out s h
                · simp at h; subst h; exact HX.out
              case measure => (try rw [HE.out]); simp [intOf]; have := HIN.out; omega
      · have hi' : ¬ (i : Int) < (l.length : Int) := by omega
        have HALL : Hid (l.take i = l) := Lib.hid (List.take_of_length_le (by omega))
        clear hi hi0 hbel
        go_wp2_with fail
        go_ret
        exact ⟨⟨false, rfl, fun _ => ⟨by have := HBG.out; omega, by have := HLI.out; rwa [HALL.out] at this⟩⟩, HBL.out⟩
set_option maxRecDepth 100000 in
        set_option maxHeartbeats 2000000 in
        theorem wide_j {W : World} {v : Value} {l : List JR} (hv : RowsAt W v l) : Calls Tryz.prog 7 #[v] W (GrdP (l.length ≤ 40 ∧ ∀ s ∈ l, LiteR s) W) := by
          obtain ⟨p, cap, rfl⟩ := hv.slice
          have HV := Lib.hid hv
          clear hv
          by_cases hbig : 40 < l.length
          · have hbig' : (40 : Int) < (l.length : Int) := by omega
            clear hbig
            go_enter Tryz.func7, Tryz.ntmps7
            go_wp2_with fail
            go_ret
            exact ⟨⟨true, rfl, fun h => by cases h⟩, Below.refl _ _⟩
          · have hbig' : ¬ (40 : Int) < (l.length : Int) := by omega
            have HBG := Lib.hid hbig
            clear hbig
            go_enter Tryz.func7, Tryz.ntmps7
            go_wp2_with fail
            go_loopw [3] (fun u wr => ∃ i : Nat, i ≤ l.length ∧ u = .int .i64 (i : Nat) ∧ (∀ s ∈ l.take i, LiteR s) ∧ Below W.heap.size W wr) (fun u _ => ((l.length : Int) - intOf u).toNat)
            case atStart => exact ⟨0, Nat.zero_le _, rfl, (fun s h => by cases h), Below.refl _ _⟩
            case round =>
              obtain ⟨i, hi0, rfl, hli, hbel⟩ := hrel
              have HLI := Lib.hid hli
              have HBL := Lib.hid hbel
              clear hli
              by_cases hi : i < l.length
              · obtain ⟨g, off, rfl, hg, hat⟩ := HV.out.ptr hi
                obtain ⟨va, hva, hx⟩ := hat.below hbel hg
                have HTK : Hid (l.take (i + 1) = l.take i ++ [l[i]]) := Lib.hid (List.take_succ_eq_append_getElem hi)
                have hi' : (i : Int) < (l.length : Int) := by omega
                have hi0' : (0 : Int) ≤ (i : Int) := by omega
                have HE : Hid (wrap64 ((i : Int) + 1) = ((i + 1 : Nat) : Int)) := Lib.hid (by have := HBG.out; unfold wrap64; omega)
                have HIN := Lib.hid hi
                generalize l[i] = x at *
                obtain ⟨pa, ca, rfl⟩ := hva.slice
                have x1 : wr.cell? ⟨g, off + i * 8 + 1, none⟩ = some (.string x.tok) := hx 1 _ rfl
                have x2 : wr.cell? ⟨g, off + i * 8 + 2, none⟩ = some (.string x.prog) := hx 2 _ rfl
                have x3 : wr.cell? ⟨g, off + i * 8 + 3, none⟩ = some (.slice pa x.inp.length ca) := hx 3 _ rfl
                clear hx hva hat hbel hi
                by_cases h2 : 2048 < x.prog.size
                · have h2' : (2048 : Int) < (x.prog.size : Int) := by omega
                  clear h2
                  go_wp2_with fail
                  go_ret
                  exact ⟨⟨true, rfl, fun h => by cases h⟩, HBL.out⟩
                · have h2' : ¬ (2048 : Int) < (x.prog.size : Int) := by omega
                  by_cases h1 : 1024 < x.tok.size
                  · have h1' : (1024 : Int) < (x.tok.size : Int) := by omega
                    clear h1
                    go_wp2_with fail
                    go_ret
                    exact ⟨⟨true, rfl, fun h => by cases h⟩, HBL.out⟩
                  · have h1' : ¬ (1024 : Int) < (x.tok.size : Int) := by omega
                    by_cases h3 : 100 < x.inp.length
                    · have h3' : (100 : Int) < (x.inp.length : Int) := by omega
                      clear h3
                      go_wp2_with fail
                      go_ret
                      exact ⟨⟨true, rfl, fun h => by cases h⟩, HBL.out⟩
                    · have h3' : ¬ (100 : Int) < (x.inp.length : Int) := by omega
                      have HX : Hid (LiteR x) := Lib.hid ⟨by omega, by omega, by omega⟩
                      clear h1 h2 h3
                      go_wp2_with fail
                      go_roundw
                      case rel =>
                        refine ⟨i + 1, by have := HIN.out; omega, by first | rw [HE.out] | simp, fun s hs => ?_, HBL.out⟩
                        rw [HTK.out] at hs
                        rcases List.mem_append.1 hs with h | h
                        · exact HLI.out s h
                        · simp at h; subst h; exact HX.out
                      case measure => (try rw [HE.out]); simp [intOf]; have := HIN.out; omega
              · have hi' : ¬ (i : Int) < (l.length : Int) := by omega
                have HALL : Hid (l.take i = l) := Lib.hid (List.take_of_length_le (by omega))
                clear hi hi0 hbel
                go_wp2_with fail
                go_ret
                exact ⟨⟨false, rfl, fun _ => ⟨by have := HBG.out; omega, by have := HLI.out; rwa [HALL.out] at this⟩⟩, HBL.out⟩
end Go.Proofs.YtlahficmkfgooaaGreat
