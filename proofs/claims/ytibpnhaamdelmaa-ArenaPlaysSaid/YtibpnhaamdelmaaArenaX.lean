/- The walk of the arena's wakes. -/
import Derived.Test.YtibpnhaamdelmaaArenaE
namespace Go.Proofs.Ytibpnhaamdelmaa
open Go.RowKit Go.Maps Arena
set_option maxHeartbeats 4000000
set_option maxRecDepth 100000
def TrueExt (w : World) (e : Ending) (w' : World) : Prop := e = .returned (.bool true) ∧ Ext w w'
theorem cut_yes {w : World} {p g bm n : Nat} {ws : List Int} {R R' : List (Nat × Nat)} {k at_ : Nat} (h : ArenaAt w p g bm n ws R) (hk : 1 ≤ k) (hk2 : k ≤ 9223372036854775807) (hs : scan k 0 R = at_) (hfit : at_ + k ≤ n) (hR : ins (at_, k) R = R') :
    Calls Try.prog 10 #[.pointer (some ⟨p, 0, none⟩), .int .i64 k] w fun e w' => e = .returned (.tuple #[.int .i64 at_, .bool true]) ∧ ArenaAt w' p g bm n (setMany ws at_ (List.replicate k 0)) R' ∧ Turn [g, bm] w w' := by
  subst hs; subst hR
  refine (cut_is h hk hk2).mono ?_
  rintro e w' (⟨_, h1, h2, h3⟩ | ⟨h1, _⟩)
  · exact ⟨h1, h2, h3⟩
  · exact absurd hfit h1
theorem cut_no {w : World} {p g bm n : Nat} {ws : List Int} {R : List (Nat × Nat)} {k : Nat} (h : ArenaAt w p g bm n ws R) (hk : 1 ≤ k) (hk2 : k ≤ 9223372036854775807) (hfit : ¬ scan k 0 R + k ≤ n) :
    Calls Try.prog 10 #[.pointer (some ⟨p, 0, none⟩), .int .i64 k] w fun e w' => e = .returned (.tuple #[.int .i64 0, .bool false]) ∧ ArenaAt w' p g bm n ws R ∧ Turn [] w w' := by
  refine (cut_is h hk hk2).mono ?_
  rintro e w' (⟨h1, _⟩ | ⟨_, h1, h2⟩)
  · exact absurd h1 hfit
  · exact ⟨h1, h.ext h2, Turn.of_ext h2⟩
theorem word_lit (w : World) (l : List Int) (hl : l.length ≤ 1000) (T : TypeId) : WordSl (w.alloc (.cells (l.map fun x => Value.int .u64 x).toArray T)) (.slice (some ⟨w.heap.size, 0, none⟩) l.length l.length) l := by
  refine ⟨_, _, rfl, Nat.le_refl _, by unfold maxLen; omega, fun i x hx => ⟨w.heap.size, 0, rfl, ?_⟩⟩
  have hb := heap_alloc_new w (.cells (l.map fun x => Value.int .u64 x).toArray T)
  simp only [World.cell?, hb, Nat.zero_add]
  simp [hx]
theorem pair_lit (w : World) (l : List (Nat × Nat)) (hl : l.length ≤ 1000) (T : TypeId) : PairSl (w.alloc (.cells (l.flatMap pairC).toArray T)) (.slice (some ⟨w.heap.size, 0, none⟩) l.length l.length) l := by
  refine ⟨_, _, rfl, Nat.le_refl _, by unfold maxLen; omega, fun i x hx => ⟨w.heap.size, 0, rfl, ?_⟩⟩
  have hb := heap_alloc_new w (.cells (l.flatMap pairC).toArray T)
  have hf := flat2 l i x hx
  constructor
  · simp only [World.cell?, hb, Nat.zero_add]
    simp [hf.1]
  · simp only [World.cell?, hb, Nat.zero_add]
    simp [hf.2]
theorem arena_wakes (w : World) : Calls Try.prog 9 #[] w (TrueExt w) := by
  go_enter Try.func9, Try.ntmps9
  go_wp2_with fail
  refine (new_is (n := 10) (by omega) (by omega)).mono ?_; rintro e w1 ⟨p, g, bm, rfl, h1, hx1, hp, hg, hm⟩
  have H1 := Lib.hid h1; have HX := Lib.hid hx1
  clear h1 hx1
  go_wp2_with fail
  refine (new_no (n := 0) (.inl (by omega))).mono ?_; rintro e w' ⟨rfl, rfl⟩
  go_wp2_with fail
  refine (cut_yes (k := 4) (at_ := 0) (R' := [(0, 4)]) H1.out (by omega) (by omega) rfl (by omega) rfl).mono ?_; rintro e w2 ⟨rfl, h2, t2⟩
  have H2 := Lib.hid h2; have T2 := Lib.hid t2
  clear h2 t2
  go_wp2_with fail
  refine (cut_yes (k := 4) (at_ := 4) (R' := [(0, 4), (4, 4)]) H2.out (by omega) (by omega) rfl (by omega) rfl).mono ?_; rintro e w3 ⟨rfl, h3, t3⟩
  have H3 := Lib.hid h3; have T3 := Lib.hid (T2.out.trans t3)
  clear h3 t3
  go_wp2_with fail
  refine (cut_no (k := 4) H3.out (by omega) (by omega) (by decide)).mono ?_; rintro e w4 ⟨rfl, h4, t4⟩
  have H4 := Lib.hid h4; have T4 := Lib.hid (T3.out.trans (t4.mono (by simp)))
  clear h4 t4
  go_wp2_with fail
  refine (set_yes (r := (4, 4)) (a := 3) (v := 7) H4.out (by simp) (by decide)).mono ?_; rintro e w5 ⟨rfl, h5, t5⟩
  have H5 := Lib.hid h5; have T5 := Lib.hid (T4.out.trans (t5.mono (by simp)))
  clear h5 t5
  go_wp2_with fail
  refine (set_out (r := (4, 4)) (a := 4) (v := 7) H5.out (by simp) (.inr (by simp))).mono ?_; rintro e w' ⟨rfl, rfl⟩
  go_wp2_with fail
  refine (get_yes (r := (4, 4)) (a := 3) H5.out (by simp) (by decide)).mono ?_; rintro e w' ⟨rfl, rfl⟩
  go_wp2_with fail
  refine (free_yes (r := (0, 4)) H5.out (by simp)).mono ?_; rintro e w6 ⟨rfl, h6, t6⟩
  have H6 := Lib.hid h6; have T6 := Lib.hid (T5.out.trans (t6.mono (by simp)))
  clear h6 t6
  go_wp2_with fail
  refine (free_no (k := 1) H6.out (by decide) (by decide)).mono ?_; rintro e w' ⟨rfl, rfl⟩
  go_wp2_with fail
  refine (cut_yes (k := 2) (at_ := 0) (R' := [(0, 2), (4, 4)]) H6.out (by omega) (by omega) (by decide) (by omega) (by decide)).mono ?_; rintro e w7 ⟨rfl, h7, t7⟩
  have H7 := Lib.hid h7; have T7 := Lib.hid (T6.out.trans t7)
  clear h7 t7
  go_wp2_with fail
  refine (words_yes (r := (4, 4)) H7.out (by simp)).mono ?_; rintro e w8 ⟨v8, rfl, r8, x8⟩
  have e8 : (((setMany (((setMany (setMany (List.replicate 10 0) 0 (List.replicate 4 0)) 4 (List.replicate 4 0))).set (4 + 3) 7) 0 (List.replicate 2 0)).drop 4).take 4) = [0, 0, 0, 7] := by decide
  have s8 := WordSl.of_row (l := [0, 0, 0, 7]) r8
  have H8 := Lib.hid (H7.out.ext x8); have T8 := Lib.hid (T7.out.trans (Turn.of_ext x8))
  have S8 := Lib.hid (s8.ext (Ext.alloc w8 (.cells (([0, 0, 0, 7] : List Int).map fun x => Value.int .u64 x).toArray 29)))
  have L8 := Lib.hid (word_lit w8 [0, 0, 0, 7] (by decide) 29)
  have K8 := Lib.hid (keep_words S8.out L8.out)
  clear r8 x8 s8 e8
  go_wp2_with fail
  refine K8.out.mono ?_; rintro e w9 ⟨rfl, x9⟩
  have x9' := (Ext.alloc w8 (.cells (([0, 0, 0, 7] : List Int).map fun x => Value.int .u64 x).toArray 29)).trans x9
  have H9 := Lib.hid (H8.out.ext x9'); have T9 := Lib.hid (T8.out.trans (Turn.of_ext x9'))
  clear x9 x9'
  go_wp2_with fail
  refine (regions_is H9.out).mono ?_; rintro e w10 ⟨v10, rfl, r10, x10⟩
  have e10 := Ext.alloc w10 (.cells (([(0, 2), (4, 4)] : List (Nat × Nat)).flatMap pairC).toArray 55)
  have K10 := Lib.hid (keep_pairs (r10.sl.ext e10) (pair_lit w10 [(0, 2), (4, 4)] (by decide) 55) (by decide))
  have X10 := Lib.hid (x10.trans e10)
  clear r10 x10 e10
  go_wp2_with fail
  refine K10.out.mono ?_; rintro e w11 ⟨rfl, x11⟩
  have H11 := Lib.hid (H9.out.ext (X10.out.trans x11)); have T11 := Lib.hid (T9.out.trans (Turn.of_ext (X10.out.trans x11)))
  clear x11
  go_wp2_with fail
  refine (len_is H11.out).mono ?_; rintro e w' ⟨rfl, rfl⟩
  go_wp2_with fail
  refine (len_none _).mono ?_; rintro e w' ⟨rfl, rfl⟩
  go_wp2_with fail
  refine (free_none _ _).mono ?_; rintro e w' ⟨rfl, rfl⟩
  go_wp2_with fail
  go_ret
  exact ⟨rfl, Below.trans HX.out (T11.out.below HX.out.size (by intro b hb; simp at hb; rcases hb with h | h <;> omega))⟩
end Go.Proofs.Ytibpnhaamdelmaa
