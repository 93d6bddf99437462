/- The boxes' wakes. -/
import Derived.Test.YtalfmlhiooaigaaBoxL
namespace Go.Proofs.Ytalfmlhiooaigaa
open Go.RowKit Go
set_option maxHeartbeats 4000000
set_option maxRecDepth 100000
def oneL : List Cl := [⟨1, 1, 2, ByteArray.empty⟩, ⟨0, 0, 1, ByteArray.empty⟩, ⟨1, 1, 2, ByteArray.empty⟩, ⟨2, 0, 0, ⟨#[97, 98]⟩⟩, ⟨0, 0, 0, ByteArray.empty⟩]
theorem oneL_good : goodM oneL = true := by decide +kernel
theorem oneL_sum : wsum oneL = 8 := by decide +kernel
def numL (n : Int) : List Cl := [⟨0, 0, n, ByteArray.empty⟩]
theorem five_good : goodM (numL 5) = true := by decide +kernel
theorem six_good : goodM (numL 6) = true := by decide +kernel
theorem five_sum : wsum (numL 5) = 0 := by decide +kernel
theorem six_sum : wsum (numL 6) = 0 := by decide +kernel
theorem num_msg (w : World) (n : Int) : MsgP (w.alloc (.cells #[.int .i64 0, .int .i64 0, .int .i64 n, .string ByteArray.empty] 41)) (.slice (some ⟨w.heap.size, 0, none⟩) 1 1) (numL n) :=
  rows_of_block (cs := #[.int .i64 0, .int .i64 0, .int .i64 n, .string ByteArray.empty]) (heap_alloc_new _ _) rfl (by intro u hu; simp at hu; rcases hu with rfl | rfl | rfl | rfl <;> rfl)
theorem one_is' (w : World) : Calls Try.prog 17 #[] w fun e w' => ∃ v', e = .returned v' ∧ OwnP w' w.heap.size 41 v' 4 (oneL.map celC) ∧ Ext w w' := one_is w
theorem Ext.turn {w a b : World} {bs : List Nat} (h : Ext w a) (t : Turn bs a b) (hb : ∀ x ∈ bs, w.heap.size ≤ x) : Ext w b := Below.trans h (t.below (Below.size h) hb)
theorem box_wakes (w : World) : Calls Try.prog 7 #[] w (TrueExt w) := by
  go_enter Try.func7, Try.ntmps7
  go_wp2_with fail
  refine (new_yes 2 10 (by omega) (by omega) (by omega) w).mono ?_
  rintro e w1 ⟨rfl, h1, hx1⟩
  generalize hg : w.heap.size + 1 = g at h1 ⊢
  generalize hc : w.heap.size = c at h1
  have H1 := Lib.hid h1; have X1 := Lib.hid hx1; have HC := Lib.hid hc
  clear h1 hx1 hc hg
  go_wp2_with fail
  refine (new_no 9 10 (by omega) w1).mono ?_
  rintro e w' ⟨rfl, rfl⟩
  go_wp2_with fail
  refine (one_is' w').mono ?_
  rintro e w2 ⟨u1, rfl, ho2, hx2⟩
  have HO2 := Lib.hid ho2.p; have H2 := Lib.hid (H1.out.ext hx2); have X2 := Lib.hid (X1.out.trans hx2)
  clear ho2 hx2
  go_wp2_with fail
  refine (put_yes H2.out HO2.out oneL_good (by rw [oneL_sum]; simp [bsum]) (by simp)).mono ?_
  rintro e w3 ⟨rfl, t3, v1, h3, _⟩
  have hgt : ∀ b ∈ [g, c], w.heap.size ≤ b := by intro b hb; have := HC.out; have := H1.out.ne; simp at hb; omega
  have HGT := Lib.hid hgt
  have H3 := Lib.hid h3; have X3 := Lib.hid (X2.out.turn t3 HGT.out)
  clear t3 h3 hgt
  go_wp2_with fail
  refine (one_is' w3).mono ?_
  rintro e w4 ⟨u2, rfl, ho, hx⟩
  have HO4 := Lib.hid ho.p; have H4 := Lib.hid (H3.out.ext hx); have X4 := Lib.hid (X3.out.trans hx)
  clear ho hx
  go_wp2_with fail
  refine (put_bad H4.out HO4.out (.inr ⟨oneL_good, by simp [bsum, oneL_sum]⟩)).mono ?_
  rintro e w5 ⟨rfl, hx⟩
  have H5 := Lib.hid (H4.out.ext hx); have X5 := Lib.hid (X4.out.trans hx)
  clear hx
  go_wp2_with fail
  refine (put_yes (H5.out.ext (Ext.alloc _ _)) (num_msg w5 5) five_good (by simp [bsum, oneL_sum, five_sum]) (by simp)).mono ?_
  rintro e w6 ⟨rfl, t6, v2, h6, _⟩
  have H6 := Lib.hid (show BoxAt w6 g c 2 10 [(v1, oneL), (v2, numL 5)] from h6); have X6 := Lib.hid ((X5.out.trans (Ext.alloc _ _)).turn t6 HGT.out)
  clear t6 h6
  go_wp2_with fail
  refine (put_full (H6.out.ext (Ext.alloc _ _)) (num_msg w6 6) six_good (by simp [bsum, oneL_sum, five_sum, six_sum]) (by simp)).mono ?_
  rintro e w7 ⟨rfl, hx⟩
  have H7 := Lib.hid (H6.out.ext ((Ext.alloc _ _).trans hx)); have X7 := Lib.hid (X6.out.trans ((Ext.alloc _ _).trans hx))
  clear hx
  go_wp2_with fail
  refine (len_box H7.out).mono ?_
  rintro e w' ⟨rfl, rfl⟩
  go_wp2_with fail
  refine (words_box H7.out).mono ?_
  rintro e w' ⟨rfl, rfl⟩
  rw [show bsum [(v1, oneL), (v2, numL 5)] = 8 by simp [bsum, oneL_sum, five_sum]]
  go_wp2_with fail
  refine (take_some H7.out).mono ?_
  rintro e w8 ⟨rfl, t8, h8, ho8⟩
  have H8 := Lib.hid h8; have X8 := Lib.hid (X7.out.turn t8 HGT.out); have HO8 := Lib.hid ho8
  clear t8 h8 ho8
  go_wp2_with fail
  refine (take_some H8.out).mono ?_
  rintro e w9 ⟨rfl, t9, h9, ho9⟩
  have HO9 := Lib.hid (HO8.out.turn t9 (by intro b hb hm; have := (HO8.out.own b hb).1; have := H1.out.ne; simp at hm; omega))
  obtain ⟨q2, c2, rfl, _⟩ := ho9.len
  have H9 := Lib.hid h9; have X9 := Lib.hid (X8.out.turn t9 HGT.out)
  clear t9 h9 ho9
  go_wp2_with fail
  refine (take_none H9.out).mono ?_
  rintro e w' ⟨rfl, rfl⟩
  go_wp2_with fail
  refine (one_is' _).mono ?_
  rintro e w10 ⟨u3, rfl, ho, hx⟩
  have HO10 := Lib.hid ho.p; have H10 := Lib.hid (H9.out.ext hx); have X10 := Lib.hid (X9.out.trans hx); have HV := Lib.hid (HO9.out.p.ext hx)
  clear ho hx
  go_wp2_with fail
  refine (msg_true HV.out HO10.out).mono ?_
  rintro e w11 ⟨rfl, hx⟩
  have H11 := Lib.hid (H10.out.ext hx); have X11 := Lib.hid (X10.out.trans hx)
  clear hx
  go_wp2_with fail
  refine (words_box H11.out).mono ?_
  rintro e w' ⟨rfl, rfl⟩
  go_wp2_with fail
  refine (len_nil _).mono ?_
  rintro e w' ⟨rfl, rfl⟩
  go_wp2_with fail
  refine put_nil.mono ?_
  rintro e w12 ⟨rfl, hx⟩
  go_wp2_with fail
  go_ret
  exact ⟨rfl, X11.out.trans hx⟩
end Go.Proofs.Ytalfmlhiooaigaa
