/- Proved here: the contracts and laws of ObjLE of this claim, each beneath its own remark; conditions: those that each theorem names. -/
import Derived.Test.YtlffmcadchbheaaM9
/- ObjectOwn: the walk. -/
namespace Go.Proofs.Ytlffmcadchbheaa
open Go.RowKit Go.Maps Arena
set_option maxHeartbeats 8000000
set_option maxRecDepth 100000
/-- a word made a number's -/
def odd1 (x : Int) : Int := bits .or .u64 x 1
theorem odd1_is {x : Int} (h : W64 x) : odd1 x = 2 * (x / 2) + 1 := by
  obtain ⟨h0, h1⟩ := h
  obtain ⟨n, rfl⟩ := Int.eq_ofNat_of_zero_le h0
  unfold odd1
  have e1 : ∀ y : Nat, y % 2 = 0 → y < 18446744073709551616 → bits .or .u64 (y : Int) 1 = ((y + 1 : Nat) : Int) := fun y hy hl => by
    have := or_apart' 1 1 y (by omega) (by omega) (by omega) hl
    rw [Nat.add_comm] at this
    exact this
  by_cases h2 : n % 2 = 0
  · rw [e1 n h2 (by omega)]
    omega
  · have e2 := e1 (n - 1) (by omega) (by omega)
    rw [show ((n - 1 + 1 : Nat) : Int) = (n : Int) by omega] at e2
    rw [show (n : Int) = bits .or .u64 ((n - 1 : Nat) : Int) 1 from e2.symm]
    have hb : ∀ a b : Nat, a < 18446744073709551616 → b < 18446744073709551616 → bits .or .u64 (a : Int) (b : Int) = ((a ||| b : Nat) : Int) := fun a b ha hb => u64_or_nat a b ha hb
    rw [show (1 : Int) = ((1 : Nat) : Int) from rfl] at e2 ⊢
    rw [hb _ _ (by omega) (by omega)] at e2 ⊢
    have e3 : ((n - 1) ||| 1) = n := by omega
    rw [e3, hb _ _ (by omega) (by omega)]
    have e4 : n ||| 1 = n := by
      conv => lhs; rw [← e3, Nat.or_assoc, Nat.or_self]
      exact e3
    rw [e4]
    omega
theorem odd1_int {x : Int} (h : W64 x) : isIntW (odd1 x) = true ∧ W64 (odd1 x) := by
  rw [odd1_is h]
  unfold W64 at h ⊢
  unfold isIntW
  exact ⟨decide_eq_true (by omega), by omega⟩
def oddL (l : List Int) (j : Nat) : List Int := (l.take j).map odd1 ++ List.replicate (l.length - j) 0
theorem made_blk {w : World} {T : TypeId} {z : Value} {n base g : Nat} (h : w.heap[g]? = some (.cells (madeCells #[z] n) T (0, 0))) (h1 : z.oneCell' = true) (hb : base ≤ g) (hm : n ≤ maxLen) : OwnP w base T (.slice (some ⟨g, 0, none⟩) n n) 1 (List.replicate n [z]) := by
  have hr : Rows1 1 (List.replicate n [z]) := by
    intro cs hm
    obtain ⟨_, rfl⟩ := List.mem_replicate.1 hm
    exact ⟨rfl, fun u hu => by rw [List.mem_singleton] at hu; subst hu; exact h1⟩
  have := OwnP.of_form (T := T) (base := base) (cap := n) hr hb h (by simp) hm (by rw [size_madeCells]; omega) (by
    rw [toList_madeCells_one, flat_rep, List.length_replicate, Nat.mul_one, List.take_of_length_le (by simp)])
  rw [List.length_replicate] at this
  exact this
theorem oddL_len (l : List Int) {j : Nat} (h : j ≤ l.length) : (oddL l j).length = l.length := by unfold oddL; simp; omega
theorem oddL_step {l : List Int} {j : Nat} (h : j < l.length) : (oddL l j).set j (odd1 l[j]) = oddL l (j + 1) := by
  unfold oddL
  rw [List.set_append_right _ _ (by simp; omega), List.length_map, List.length_take, Nat.min_eq_left (by omega), Nat.sub_self, show l.length - j = (l.length - (j + 1)) + 1 by omega, List.replicate_succ, List.set_cons_zero, List.take_succ_eq_append_getElem h, List.map_append, List.append_assoc]
  rfl
theorem oddL_at {l : List Int} {j : Nat} (h : j < l.length) : (oddL l j)[j]? = some 0 := by
  unfold oddL
  rw [List.getElem?_append_right (by simp; omega), List.length_map, List.length_take, Nat.min_eq_left (by omega), Nat.sub_self, List.getElem?_replicate, if_pos (by omega)]
theorem oddL_all (l : List Int) : oddL l l.length = l.map odd1 := by unfold oddL; simp
/-- a row whose first places were all set to one word -/
def setL (l : List Int) (x : Int) (j : Nat) : List Int := List.replicate j x ++ l.drop j
theorem setL_step {l : List Int} {x : Int} {j : Nat} (h : j < l.length) : (setL l x j).set j x = setL l x (j + 1) := by
  unfold setL
  rw [List.set_append_right _ _ (by simp), List.length_replicate, Nat.sub_self, List.drop_eq_getElem_cons h, List.set_cons_zero, List.replicate_succ', List.append_assoc]
  rfl
theorem setL_len {l : List Int} {x : Int} {j : Nat} (h : j ≤ l.length) : (setL l x j).length = l.length := by unfold setL; simp; omega
theorem Turn.trans2 {bs cs : List Nat} {a b c : World} (h : Turn bs a b) (k : Turn cs b c) (hc : ∀ x ∈ cs, a.heap.size ≤ x) : Turn bs a c :=
  ⟨k.os.trans h.os, k.tape.trans h.tape, k.output.trans h.output, Nat.le_trans h.size k.size, fun i hi hb => (k.block i (Nat.lt_of_lt_of_le hi h.size) (fun hm => by have := hc i hm; omega)).trans (h.block i hi hb)⟩
theorem Wk.turn {w1 W W' : World} {p g bm t0 t1 q n : Nat} {ws : List Int} {R : List (Nat × Nat)} {h : Hp} {bs : List Nat} (k : Wk w1 W p g bm t0 t1 q n ws R h) (t : Turn bs W W') (hb : ∀ b ∈ bs, t0 < b ∧ b ≠ t1 ∧ w1.heap.size ≤ b) : Wk w1 W' p g bm t0 t1 q n ws R h := by
  obtain ⟨l1, l2, l3, l4⟩ := k.lt
  refine ⟨k.a.turn t (fun hm => ?_) (fun hm => ?_) (fun hm => ?_), k.t.trans2 t fun b hm => (hb b hm).2.2, (t.block _ (Array.getElem?_eq_some_iff.1 k.two).1 fun hm => ?_).trans k.two, (t.block _ (Array.getElem?_eq_some_iff.1 k.hp).1 fun hm => ?_).trans k.hp, k.lt⟩
  · have := (hb _ hm).1; omega
  · have := (hb _ hm).1; omega
  · have := (hb _ hm).1; omega
  · have := (hb _ hm).1; omega
  · exact (hb _ hm).2.1 rfl
theorem OwnP.at_block {w : World} {base : Nat} {T : TypeId} {v : Value} {s : Nat} {l : List (List Value)} (h : OwnP w base T v s l) (hn : 0 < l.length) : ∃ b c, v = .slice (some ⟨b, 0, none⟩) l.length c ∧ base ≤ b ∧ b < w.heap.size ∧ l.length ≤ c ∧ c ≤ maxLen := by
  rcases h.forms with ⟨_, rfl⟩ | ⟨g, cap, cur, h1, hb, hg, h2, h3, _⟩
  · simp at hn
  · exact ⟨g, cap, h1, hb, (Array.getElem?_eq_some_iff.1 hg).1, h2, h3⟩
/-- the object that ObjectOwn puts -/
def ownO (F : List Int) : Ob := ⟨1, 0, F, ⟨#[]⟩⟩
def ownH : Hp := ⟨3, 30, 0, 0⟩
def ownWs : List Int := rigW (List.replicate 60 0) 60
theorem own_all : allH ownWs (rigR 60) ownH = some [] := by first | rfl | kernel_rfl
theorem own_good : Arena.Good 70 (rigR 60) := by unfold rigR Arena.Good; simp
theorem own_may {F : List Int} (h1 : 1 ≤ F.length) (h8 : F.length ≤ 8) : mayO (ownO F) = true := by
  unfold mayO ownO mayK rowB
  rw [if_pos rfl]
  simp [h1, h8]
  rfl
theorem own_put {F : List Int} (h : ∀ x ∈ F, isIntW x = true) (h1 : 1 ≤ F.length) (h8 : F.length ≤ 8) : putB ownWs (rigR 60) ownH (ownO F) = true := by
  rw [putB_some own_all, own_may h1 h8]
  simp only [Bool.true_and, Bool.and_eq_true, decide_eq_true_eq, List.all_eq_true]
  refine ⟨?_, fun x hx => ?_⟩
  · show (0 : Int) + ((1 + bodyK 1 F.length 0 : Nat) : Int) ≤ 30
    unfold bodyK
    rw [if_neg (by omega)]
    omega
  · unfold fieldOK
    rw [h x hx]
    rfl
theorem own_all2 {F : List Int} (hb : putB ownWs (rigR 60) ownH (ownO F) = true) : allH (putWs ownWs (rigR 60) ownH (ownO F)) (rigR 60) (hpUp ownH (ownO F)) = some [(0, ownO F)] := by
  have := allH_put own_good (by unfold ownWs; rw [rigW_len _ _ (by simp)]; simp) own_all hb
  exact this
theorem own_get {F : List Int} (hb : putB ownWs (rigR 60) ownH (ownO F) = true) : getH (putWs ownWs (rigR 60) ownH (ownO F)) (rigR 60) (hpUp ownH (ownO F)) 0 = some (0, ownO F) := by
  unfold getH
  rw [own_all2 hb]
  rfl
theorem OwnP.keep {w w' : World} {base gi n c b : Nat} {T : TypeId} {s : Nat} {l : List (List Value)} (h : OwnP w base T (.slice (some ⟨gi, 0, none⟩) n c) s l) (t : Turn [b] w w') (hb : gi ≠ b) : OwnP w' base T (.slice (some ⟨gi, 0, none⟩) n c) s l :=
  h.turn t (fun k hk hm => by
    simp only [Value.ownBlock, Option.some.injEq] at hk
    rw [List.mem_singleton.1 hm] at hk
    exact hb hk)
theorem own_walk3 {v : Value} {l : List Int} {x : Int} {w : World} (hv : WdsP w v l) (hx : W64 x) : Calls Try.prog 7 #[v, .int .u64 x] w (TrueExt w) := by
  have HV := Lib.hid hv
  obtain ⟨q0, c0, rfl, hc1, hc2, -⟩ := RowsP.at hv.1
  rw [List.length_map] at hc1 HV ⊢
  unfold maxLen at hc2
  have HX0 := Lib.hid hx
  clear hv hx
  have hmk := run_make_row' (P := Try.prog) 22 29 (.int .u64 0) 8 Try.underlying22 info_u64 rfl .i64 .i64 60 (by omega) (by omega)
  simp only [Int.cast_ofNat_Int] at hmk
  go_enter Try.func7, Try.ntmps7
  go_wp2_with fail
  refine (lay_words (make_words w 60 (by omega) _) (by simp)).mono ?_; rintro e w1 ⟨p, g, bm, q, gq, B, rfl, hB⟩
  have HB := Lib.hid hB
  clear hB hmk
  go_upto_region 2 with fail
  refine wp_alloc1 fun W hE hS b0 => ?_
  have HE := Lib.hid hE
  have hpos : w1.heap.size < W.heap.size := by omega
  clear hE hS
  by_cases hbig : l.length = 0 ∨ 8 < l.length
  · have HX1 := Lib.hid ((Ext.alloc _ _).trans (HB.out.ext.trans HE.out))
    by_cases hn0 : l.length = 0
    · have b1 : ((l.length : Int) == 0) = true := by rw [hn0]; rfl
      clear hbig hn0 b0
      go_wp2_with fail
      refine (wakes3 _).mono ?_
      rintro e w2 ⟨rfl, hx2⟩
      have HX2 := Lib.hid (HX1.out.trans hx2)
      clear hx2
      go_wp2
      go_ret
      exact ⟨rfl, HX2.out⟩
    · have b1 : ((l.length : Int) == 0) = false := beq_false_of_ne (by omega)
      have b2 : decide ((8 : Int) < (l.length : Int)) = true := decide_eq_true (by omega)
      clear hbig hn0 b0
      go_wp2_with fail
      refine (wakes3 _).mono ?_
      rintro e w2 ⟨rfl, hx2⟩
      have HX2 := Lib.hid (HX1.out.trans hx2)
      clear hx2
      go_wp2
      go_ret
      exact ⟨rfl, HX2.out⟩
  · have b1 : ((l.length : Int) == 0) = false := beq_false_of_ne (by omega)
    have b2 : decide ((8 : Int) < (l.length : Int)) = false := decide_eq_false (by omega)
    have hl1 : 1 ≤ l.length := by omega
    have hl8 : l.length ≤ 8 := by omega
    have hmk := run_make_row' (P := Try.prog) 22 29 (.int .u64 0) 8 Try.underlying22 info_u64 rfl .i64 .i64 l.length (by omega) (by omega)
    clear hbig
    go_upto_region 5 with fail
    refine wp_alloc1 fun W2 hE2 hS2 b2 => ?_
    have hgi : g < W.heap.size := by have := (HB.out.a.ext HE.out).lt; omega
    have HI := Lib.hid (made_blk (base := W.heap.size) b2 rfl (Nat.le_refl _) (by unfold maxLen; omega))
    have HAR := Lib.hid ((HB.out.a.ext HE.out).ext hE2)
    have HX2 := Lib.hid ((Ext.alloc _ _).trans ((HB.out.ext.trans HE.out).trans hE2))
    have HTW := Lib.hid ((Below.block hE2 _ (Array.getElem?_eq_some_iff.1 b0).1).trans b0)
    have HE2 := Lib.hid (HE.out.trans hE2)
    have HSZ0 := Lib.hid (show w1.heap.size ≤ W.heap.size by omega)
    have hlt := (HB.out.a.ext HE.out).lt
    have hltA := HB.out.a.lt
    have hgw : w.heap.size < w1.heap.size := by
      have h1 := HB.out.ge.2.1
      have h2 := Below.size (Ext.alloc w (Obj.cells (madeCells #[Value.int IntKind.u64 0] 60) 29))
      omega
    generalize hn1 : W.heap.size = gi at *
    generalize hn0 : w1.heap.size = t0 at *
    have HT0 := Lib.hid hn0
    have HSZ := Lib.hid hS2
    clear hS2 hE2 b2 b0 hn1 hn0 hmk hgi
    go_wp2_with fail
    go_loopw [9] (fun i wr => ∃ j : Nat, j ≤ l.length ∧ i = .int .i64 j ∧ OwnP wr gi 29 (.slice (some ⟨gi, 0, none⟩) l.length l.length) 1 ((oddL l j).map wordC) ∧ Turn [gi] W2 wr) (fun i _ => l.length - (intOf i).toNat)
    case atStart =>
      refine ⟨0, by omega, rfl, ?_, Turn.refl _ _⟩
      have h0 : (oddL l 0).map wordC = List.replicate l.length [Value.int .u64 0] := by unfold oddL; simp [wordC]
      rw [h0]
      exact HI.out
    case round =>
      obtain ⟨j, hj, rfl, hO, hT⟩ := hrel
      have HO := Lib.hid hO; have HT := Lib.hid hT
      clear hO hT
      by_cases hlt2 : j < l.length
      · have hvx := (HV.out.ext (HX2.out.trans (Ext.refl _))).1
        obtain ⟨q, c, e1, _, _, hcell⟩ := RowsP.at hvx
        obtain ⟨rfl, -, rfl⟩ := Value.slice.inj e1
        obtain ⟨bq, off, rfl, hcq⟩ := hcell j (wordC l[j]) (by rw [List.getElem?_map, List.getElem?_eq_getElem hlt2]; rfl)
        have hcx := hcq 0 _ rfl
        rw [Nat.add_zero, Nat.mul_one] at hcx
        have hbq : bq < w.heap.size := by
          obtain ⟨_, _, e2, _, _, hcell0⟩ := RowsP.at HV.out.1
          obtain ⟨e3, -, rfl⟩ := Value.slice.inj e2
          obtain ⟨b9, o9, e4, h9⟩ := hcell0 j (wordC l[j]) (by rw [List.getElem?_map, List.getElem?_eq_getElem hlt2]; rfl)
          rw [← e3] at e4
          obtain ⟨rfl, rfl, _⟩ := Addr.mk.inj (Option.some.inj e4)
          have := h9 0 _ rfl
          rw [Nat.add_zero, Nat.mul_one] at this
          exact World.block_lt_of_cell? w _ this
        have hcr := HT.out.cell (a := ⟨bq, off + j, none⟩) (by simp; omega) hcx
        obtain ⟨g5, e5, _, hc5, hf5⟩ := HO.out.cell (i := j) (f := 0) (cs := wordC 0) (u := .int .u64 0) (by rw [List.getElem?_map, oddL_at hlt2]; rfl) rfl
        obtain rfl : g5 = gi := by
          obtain ⟨rfl, _⟩ := Addr.mk.inj (Option.some.inj e5)
          rfl
        rw [Nat.add_zero, Nat.mul_one] at hc5 hf5
        have hst := HO.out.store (i := j) (f := 0) (cs := wordC 0) (u := .int .u64 (odd1 l[j])) (by rw [List.getElem?_map, oddL_at hlt2]; rfl) (by omega) rfl
        rw [show (wordC 0).set 0 (.int .u64 (odd1 l[j])) = wordC (odd1 l[j]) from rfl, ← List.map_set, oddL_step hlt2, Nat.add_zero, Nat.mul_one] at hst
        have HST := Lib.hid hst
        have hT2 := Turn.setCell HT.out (a := ⟨g5, j, none⟩) (.inl (by simp)) (.int .u64 (odd1 l[j]))
        have HT2 := Lib.hid hT2
        clear hst hT2 hvx hcell hcq hcx e1 e5 hbq
        unfold odd1 at HST HT2
        generalize l[j] = y at *
        have i1 : (j : Int) < (l.length : Int) := by omega
        go_wp2
        exact ⟨⟨j + 1, by omega, by go_num, HST.out, HT2.out⟩, by simp [intOf]; omega⟩
      · obtain rfl : j = l.length := by omega
        have hO2 := HO.out
        rw [oddL_all] at hO2
        have HO2 := Lib.hid hO2
        have HAR2 := Lib.hid (HAR.out.turn HT.out (by simp; omega) (by simp; omega) (by simp; omega))
        have HTW2 := Lib.hid ((HT.out.block t0 (Array.getElem?_eq_some_iff.1 HTW.out).1 (by simp; omega)).trans HTW.out)
        have hszr : gi < wr.heap.size := by have := HT.out.size; have := HSZ.out; omega
        clear hO2 HO HI HAR HTW
        obtain ⟨F, hF⟩ : ∃ F, F = l.map odd1 := ⟨_, rfl⟩
        have HFE := Lib.hid hF
        have hfl : F.length = l.length := by rw [hF, List.length_map]
        have HFL := Lib.hid hfl
        rw [← hF] at HO2
        clear hF hfl
        have HF64 := Lib.hid (show ∀ y ∈ l.map odd1, W64 y from fun y hy => by obtain ⟨z, hz, rfl⟩ := List.mem_map.1 hy; exact (odd1_int (HV.out.2 z hz)).2)
        go_wp2_with (refine wpList_append_rows E64 (by rfl) _ _ (by rfl) wr.heap.size (.slice (some ⟨wr.heap.size, 0, none⟩) 0 0) (.slice (some ⟨gi, 0, none⟩) l.length l.length) [] (F.map wordC) (by rfl) (own_empty1 wr _) (by rfl) (RowsP.ext HO2.out.p (Ext.alloc _ _)) (by rw [List.length_map, HFL.out]; simp; unfold maxLen; omega) (by rw [List.length_map, HFL.out]; simp; omega) (by simp) ?_)
        intro v2 w2 ho2 hg2 hb2 _
        have hx2 : Ext wr w2 := Below.grown (Below.alloc (Ext.refl wr) (by omega) _) hg2 (by simp) (fun b hb => by simp [Value.ownBlock] at hb; omega)
        obtain ⟨go, co, hvo, hgo1, hgo2, hco1, hco2⟩ := ho2.at_block (by rw [List.length_map, HFL.out]; omega)
        rw [List.length_map, HFL.out] at hco1 hvo
        subst hvo
        unfold maxLen at hco2
        have HOW := Lib.hid ho2
        have HAR3 := Lib.hid (HAR2.out.ext hx2)
        have HTW3 := Lib.hid ((Below.block hx2 _ (Array.getElem?_eq_some_iff.1 HTW2.out).1).trans HTW2.out)
        have HIN := Lib.hid (HO2.out.ext hx2)
        have HXX := Lib.hid (Turn.after HX2.out (HT.out.trans (Turn.of_ext hx2)) (by intro b hb; simp at hb; omega))
        have HTT := Lib.hid ((Turn.of_ext (bs := [g]) HE2.out).trans2 (HT.out.trans (Turn.of_ext (bs := [gi]) hx2)) (by intro b hb; simp at hb; have := HSZ0.out; have := HT0.out; omega))
        have hbb := own_put (F := F) (fun y hy => by rw [HFE.out] at hy; obtain ⟨z, hz, rfl⟩ := List.mem_map.1 hy; exact (odd1_int (HV.out.2 z hz)).1) (by rw [HFL.out]; omega) (by rw [HFL.out]; omega)
        have HBB := Lib.hid hbb
        have HF := Lib.hid (show ∀ y ∈ F, W64 y from by rw [HFE.out]; exact HF64.out)
        have HA2 := Lib.hid (own_all2 hbb)
        have HG2 := Lib.hid (own_get hbb)
        have HW2 := Lib.hid (putWs_64 (h := ownH) hbb (rigW_mem (by intro y hy; rw [(List.mem_replicate.1 hy).2]; exact w64_zero) _) HF.out)
        clear hb2 hg2 hx2 ho2 HO2 HAR2 HTW2 HT hbb HF64 HFE
        obtain ⟨x0, x1⟩ := cells2 HTW3.out
        have hrow := HOW.out.rowStay (g := g) (by omega)
        have hput := put_yes (w := w2) (h' := hpUp ownH (ownO F)) (ws := ownWs) (ws' := putWs ownWs (rigR 60) ownH (ownO F)) (R := rigR 60) (n := 70) HAR3.out ownH (show (Lit.int .i64 (3 : Int)).wf = true by decide) (rigW_mem (by intro y hy; rw [(List.mem_replicate.1 hy).2]; exact w64_zero) _) (ownO F) co (some ⟨go, 0, none⟩) (by dsimp only [ownO]; rw [HFL.out]; exact hrow) HF.out (by dsimp only [ownO]; rw [HFL.out]; omega) HBB.out rfl rfl 0 rfl
        dsimp only [ownO] at hput
        rw [HFL.out] at hput
        go_wp2_with fail
        refine hput.mono ?_
        rintro e w3 ⟨rfl, hA3, hT3⟩
        clear hput hrow x0 x1
        have HTW4 := Lib.hid (hT3.keep HTW3.out (by omega))
        have HIN4 := Lib.hid (HIN.out.keep hT3 (by omega))
        have HOW4 := Lib.hid (HOW.out.keep hT3 (by omega))
        have HTT4 := Lib.hid (HTT.out.trans hT3)
        have HA4 := Lib.hid (show ArenaAt w3 p g bm 70 (putWs ownWs (rigR 60) ownH (ownO F)) (rigR 60) from hA3)
        have hsz3 := hT3.size
        clear hA3 hT3 HTW3 HIN HOW HTT HAR3
        go_upto_region 11 with fail
        refine wp_alloc1 fun W4 hE4 hS4 b4 => ?_
        have hgt1 : go < w3.heap.size := by omega
        have hgit1 : gi < w3.heap.size := by omega
        have ht1 : t0 < w3.heap.size := by omega
        have K1 := Lib.hid (show Wk w1 W4 p g bm t0 w3.heap.size q 70 (putWs ownWs (rigR 60) ownH (ownO F)) (rigR 60) (hpUp ownH (ownO F)) from ⟨HA4.out.ext hE4, (HTT4.out.mono (by simp)).trans (Turn.of_ext hE4), (Below.block hE4 _ (Array.getElem?_eq_some_iff.1 HTW4.out).1).trans HTW4.out, b4, by omega, by omega, by omega, by omega⟩)
        have HIN5 := Lib.hid (HIN4.out.ext hE4)
        have HOW5 := Lib.hid (HOW4.out.ext hE4)
        have hsz4 : w3.heap.size < W4.heap.size := by omega
        clear hE4 hS4 b4 HTW4 HIN4 HOW4 HTT4 HA4 hsz3
        generalize hg1 : w3.heap.size = t1 at *
        clear hg1
        generalize hgr : wr.heap.size = br at *
        clear hgr
        go_wp2_with fail
        go_loopw [14] (fun i wx => ∃ j : Nat, j ≤ l.length ∧ i = .int .i64 j ∧ OwnP wx br 29 (.slice (some ⟨go, 0, none⟩) l.length co) 1 ((setL F x j).map wordC) ∧ Turn [go] W4 wx) (fun i _ => l.length - (intOf i).toNat)
        case atStart => exact ⟨0, by omega, rfl, by unfold setL; simpa using HOW5.out, Turn.refl _ _⟩
        case round =>
          obtain ⟨j, hj, rfl, hO, hT⟩ := hrel
          have HO := Lib.hid hO; have HT := Lib.hid hT
          clear hO hT
          by_cases hlt3 : j < l.length
          · have hjF : j < F.length := by rw [HFL.out]; exact hlt3
            have hxj : (setL F x j)[j]? = some F[j] := by
              unfold setL
              rw [List.getElem?_append_right (by simp), List.length_replicate, Nat.sub_self, List.getElem?_drop, Nat.add_zero, List.getElem?_eq_getElem hjF]
            obtain ⟨g5, e5, _, hc5, hf5⟩ := HO.out.cell (i := j) (f := 0) (cs := wordC F[j]) (u := .int .u64 F[j]) (by rw [List.getElem?_map, hxj]; rfl) rfl
            obtain rfl : g5 = go := by
              obtain ⟨rfl, _⟩ := Addr.mk.inj (Option.some.inj e5)
              rfl
            rw [Nat.add_zero, Nat.mul_one] at hc5 hf5
            have hst := HO.out.store (i := j) (f := 0) (cs := wordC F[j]) (u := .int .u64 x) (by rw [List.getElem?_map, hxj]; rfl) (by omega) rfl
            rw [show (wordC F[j]).set 0 (.int .u64 x) = wordC x from rfl, ← List.map_set, setL_step hjF, Nat.add_zero, Nat.mul_one] at hst
            have HST := Lib.hid hst
            have HT2 := Lib.hid (Turn.setCell HT.out (a := ⟨g5, j, none⟩) (.inl (by simp)) (.int .u64 x))
            clear hst e5 hxj
            generalize F[j] = y at *
            have i1 : (j : Int) < (l.length : Int) := by omega
            go_wp2
            exact ⟨⟨j + 1, by omega, by go_num, HST.out, HT2.out⟩, by simp [intOf]; omega⟩
          · obtain rfl : j = l.length := by omega
            have K2 := Lib.hid (K1.out.turn HT.out (by intro b hb; simp at hb; subst hb; have := HT0.out; omega))
            have HIN6 := Lib.hid (HIN5.out.keep HT.out (by omega))
            have hsz5 := HT.out.size
            clear HO HT HOW5 HIN5 K1
            obtain ⟨x0, x1⟩ := cells2 K2.out.two
            obtain ⟨y0, y1, y2, y3⟩ := cells4 K2.out.hp
            have n0 := (Array.getElem?_eq_some_iff.1 K2.out.two).1
            have n1 := (Array.getElem?_eq_some_iff.1 K2.out.hp).1
            go_wp2_with fail
            refine (get_is K2.out.a (hpUp ownH (ownO F)) (show (Lit.int .i64 (3 : Int)).wf = true by decide) HW2.out (x := 0) w64_zero).mono ?_
            rintro e w6 ⟨va, rfl, hx6, _, hya⟩
            obtain ⟨qa, ca, rfl, hoa⟩ := hya (0, ownO F) HG2.out
            rw [show (getH (putWs ownWs (rigR 60) ownH (ownO F)) (rigR 60) (hpUp ownH (ownO F)) 0).isSome = true by rw [HG2.out]; rfl]
            dsimp only [ownO] at hoa ⊢
            rw [HFL.out] at hoa ⊢
            obtain ⟨ga, ca', hva, hga1, hga2, hca1, hca2⟩ := hoa.at_block (by rw [List.length_map, HFL.out]; omega)
            rw [List.length_map, HFL.out] at hva hca1
            obtain ⟨rfl, -, rfl⟩ := Value.slice.inj hva
            unfold maxLen at hca2
            have K1e := Lib.hid K2.out.hp
            have K3 := Lib.hid (K2.out.ext hx6)
            have HIN7 := Lib.hid (HIN6.out.ext hx6)
            have HOA := Lib.hid hoa
            have hsz6 := Below.size hx6
            clear hx6 hya hoa hva K2 HIN6 x0 x1 y0 y1 y2 y3 n0 n1
            go_upto_region 16 with fail
            refine wp_alloc1 fun W7 hE7 hS7 b7 => ?_
            have K4 := Lib.hid (K3.out.ext hE7)
            have HIN8 := Lib.hid (HIN7.out.ext hE7)
            have HOA2 := Lib.hid (HOA.out.ext hE7)
            have hsz7 : w6.heap.size < W7.heap.size := by omega
            have hlt1 : t1 < w6.heap.size := (Array.getElem?_eq_some_iff.1 K3.out.hp).1
            have hga1' : gi < ga := by have := (Array.getElem?_eq_some_iff.1 K1e.out).1; omega
            have hga2' : t1 < ga := by have := (Array.getElem?_eq_some_iff.1 K1e.out).1; omega
            have hsz8 : ga < w6.heap.size := hga2
            have B7 := Lib.hid b7
            clear hE7 hS7 K3 HIN7 HOA b7 hga1 hga2 hsz6
            generalize hg2 : w6.heap.size = t2 at *
            clear hg2
            generalize hgr2 : wr.heap.size = br2 at *
            clear hgr2
            go_wp2_with fail
            go_loopw [17] (fun i wx => ∃ j : Nat, j ≤ l.length ∧ i = .int .i64 j ∧ OwnP wx br2 29 (.slice (some ⟨ga, 0, none⟩) l.length ca) 1 ((setL F x j).map wordC) ∧ Turn [ga] W7 wx) (fun i _ => l.length - (intOf i).toNat)
            case atStart => exact ⟨0, by omega, rfl, by unfold setL; simpa using HOA2.out, Turn.refl _ _⟩
            case round =>
              obtain ⟨j, hj, rfl, hO, hT⟩ := hrel
              have B8 := Lib.hid (hT.keep B7.out (by omega))
              have HO := Lib.hid hO; have HT := Lib.hid hT
              clear hO hT
              obtain ⟨z0, z1, z2, z3⟩ := cells4 B8.out
              by_cases hlt4 : j < l.length
              · have hjF : j < F.length := by rw [HFL.out]; exact hlt4
                have hxj : (setL F x j)[j]? = some F[j] := by
                  unfold setL
                  rw [List.getElem?_append_right (by simp), List.length_replicate, Nat.sub_self, List.getElem?_drop, Nat.add_zero, List.getElem?_eq_getElem hjF]
                obtain ⟨g5, e5, _, hc5, hf5⟩ := HO.out.cell (i := j) (f := 0) (cs := wordC F[j]) (u := .int .u64 F[j]) (by rw [List.getElem?_map, hxj]; rfl) rfl
                obtain rfl : g5 = ga := by
                  obtain ⟨rfl, _⟩ := Addr.mk.inj (Option.some.inj e5)
                  rfl
                rw [Nat.add_zero, Nat.mul_one] at hc5 hf5
                have hst := HO.out.store (i := j) (f := 0) (cs := wordC F[j]) (u := .int .u64 x) (by rw [List.getElem?_map, hxj]; rfl) (by omega) rfl
                rw [show (wordC F[j]).set 0 (.int .u64 x) = wordC x from rfl, ← List.map_set, setL_step hjF, Nat.add_zero, Nat.mul_one] at hst
                have HST := Lib.hid hst
                have HT2 := Lib.hid (Turn.setCell HT.out (a := ⟨g5, j, none⟩) (.inl (by simp)) (.int .u64 x))
                clear hst e5 hxj
                generalize F[j] = y at *
                have i1 : (j : Int) < (l.length : Int) := by omega
                go_wp2
                exact ⟨⟨j + 1, by omega, by go_num, HST.out, HT2.out⟩, by simp [intOf]; omega⟩
              · obtain rfl : j = l.length := by omega
                have K5 := Lib.hid (K4.out.turn HT.out (by intro b hb; simp at hb; subst hb; have := HT0.out; omega))
                have HIN9 := Lib.hid (HIN8.out.keep HT.out (by omega))
                have hsz9 := HT.out.size
                clear HO HT HOA2 HIN8 K4 B7
                obtain ⟨x0, x1⟩ := cells2 K5.out.two
                obtain ⟨y0, y1, y2, y3⟩ := cells4 K5.out.hp
                have n0 := (Array.getElem?_eq_some_iff.1 K5.out.two).1
                have n1 := (Array.getElem?_eq_some_iff.1 K5.out.hp).1
                go_wp2_with fail
                refine (get_is K5.out.a (hpUp ownH (ownO F)) (show (Lit.int .i64 (3 : Int)).wf = true by decide) HW2.out (x := 0) w64_zero).mono ?_
                rintro e w10 ⟨vb, rfl, hx10, _, hyb⟩
                obtain ⟨qb, cb, rfl, hob⟩ := hyb (0, ownO F) HG2.out
                rw [show (getH (putWs ownWs (rigR 60) ownH (ownO F)) (rigR 60) (hpUp ownH (ownO F)) 0).isSome = true by rw [HG2.out]; rfl]
                dsimp only [ownO] at hob ⊢
                rw [HFL.out] at hob ⊢
                have K6 := Lib.hid (K5.out.ext hx10)
                have HIN10 := Lib.hid (HIN9.out.ext hx10)
                have HOB := Lib.hid hob
                clear hx10 hyb hob K5 HIN9 x0 x1 y0 y1 y2 y3 n0 n1 z0 z1 z2 z3 B8
                obtain ⟨x0, x1⟩ := cells2 K6.out.two
                obtain ⟨y0, y1, y2, y3⟩ := cells4 K6.out.hp
                have n0 := (Array.getElem?_eq_some_iff.1 K6.out.two).1
                have n1 := (Array.getElem?_eq_some_iff.1 K6.out.hp).1
                go_wp2_with fail
                refine at_alloc1 fun W11 hE11 hS11 b11 => ?_
                have K7 := Lib.hid (K6.out.ext hE11)
                have HIN11 := Lib.hid (HIN10.out.ext hE11)
                have HOB2 := Lib.hid (HOB.out.ext hE11)
                have hlt10 : t1 < w10.heap.size := (Array.getElem?_eq_some_iff.1 K6.out.hp).1
                have hgi10 : gi < w10.heap.size := by omega
                have hsz11 : w10.heap.size < W11.heap.size := by omega
                clear hS11 hE11 K6 HIN10 HOB
                refine (oall_is K7.out.a (hpUp ownH (ownO F)) (show (Lit.int .i64 (3 : Int)).wf = true by decide) HW2.out).mono ?_
                rintro e w12 ⟨ql, ll, cl, rfl, hx12, _, hyl⟩
                obtain ⟨rfl, hol⟩ := hyl _ HA2.out
                rw [show (allH (putWs ownWs (rigR 60) ownH (ownO F)) (rigR 60) (hpUp ownH (ownO F))).isSome = true by rw [HA2.out]; rfl]
                dsimp only [List.length_cons, List.length_nil] at hol ⊢
                have HOBB := Lib.hid (fun b hb => show b < W11.heap.size from (HOB2.out.own b hb).2)
                obtain ⟨gl, cl', hvl, hgl1, hgl2, hcl1, hcl2⟩ := hol.at_block (by simp)
                simp only [List.map_cons, List.map_nil, List.length_cons, List.length_nil] at hvl hcl1 hol
                obtain ⟨rfl, -, rfl⟩ := Value.slice.inj hvl
                unfold maxLen at hcl2
                have B12 := Lib.hid ((Below.block hx12 _ (Array.getElem?_eq_some_iff.1 b11).1).trans b11)
                have K8 := Lib.hid (K7.out.ext hx12)
                have HIN12 := Lib.hid (HIN11.out.ext hx12)
                have HOB3 := Lib.hid (HOB2.out.ext hx12)
                have HOL := Lib.hid hol
                clear hx12 hyl hol hvl K7 HIN11 HOB2 b11 x0 x1 y0 y1 y2 y3 n0 n1
                have hgl0 : gi < gl := by omega
                have hgl3 : t1 < gl := by omega
                have hgl4 : w10.heap.size < gl := by omega
                generalize hg3 : w10.heap.size = t3 at *
                clear hg3
                generalize hg4 : W11.heap.size = br3 at *
                clear hg4
                go_wp2_with fail
                go_loopw [22] (fun i wx => ∃ (j : Nat) (z : Int), j ≤ 1 ∧ i = .int .i64 j ∧ OwnP wx br3 3 (.slice (some ⟨gl, 0, none⟩) 1 cl) 1 [[.int .i64 z]] ∧ Turn [gl] w12 wx) (fun i _ => 1 - (intOf i).toNat)
                case atStart => exact ⟨0, _, by omega, rfl, HOL.out, Turn.refl _ _⟩
                case round =>
                  obtain ⟨j, z, hj, rfl, hO, hT⟩ := hrel
                  have HO := Lib.hid hO; have HT := Lib.hid hT
                  clear hO hT
                  rcases (show j = 0 ∨ j = 1 by omega) with rfl | rfl
                  · obtain ⟨g5, e5, _, hc5, hf5⟩ := HO.out.cell (i := 0) (f := 0) (cs := [.int .i64 z]) (u := .int .i64 z) rfl rfl
                    obtain rfl : g5 = gl := by
                      obtain ⟨rfl, _⟩ := Addr.mk.inj (Option.some.inj e5)
                      rfl
                    rw [Nat.add_zero, Nat.mul_one] at hc5 hf5
                    have hst := HO.out.store (i := 0) (f := 0) (cs := [.int .i64 z]) (u := .int .i64 9) rfl (by omega) rfl
                    rw [Nat.add_zero, Nat.mul_one] at hst
                    have HST := Lib.hid hst
                    have HT2 := Lib.hid (Turn.setCell HT.out (a := ⟨g5, 0, none⟩) (.inl (by simp)) (.int .i64 9))
                    clear hst e5
                    go_wp2
                    exact ⟨⟨1, 9, by omega, by go_num, HST.out, HT2.out⟩, by simp [intOf]⟩
                  · have K9 := Lib.hid (K8.out.turn HT.out (by intro b hb; simp at hb; subst hb; have := HT0.out; omega))
                    have HIN13 := Lib.hid (HIN12.out.keep HT.out (by omega))
                    have HOB4 := Lib.hid (HOB3.out.turn HT.out (fun b hb hm => by
                      have := (HOB3.out.own b hb).2
                      have h9 := HOBB.out b hb
                      rw [List.mem_singleton.1 hm] at h9
                      omega))
                    have B13 := Lib.hid (HT.out.keep B12.out (by omega))
                    clear HO HT HOL HIN12 HOB3 K8 B12
                    obtain ⟨x0, x1⟩ := cells2 K9.out.two
                    obtain ⟨y0, y1, y2, y3⟩ := cells4 K9.out.hp
                    have n0 := (Array.getElem?_eq_some_iff.1 K9.out.two).1
                    have n1 := (Array.getElem?_eq_some_iff.1 K9.out.hp).1
                    obtain ⟨z0, z1, z2, z3⟩ := cells4 B13.out
                    go_wp2_with fail
                    refine (keep_words (WordSl.of_rows HOB4.out.p) (WordSl.of_rows HIN13.out.p)).mono ?_
                    rintro e w13 ⟨rfl, hx13⟩
                    rw [show decide (F = F) = true by simp]
                    have K10 := Lib.hid (K9.out.ext hx13)
                    clear x0 x1 y0 y1 y2 y3 n0 n1 z0 z1 z2 z3 K9 hx13 HIN13 HOB4 B13
                    obtain ⟨x0, x1⟩ := cells2 K10.out.two
                    obtain ⟨y0, y1, y2, y3⟩ := cells4 K10.out.hp
                    have n0 := (Array.getElem?_eq_some_iff.1 K10.out.two).1
                    have n1 := (Array.getElem?_eq_some_iff.1 K10.out.hp).1
                    go_wp2_with fail
                    refine (good_is K10.out.a (hpUp ownH (ownO F)) (show (Lit.int .i64 (3 : Int)).wf = true by decide) HW2.out).mono ?_
                    rintro e w14 ⟨rfl, hx14⟩
                    rw [show (allH (putWs ownWs (rigR 60) ownH (ownO F)) (rigR 60) (hpUp ownH (ownO F))).isSome = true by rw [HA2.out]; rfl]
                    have K11 := Lib.hid (K10.out.ext hx14)
                    clear x0 x1 y0 y1 y2 y3 n0 n1 K10 hx14
                    go_wp2_with fail
                    refine (wakes3 _).mono ?_
                    rintro e w15 ⟨rfl, hx15⟩
                    have K12 := Lib.hid (K11.out.ext hx15)
                    clear hx15 K11
                    go_wp2
                    go_ret
                    refine ⟨rfl, (Ext.alloc _ _).trans (Turn.after HB.out.ext K12.out.t (by
                      intro b hb
                      have h1 := HT0.out
                      have h2 := HB.out.ge.2.1
                      have h3 := HB.out.ext.size
                      simp only [List.mem_cons, List.not_mem_nil, or_false] at hb
                      rcases hb with rfl | rfl <;> omega))⟩
theorem own_walk' {v : Value} {l : List Int} {x : Int} {w : World} (h : WdsP w v l) (hx : (Lit.int .u64 x).wf = true) : Calls Try.prog 7 #[v, .int .u64 x] w (TrueExt w) := own_walk3 h (w64_of_wf hx)
end Go.Proofs.Ytlffmcadchbheaa
