/- The arena's and the reference's calls, each answer as one function of the regions and words. -/
import Derived.Test.YtibpnhaamdelmaaRefaD
namespace Go.Proofs.Ytibpnhaamdelmaa
open Go.RowKit Go.Maps Arena
set_option maxHeartbeats 4000000
set_option maxRecDepth 100000
theorem drop_none {R : List (Nat × Nat)} {x : Int} (h : ∀ r ∈ R, (r.1 : Int) ≠ x) : Arena.drop x R = R := by
  unfold Arena.drop
  refine List.filter_eq_self.2 fun r hr => ?_
  have := h r hr
  simp [this]
theorem lenAt_some' {n : Nat} {R : List (Nat × Nat)} {x : Int} (hg : Arena.Good n R) (h : ¬ lenAt R x = 0) : ∃ (i : Nat) (hi : i < R.length), (R[i].1 : Int) = x ∧ lenAt R x = R[i].2 := by
  obtain ⟨r, hr, h1, h2⟩ := lenAt_some h
  obtain ⟨i, hi, rfl⟩ := List.getElem_of_mem hr
  exact ⟨i, hi, h1, h2⟩
def freeB (R : List (Nat × Nat)) (x : Int) : Bool := !decide (lenAt R x = 0)
theorem free_said {w : World} {p g bm n : Nat} {ws : List Int} {R : List (Nat × Nat)} {x : Int} (h : ArenaAt w p g bm n ws R) (hw : (Lit.int .i64 x).wf = true) :
    Calls Try.prog 12 #[.pointer (some ⟨p, 0, none⟩), .int .i64 x] w fun e w' => e = .returned (.bool (freeB R x)) ∧ ArenaAt w' p g bm n ws (Arena.drop x R) ∧ Turn [bm] w w' := by
  by_cases h0 : lenAt R x = 0
  · refine (free_no h hw h0).mono ?_
    rintro e w' ⟨rfl, rfl⟩
    rw [drop_none (lenAt_zero h.good h0)]
    exact ⟨by simp [freeB, h0], h, Turn.refl _ _⟩
  · obtain ⟨i, hi, rfl, hl⟩ := lenAt_some' h.good h0
    refine (free_yes h (List.getElem_mem hi)).mono ?_
    rintro e w' ⟨rfl, h1, h2⟩
    exact ⟨by simp [freeB, h0], h1, h2⟩
theorem reffree_said {w : World} {q gq B n : Nat} {ws : List Int} {vR : Value} {R : List (Nat × Nat)} {x : Int} (h : RefAt w q gq B n ws vR R) (hB : B ≤ w.heap.size) :
    Calls Try.prog 13 #[.pointer (some ⟨q, 0, none⟩), .int .i64 x] w fun e w' => e = .returned (.bool (freeB R x)) ∧ (∃ v, RefAt w' q gq B n ws v (Arena.drop x R)) ∧ Turn [q] w w' := by
  by_cases h0 : lenAt R x = 0
  · refine (reffree_no h h0).mono ?_
    rintro e w' ⟨rfl, rfl⟩
    rw [drop_none (lenAt_zero h.good h0)]
    exact ⟨by simp [freeB, h0], ⟨_, h⟩, Turn.refl _ _⟩
  · obtain ⟨i, hi, rfl, hl⟩ := lenAt_some' h.good h0
    refine (reffree_yes h hB hi).mono ?_
    rintro e w' ⟨rfl, h1, h2⟩
    exact ⟨by simp [freeB, h0], h1, h2⟩
/-- whether a place is within the region that begins at x -/
def within (R : List (Nat × Nat)) (x a : Int) : Bool := decide (0 ≤ a ∧ a < lenAt R x)
def setWs (ws : List Int) (R : List (Nat × Nat)) (x a v : Int) : List Int := if within R x a then ws.set (x + a).toNat v else ws
def getW (ws : List Int) (R : List (Nat × Nat)) (x a : Int) : Int := if within R x a then ws.getD (x + a).toNat 0 else 0
def wordsAt (ws : List Int) (R : List (Nat × Nat)) (x : Int) : List Int := (ws.drop x.toNat).take (lenAt R x)
/-- a place, by where it stands -/
theorem place_cases {n : Nat} {R : List (Nat × Nat)} (hg : Arena.Good n R) (x a : Int) :
    (lenAt R x = 0 ∧ within R x a = false) ∨ (∃ (i : Nat) (hi : i < R.length), (R[i].1 : Int) = x ∧ lenAt R x = R[i].2 ∧ ((within R x a = false ∧ (a < 0 ∨ (R[i].2 : Int) ≤ a)) ∨ ∃ m : Nat, a = m ∧ m < R[i].2 ∧ within R x a = true)) := by
  by_cases h0 : lenAt R x = 0
  · exact .inl ⟨h0, by unfold within; rw [h0]; simp⟩
  · obtain ⟨i, hi, hx, hl⟩ := lenAt_some' hg h0
    refine .inr ⟨i, hi, hx, hl, ?_⟩
    by_cases ha : 0 ≤ a ∧ a < lenAt R x
    · obtain ⟨m, rfl⟩ := Int.eq_ofNat_of_zero_le ha.1
      exact .inr ⟨m, rfl, by rw [← hl]; omega, by unfold within; exact decide_eq_true ha⟩
    · refine .inl ⟨by unfold within; exact decide_eq_false ha, ?_⟩
      rw [← hl]; omega
theorem setA_said {w : World} {p g bm n : Nat} {ws : List Int} {R : List (Nat × Nat)} {x a v : Int} (h : ArenaAt w p g bm n ws R) (hw : (Lit.int .i64 x).wf = true) :
    Calls Try.prog 16 #[.pointer (some ⟨p, 0, none⟩), .int .i64 x, .int .i64 a, .int .u64 v] w fun e w' => e = .returned (.bool (within R x a)) ∧ ArenaAt w' p g bm n (setWs ws R x a v) R ∧ Turn [g] w w' := by
  rcases place_cases h.good x a with ⟨h0, hf⟩ | ⟨i, hi, rfl, hl, ⟨hf, ho⟩ | ⟨m, rfl, hm, hf⟩⟩
  · refine (set_no h hw h0).mono ?_
    rintro e w' ⟨rfl, rfl⟩
    exact ⟨by rw [hf], by simpa [setWs, hf] using h, Turn.refl _ _⟩
  · refine (set_out h (List.getElem_mem hi) ho).mono ?_
    rintro e w' ⟨rfl, rfl⟩
    exact ⟨by rw [hf], by simpa [setWs, hf] using h, Turn.refl _ _⟩
  · refine (set_yes h (List.getElem_mem hi) hm).mono ?_
    rintro e w' ⟨rfl, h1, h2⟩
    refine ⟨by rw [hf], ?_, h2⟩
    unfold setWs
    rw [if_pos hf, show ((R[i].1 : Int) + (m : Int)).toNat = R[i].1 + m by omega]
    exact h1
theorem setR_said {w : World} {q gq B n : Nat} {ws : List Int} {vR : Value} {R : List (Nat × Nat)} {x a v : Int} (h : RefAt w q gq B n ws vR R) :
    Calls Try.prog 17 #[.pointer (some ⟨q, 0, none⟩), .int .i64 x, .int .i64 a, .int .u64 v] w fun e w' => e = .returned (.bool (within R x a)) ∧ RefAt w' q gq B n (setWs ws R x a v) vR R ∧ Turn [gq] w w' := by
  rcases place_cases h.good x a with ⟨h0, hf⟩ | ⟨i, hi, rfl, hl, ⟨hf, ho⟩ | ⟨m, rfl, hm, hf⟩⟩
  · refine (refset_no h h0).mono ?_
    rintro e w' ⟨rfl, rfl⟩
    exact ⟨by rw [hf], by simpa [setWs, hf] using h, Turn.refl _ _⟩
  · refine (refset_out h (List.getElem_mem hi) ho).mono ?_
    rintro e w' ⟨rfl, rfl⟩
    exact ⟨by rw [hf], by simpa [setWs, hf] using h, Turn.refl _ _⟩
  · refine (refset_yes h (List.getElem_mem hi) hm).mono ?_
    rintro e w' ⟨rfl, h1, h2⟩
    refine ⟨by rw [hf], ?_, h2⟩
    unfold setWs
    rw [if_pos hf, show ((R[i].1 : Int) + (m : Int)).toNat = R[i].1 + m by omega]
    exact h1
theorem getA_said {w : World} {p g bm n : Nat} {ws : List Int} {R : List (Nat × Nat)} {x a : Int} (h : ArenaAt w p g bm n ws R) (hw : (Lit.int .i64 x).wf = true) :
    Calls Try.prog 14 #[.pointer (some ⟨p, 0, none⟩), .int .i64 x, .int .i64 a] w fun e w' => e = .returned (.tuple #[.int .u64 (getW ws R x a), .bool (within R x a)]) ∧ w = w' := by
  rcases place_cases h.good x a with ⟨h0, hf⟩ | ⟨i, hi, rfl, hl, ⟨hf, ho⟩ | ⟨m, rfl, hm, hf⟩⟩
  · refine (get_no h hw h0).mono ?_
    rintro e w' ⟨rfl, rfl⟩
    exact ⟨by simp [getW, hf], rfl⟩
  · refine (get_out h (List.getElem_mem hi) ho).mono ?_
    rintro e w' ⟨rfl, rfl⟩
    exact ⟨by simp [getW, hf], rfl⟩
  · refine (get_yes h (List.getElem_mem hi) hm).mono ?_
    rintro e w' ⟨rfl, rfl⟩
    refine ⟨?_, rfl⟩
    unfold getW
    rw [if_pos hf, hf, show ((R[i].1 : Int) + (m : Int)).toNat = R[i].1 + m by omega]
theorem getR_said {w : World} {q gq B n : Nat} {ws : List Int} {vR : Value} {R : List (Nat × Nat)} {x a : Int} (h : RefAt w q gq B n ws vR R) :
    Calls Try.prog 15 #[.pointer (some ⟨q, 0, none⟩), .int .i64 x, .int .i64 a] w fun e w' => e = .returned (.agg #[.int .u64 (getW ws R x a), .bool (within R x a)]) ∧ Ext w w' := by
  rcases place_cases h.good x a with ⟨h0, hf⟩ | ⟨i, hi, rfl, hl, ⟨hf, ho⟩ | ⟨m, rfl, hm, hf⟩⟩
  · refine (refget_no h h0).mono ?_
    rintro e w' ⟨rfl, hx⟩
    exact ⟨by simp [getW, hf], hx⟩
  · refine (refget_out h (List.getElem_mem hi) ho).mono ?_
    rintro e w' ⟨rfl, hx⟩
    exact ⟨by simp [getW, hf], hx⟩
  · refine (refget_yes h (List.getElem_mem hi) hm).mono ?_
    rintro e w' ⟨rfl, hx⟩
    refine ⟨?_, hx⟩
    unfold getW
    rw [if_pos hf, hf, show ((R[i].1 : Int) + (m : Int)).toNat = R[i].1 + m by omega]
theorem wordSl_nil (w : World) : WordSl w (.slice none 0 0) [] := ⟨none, 0, rfl, Nat.le_refl _, Nat.zero_le _, fun i x h => by simp at h⟩
theorem wordsAt_zero {ws : List Int} {R : List (Nat × Nat)} {x : Int} (h0 : lenAt R x = 0) : wordsAt ws R x = [] := by unfold wordsAt; rw [h0]; simp
theorem wordsA_said {w : World} {p g bm n : Nat} {ws : List Int} {R : List (Nat × Nat)} {x : Int} (h : ArenaAt w p g bm n ws R) (hw : (Lit.int .i64 x).wf = true) :
    Calls Try.prog 18 #[.pointer (some ⟨p, 0, none⟩), .int .i64 x] w fun e w' => ∃ v, e = .returned (.tuple #[v, .bool (freeB R x)]) ∧ WordSl w' v (wordsAt ws R x) ∧ Ext w w' := by
  by_cases h0 : lenAt R x = 0
  · refine (words_no h hw h0).mono ?_
    rintro e w' ⟨rfl, rfl⟩
    exact ⟨.slice none 0 0, by simp [freeB, h0], by rw [wordsAt_zero h0]; exact wordSl_nil _, Ext.refl _⟩
  · obtain ⟨i, hi, rfl, hl⟩ := lenAt_some' h.good h0
    refine (words_yes h (List.getElem_mem hi)).mono ?_
    rintro e w' ⟨v, rfl, h1, h2⟩
    refine ⟨v, by simp [freeB, h0], ?_, h2⟩
    have hlen := wordsOf_length (ws := ws) h.good h.len (List.getElem_mem hi)
    have e1 : wordsAt ws R (R[i].1 : Int) = wordsOf ws R[i] := by
      unfold wordsAt wordsOf
      rw [hl]
      simp
    rw [e1]
    refine WordSl.of_row (l := wordsOf ws R[i]) (base := w.heap.size) ?_
    rw [hlen]
    exact h1
theorem wordsR_said {w : World} {q gq B n : Nat} {ws : List Int} {vR : Value} {R : List (Nat × Nat)} {x : Int} (h : RefAt w q gq B n ws vR R) :
    Calls Try.prog 21 #[.pointer (some ⟨q, 0, none⟩), .int .i64 x] w fun e w' => ∃ v, e = .returned v ∧ WordSl w v (wordsAt ws R x) ∧ w = w' := by
  by_cases h0 : lenAt R x = 0
  · refine (refwords_no h h0).mono ?_
    rintro e w' ⟨rfl, rfl⟩
    exact ⟨_, rfl, by rw [wordsAt_zero h0]; exact wordSl_nil _, rfl⟩
  · obtain ⟨i, hi, rfl, hl⟩ := lenAt_some' h.good h0
    refine (refwords_yes h (List.getElem_mem hi)).mono ?_
    rintro e w' ⟨rfl, rfl⟩
    refine ⟨_, rfl, ?_, rfl⟩
    have hlen := wordsOf_length (ws := ws) h.good h.len (List.getElem_mem hi)
    have hb := h.good.2 R[i] (List.getElem_mem hi)
    have hn := h.least
    have e1 : wordsAt ws R (R[i].1 : Int) = wordsOf ws R[i] := by
      unfold wordsAt wordsOf
      rw [hl]
      simp
    rw [e1]
    refine ⟨some ⟨gq, R[i].1, none⟩, n - R[i].1, by rw [hlen], by rw [hlen]; omega, by unfold maxLen; omega, fun j y hj => ⟨gq, R[i].1, rfl, ?_⟩⟩
    have hjl : j < (wordsOf ws R[i]).length := (List.getElem?_eq_some_iff.1 hj).1
    rw [hlen] at hjl
    rw [(h.word (i := R[i].1 + j) (by omega)).1]
    unfold wordsOf at hj
    rw [List.getElem?_take_of_lt hjl, List.getElem?_drop] at hj
    rw [List.getD_eq_getElem?_getD, hj]
    rfl
theorem sizeR_said {w : World} {q gq B n : Nat} {ws : List Int} {vR : Value} {R : List (Nat × Nat)} {x : Int} (h : RefAt w q gq B n ws vR R) :
    Calls Try.prog 19 #[.pointer (some ⟨q, 0, none⟩), .int .i64 x] w fun e w' => (∃ s : Int, e = .returned (.int .i64 s) ∧ decide (0 ≤ s) = freeB R x) ∧ w = w' := by
  by_cases h0 : lenAt R x = 0
  · refine (size_no h h0).mono ?_
    rintro e w' ⟨rfl, rfl⟩
    exact ⟨⟨-1, rfl, by simp [freeB, h0]⟩, rfl⟩
  · obtain ⟨i, hi, rfl, hl⟩ := lenAt_some' h.good h0
    refine (size_yes h (List.getElem_mem hi)).mono ?_
    rintro e w' ⟨rfl, rfl⟩
    exact ⟨⟨_, rfl, by simp [freeB, h0]⟩, rfl⟩
end Go.Proofs.Ytibpnhaamdelmaa
