/- Proved here: the contracts and laws of GcR, GcS, GcT, RigA, RigB, RigC, RigD, ObjLA, ObjLB, GcLA, GcB, GcA of this claim, each beneath its own remark; conditions: those that each theorem names. -/
import Derived.Test.YtinakendlpomnaaGreatM6
import Derived.Test.YtinakendlpomnaaGreatM5
import Derived.Test.YtinakendlpomnaaGreatM2
import Derived.Deep.RegionHeld3
import Derived.Deep.CutBlock
import Derived.Deep.Light
/- A mover's state, and its steps. Plain. -/
namespace Go.Proofs.YtinakendlpomnaaGreat
open Go.RowKit Go.Maps Arena
set_option maxRecDepth 100000
def movedW (t : Nat) : Int := 5 + 256 * (t : Int)
/-- the semispace that is left, the other one: what was moved stands in order in the other one -/
structure MvSt (o1 H : Nat) (Hs Fin F : List (Nat × Ob)) (L : List Ob) (A B : List Int) : Prop where
  lenA : A.length = H
  hs : HsOK H Hs
  fin : FinF Hs Fin
  pre : F <+: Fin
  keep : ∀ y ∈ Hs, inF F y.1 = false → ∀ k, k < wordsO y.2 → A[y.1 + k]? = (layO y.2)[k]?
  mvd : ∀ y ∈ F, A[y.1]? = some (movedW (o1 + offF Fin y.1))
  b : B = layL L ++ List.replicate (H - sizeF F) 0
  sz : sizeL L = sizeF F
  may : ∀ o ∈ L, mayO o = true
section
variable {o1 H : Nat} {Hs Fin F : List (Nat × Ob)} {L : List Ob} {A B : List Int}
theorem MvSt.fits (h : MvSt o1 H Hs Fin F L A B) : sizeF F ≤ H := by
  have := (h.fin.pre h.pre).size.1
  have := h.hs.size
  omega
theorem MvSt.lenB (h : MvSt o1 H Hs Fin F L A B) : B.length = H := by
  rw [h.b, List.length_append, layL_len h.may, h.sz, List.length_replicate]
  have := h.fits
  omega
theorem mvSt_start (hA : A.length = H) (hH : HsOK H Hs) (hF : FinF Hs Fin) (hk : ∀ y ∈ Hs, ∀ k, k < wordsO y.2 → A[y.1 + k]? = (layO y.2)[k]?) : MvSt o1 H Hs Fin [] [] A (List.replicate H 0) :=
  ⟨hA, hH, hF, List.nil_prefix, fun y hy _ => hk y hy, fun y h => (by cases h), by simp [layL, sizeF], rfl, fun o h => (by cases h)⟩
/-- a new one fits -/
theorem MvSt.room (h : MvSt o1 H Hs Fin F L A B) {y : Nat × Ob} (hp : F ++ [y] <+: Fin) : sizeF F + wordsO y.2 ≤ H := by
  have h1 := (h.fin.pre hp).size.1
  have := h.hs.size
  rw [sizeF_app] at h1
  simp only [sizeF] at h1
  omega
/-- the other semispace while so many words of one more object were set -/
def cpB (H : Nat) (L : List Ob) (o : Ob) (i : Nat) : List Int := layL L ++ ((layO o).take i ++ List.replicate (H - sizeL L - i) 0)
theorem cpB_zero (h : MvSt o1 H Hs Fin F L A B) (o : Ob) : cpB H L o 0 = B := by
  unfold cpB
  rw [h.b, h.sz]
  simp
theorem cpB_len {o : Ob} (hL : ∀ o ∈ L, mayO o = true) (hf : sizeL L + wordsO o ≤ H) (ho : mayO o = true) {i : Nat} (hi : i ≤ wordsO o) : (cpB H L o i).length = H := by
  unfold cpB
  have := layO_len ho
  rw [List.length_append, List.length_append, layL_len hL, List.length_take, List.length_replicate]
  omega
theorem cpB_set {o : Ob} (hL : ∀ o ∈ L, mayO o = true) (hf : sizeL L + wordsO o ≤ H) (ho : mayO o = true) {i : Nat} {x : Int} (hx : (layO o)[i]? = some x) : (cpB H L o i).set (sizeL L + i) x = cpB H L o (i + 1) := by
  obtain ⟨hi, rfl⟩ := List.getElem?_eq_some_iff.1 hx
  have hl := layO_len ho
  unfold cpB
  rw [List.set_append_right _ _ (by rw [layL_len hL]; omega), layL_len hL, Nat.add_sub_cancel_left, List.set_append_right _ _ (by rw [List.length_take]; omega), List.length_take, Nat.min_eq_left (by omega), Nat.sub_self]
  congr 1
  rw [show H - sizeL L - i = (H - sizeL L - (i + 1)) + 1 by omega, List.replicate_succ, List.set_cons_zero, List.take_succ_eq_append_getElem hi, List.append_assoc]
  rfl
/-- one more object is moved -/
theorem MvSt.add (h : MvSt o1 H Hs Fin F L A B) {y : Nat × Ob} (hy : y ∈ Hs) (hn : inF F y.1 = false) (hp : F ++ [y] <+: Fin) : MvSt o1 H Hs Fin (F ++ [y]) (L ++ [y.2]) (A.set y.1 (movedW (o1 + sizeF F))) (cpB H L y.2 (wordsO y.2)) := by
  have hr := h.room hp
  have hl := layO_len (h.hs.may y hy)
  have hw := wordsO_pos y.2
  have hfit := h.hs.fit y hy
  refine ⟨by rw [List.length_set]; exact h.lenA, h.hs, h.fin, hp, fun z hz hzn k hk => ?_, fun z hz => ?_, ?_, ?_, ?_⟩
  · rw [inF_app, Bool.or_eq_false_iff] at hzn
    have hne : z.1 ≠ y.1 := fun e => by have := hzn.2; unfold inF at this; simp [e] at this
    have hfar := h.hs.far hz hy hne
    have := h.keep z hz hzn.1 k hk
    rw [List.getElem?_set_ne (by omega)]
    exact this
  · obtain ⟨T, hT⟩ := hp
    rcases List.mem_append.1 hz with hz | hz
    · have hne : z.1 ≠ y.1 := fun e => by rw [inF_true.2 ⟨z, hz, e⟩] at hn; cases hn
      rw [List.getElem?_set_ne (Ne.symm hne)]
      exact h.mvd z hz
    · obtain rfl := List.mem_singleton.1 hz
      rw [List.getElem?_set_self (by rw [h.lenA]; omega)]
      have : offF Fin z.1 = sizeF F := by
        rw [← hT, List.append_assoc, List.singleton_append]
        exact offF_new hn T
      rw [this]
  · unfold cpB
    rw [layL_app, List.append_assoc, sizeF_app, ← h.sz]
    have e1 : layL [y.2] = layO y.2 := by unfold layL; simp
    rw [e1, List.take_of_length_le (by omega)]
    simp only [sizeF, Nat.add_zero]
    rw [show H - sizeL L - wordsO y.2 = H - (sizeL L + wordsO y.2) by omega]
  · rw [sizeL_app, sizeF_app, h.sz]
    rfl
  · intro o ho
    rcases List.mem_append.1 ho with ho | ho
    · exact h.may o ho
    · rw [List.mem_singleton.1 ho]; exact h.hs.may y hy
/-- a word of what was moved -/
theorem MvSt.getB (h : MvSt o1 H Hs Fin F L A B) {i : Nat} {o : Ob} (ho : L[i]? = some o) {k : Nat} (hk : k < wordsO o) : B[sizeL (L.take i) + k]? = (layO o)[k]? := by
  have hg := layL_get h.may ho hk
  have hl := layO_len (h.may o (List.mem_of_getElem? ho))
  have : sizeL (L.take i) + k < (layL L).length := by
    rw [List.getElem?_eq_getElem (by omega : k < (layO o).length)] at hg
    exact (List.getElem?_eq_some_iff.1 hg).1
  rw [h.b, List.getElem?_append_left this, hg]
/-- a word of it is another one -/
theorem MvSt.setB (h : MvSt o1 H Hs Fin F L A B) {i : Nat} {o o' : Ob} (ho : L[i]? = some o) {k : Nat} (hk : k < wordsO o) {v : Int} (hs : (layO o).set k v = layO o') (hw : wordsO o' = wordsO o) (hm : mayO o' = true) : MvSt o1 H Hs Fin F (L.set i o') A (B.set (sizeL (L.take i) + k) v) := by
  have hg := layL_get h.may ho hk
  have hl := layO_len (h.may o (List.mem_of_getElem? ho))
  have hlt : sizeL (L.take i) + k < (layL L).length := by
    rw [List.getElem?_eq_getElem (by omega : k < (layO o).length)] at hg
    exact (List.getElem?_eq_some_iff.1 hg).1
  have hsz : ∀ (M : List Ob) (i : Nat), M[i]? = some o → sizeL (M.set i o') = sizeL M := by
    intro M
    induction M with
    | nil => intro i h; simp at h
    | cons p M ih =>
      intro i hi
      cases i with
      | zero => obtain rfl := Option.some.inj hi; simp only [List.set_cons_zero, sizeL, hw]
      | succ i => simp only [List.set_cons_succ, sizeL]; rw [ih i (by simpa using hi)]
  refine ⟨h.lenA, h.hs, h.fin, h.pre, h.keep, h.mvd, ?_, by rw [hsz L i ho]; exact h.sz, fun p hp => ?_⟩
  · rw [h.b, List.set_append_left _ _ hlt, layL_set h.may ho hk hs]
  · rcases List.mem_or_eq_of_mem_set hp with hp | rfl
    · exact h.may p hp
    · exact hm
end
/-- the place of the i-th that was moved -/
theorem offF_at {Hs F : List (Nat × Ob)} (h : FinF Hs F) {i : Nat} {y : Nat × Ob} (hy : F[i]? = some y) : offF F y.1 = sizeF (F.take i) := by
  obtain ⟨hi, rfl⟩ := List.getElem?_eq_some_iff.1 hy
  have hsplit : F = F.take i ++ F[i] :: F.drop (i + 1) := by
    conv => lhs; rw [← List.take_append_drop i F, List.drop_eq_getElem_cons hi]
  have hn : inF (F.take i) (F[i]).1 = false := by
    cases hc : inF (F.take i) (F[i]).1 with
    | false => rfl
    | true =>
      obtain ⟨z, hz, e⟩ := inF_true.1 hc
      obtain ⟨j, hj, rfl⟩ := List.getElem_of_mem hz
      rw [List.getElem_take] at e
      rw [List.length_take] at hj
      exact absurd e (List.pairwise_iff_getElem.1 h.nd j i (by omega) hi (by omega))
  have e := offF_new hn (F.drop (i + 1))
  rw [← hsplit] at e
  exact e
/-- what the other semispace holds in the end -/
def gcB (H : Nat) (f : Int → Int) (F : List (Nat × Ob)) : List Int := layL (F.map fun y => mapO f y.2) ++ List.replicate (H - sizeF F) 0
theorem MvSt.done {o1 H : Nat} {Hs F : List (Nat × Ob)} {f : Int → Int} {i j : Nat} {A B : List Int} (h : MvSt o1 H Hs F F (objsAt f i j F) A B) (hi : F.length ≤ i) : B = gcB H f F := by
  rw [h.b, objsAt_done f hi]
  rfl
/-- of a word that is a number, or an object's, the new word -/
theorem newW_of {o0 o1 : Nat} {Hs F : List (Nat × Ob)} {x : Int} {y : Nat × Ob} (hg : getL o0 Hs x = some y) : newW o0 o1 F x = ((2 * (o1 + offF F y.1) : Nat) : Int) := by
  obtain ⟨_, h1, h2, _⟩ := getL_some hg
  unfold newW
  rw [if_neg (by rw [h2]; simp), show (x / 2).toNat - o0 = y.1 by omega]
theorem newW_int {o0 o1 : Nat} {F : List (Nat × Ob)} {x : Int} (h : isIntW x = true) : newW o0 o1 F x = x := by unfold newW; rw [if_pos h]
/-- a word that may be a field: a number, or an object's -/
theorem ok_cases {o0 : Nat} {Hs : List (Nat × Ob)} {x : Int} (h : fieldOK (Hs.map (·.1)) o0 x = true) (_hx : W64 x) : isIntW x = true ∨ ∃ y, getL o0 Hs x = some y := by
  by_cases hi : isIntW x = true
  · exact .inl hi
  · right
    unfold fieldOK at h
    simp only [Bool.or_eq_true, hi, Bool.false_eq_true, false_or, Bool.and_eq_true, decide_eq_true_eq, List.any_eq_true] at h
    obtain ⟨h1, a, ha, h2⟩ := h
    obtain ⟨y, hy, rfl⟩ := List.mem_map.1 ha
    unfold getL
    rw [if_neg (by intro h; rcases h with h | h; exact hi h; omega)]
    cases hf : Hs.find? (fun z => decide (((o0 + z.1 : Nat) : Int) = x / 2)) with
    | some z => exact ⟨z, rfl⟩
    | none =>
      have := List.find?_eq_none.1 hf y hy
      simp only [decide_eq_true_eq] at this
      exact absurd h2 this
theorem addF_int {o0 : Nat} {Hs F : List (Nat × Ob)} {x : Int} (h : isIntW x = true) : addF o0 Hs F x = F := by
  unfold addF getL
  rw [if_pos (.inl h)]
theorem addF_seen {o0 : Nat} {Hs F : List (Nat × Ob)} {x : Int} {y : Nat × Ob} (hg : getL o0 Hs x = some y) (h : inF F y.1 = true) : addF o0 Hs F x = F := by
  unfold addF
  rw [hg]
  simp only
  rw [if_pos h]
theorem addF_new {o0 : Nat} {Hs F : List (Nat × Ob)} {x : Int} {y : Nat × Ob} (hg : getL o0 Hs x = some y) (h : inF F y.1 = false) : addF o0 Hs F x = F ++ [y] := by
  unfold addF
  rw [hg]
  simp only
  rw [if_neg (by rw [h]; simp)]
/-- of one that was moved, which it is -/
theorem seen_get {Hs F : List (Nat × Ob)} {H : Nat} (hH : HsOK H Hs) (hs : ∀ z ∈ F, z ∈ Hs) {y : Nat × Ob} (hy : y ∈ Hs) (h : inF F y.1 = true) : y ∈ F := by
  obtain ⟨z, hz, e⟩ := inF_true.1 h
  rw [hH.inj hy (hs z hz) e.symm]
  exact hz
/-! ### the state of what is still to come -/
/-- from here on the rest leads to just what it leads to in all -/
def Rest0 (o0 : Nat) (Hs Fin : List (Nat × Ob)) (F : List (Nat × Ob)) (xs : List Int) : Prop := scanF o0 Hs Hs.length 0 (growF o0 Hs F xs) = Fin
def Rest1 (o0 : Nat) (Hs Fin : List (Nat × Ob)) (i : Nat) (F : List (Nat × Ob)) : Prop := ∃ k, Hs.length ≤ k + i ∧ scanF o0 Hs k i F = Fin
def Rest2 (o0 : Nat) (Hs Fin : List (Nat × Ob)) (i : Nat) (F : List (Nat × Ob)) (xs : List Int) : Prop := Rest1 o0 Hs Fin (i + 1) (growF o0 Hs F xs)
section
variable {o0 : Nat} {Hs Fin F : List (Nat × Ob)} {i : Nat}
theorem rest0_step {x : Int} {xs : List Int} (h : Rest0 o0 Hs Fin F (x :: xs)) : Rest0 o0 Hs Fin (addF o0 Hs F x) xs := h
theorem rest0_pre {xs : List Int} (h : Rest0 o0 Hs Fin F xs) : F <+: Fin := h ▸ (growF_pre o0 Hs xs F).trans (scanF_pre ..)
theorem rest0_scan (h : Rest0 o0 Hs Fin F []) : Rest1 o0 Hs Fin 0 F := ⟨Hs.length, Nat.le_refl _, h⟩
theorem rest1_pre (h : Rest1 o0 Hs Fin i F) : F <+: Fin := by obtain ⟨k, _, h⟩ := h; exact h ▸ scanF_pre ..
theorem rest1_end (h : Rest1 o0 Hs Fin i F) (hi : F.length ≤ i) : F = Fin := by obtain ⟨k, _, h⟩ := h; rw [scanF_end hi] at h; exact h
theorem rest1_open (h : Rest1 o0 Hs Fin i F) (hF : F.length ≤ Hs.length) {y : Nat × Ob} (hy : F[i]? = some y) : Rest2 o0 Hs Fin i F y.2.fields := by
  obtain ⟨k, hk, h⟩ := h
  have := (List.getElem?_eq_some_iff.1 hy).1
  obtain ⟨k, rfl⟩ : ∃ k', k = k' + 1 := ⟨k - 1, by omega⟩
  unfold scanF at h
  rw [hy] at h
  exact ⟨k, by omega, h⟩
theorem rest2_step {x : Int} {xs : List Int} (h : Rest2 o0 Hs Fin i F (x :: xs)) : Rest2 o0 Hs Fin i (addF o0 Hs F x) xs := h
theorem rest2_pre {xs : List Int} (h : Rest2 o0 Hs Fin i F xs) : F <+: Fin := (growF_pre o0 Hs xs F).trans (rest1_pre h)
theorem rest2_end (h : Rest2 o0 Hs Fin i F []) : Rest1 o0 Hs Fin (i + 1) F := h
end
theorem rest0_start (o0 : Nat) (Hs : List (Nat × Ob)) (roots : List Int) : Rest0 o0 Hs (liveF o0 Hs roots) [] roots := rfl
/-- the queue's state: what is left of a row, then the fields of all behind the i-th -/
def Queue (o0 : Nat) (Hs Fin F : List (Nat × Ob)) (row : List Int) : Prop := ∃ i cur, row = cur ++ (F.drop i).flatMap (fun y => y.2.fields) ∧ i ≤ F.length ∧ Rest1 o0 Hs Fin i (growF o0 Hs F cur) ∧ ∀ x ∈ row, fieldOK (Hs.map (·.1)) o0 x = true
theorem queue_start (o0 : Nat) (Hs : List (Nat × Ob)) {roots : List Int} (h : ∀ x ∈ roots, fieldOK (Hs.map (·.1)) o0 x = true) : Queue o0 Hs (liveF o0 Hs roots) [] roots :=
  ⟨0, roots, by simp, Nat.zero_le _, rest0_scan (F := growF o0 Hs [] roots) rfl, h⟩
/-- an empty row: all were met -/
theorem queue_end {o0 : Nat} {Hs Fin F : List (Nat × Ob)} (h : Queue o0 Hs Fin F []) (hF : F.length ≤ Hs.length) : F = Fin := by
  obtain ⟨i, cur, h1, h2, h3, -⟩ := h
  obtain ⟨rfl, h4⟩ := List.append_eq_nil_iff.1 h1.symm
  have h5 : ∀ n i, F.length ≤ i + n → i ≤ F.length → (F.drop i).flatMap (fun y => y.2.fields) = [] → Rest1 o0 Hs Fin i F → F = Fin := by
    intro n
    induction n with
    | zero => intro i hn hi _ h; exact rest1_end h (by omega)
    | succ n ih =>
      intro i hn hi he h
      by_cases hlt : i < F.length
      · have hy := List.getElem?_eq_getElem hlt
        have h6 := rest1_open h hF hy
        rw [List.drop_eq_getElem_cons hlt, List.flatMap_cons] at he
        obtain ⟨e1, e2⟩ := List.append_eq_nil_iff.1 he
        rw [e1] at h6
        exact ih (i + 1) (by omega) (by omega) e2 (rest2_end h6)
      · exact rest1_end h (by omega)
  exact h5 F.length i (by omega) h2 h4 h3
/-- a row that is not empty may be taken so that a word is left of its first part -/
theorem queue_open {o0 : Nat} {Hs Fin F : List (Nat × Ob)} {x : Int} {row : List Int} (h : Queue o0 Hs Fin F (x :: row)) (hF : F.length ≤ Hs.length) : ∃ i cur, row = cur ++ (F.drop i).flatMap (fun y => y.2.fields) ∧ i ≤ F.length ∧ Rest1 o0 Hs Fin i (growF o0 Hs F (x :: cur)) ∧ ∀ z ∈ x :: row, fieldOK (Hs.map (·.1)) o0 z = true := by
  obtain ⟨i, cur, h1, h2, h3, h4⟩ := h
  have h5 : ∀ n i cur, F.length ≤ i + n → i ≤ F.length → x :: row = cur ++ (F.drop i).flatMap (fun y => y.2.fields) → Rest1 o0 Hs Fin i (growF o0 Hs F cur) → ∃ i cur, row = cur ++ (F.drop i).flatMap (fun y => y.2.fields) ∧ i ≤ F.length ∧ Rest1 o0 Hs Fin i (growF o0 Hs F (x :: cur)) := by
    intro n
    induction n with
    | zero =>
      intro i cur hn hi he h
      rw [List.drop_eq_nil_of_le (by omega)] at he
      cases cur with
      | nil => simp at he
      | cons c cur =>
        rw [List.cons_append] at he
        obtain ⟨rfl, e2⟩ := List.cons.inj he
        exact ⟨i, cur, by rw [List.drop_eq_nil_of_le (by omega)]; exact e2, hi, h⟩
    | succ n ih =>
      intro i cur hn hi he h
      cases cur with
      | cons c cur =>
        rw [List.cons_append] at he
        obtain ⟨rfl, e2⟩ := List.cons.inj he
        exact ⟨i, cur, e2, hi, h⟩
      | nil =>
        by_cases hlt : i < F.length
        · have hy := List.getElem?_eq_getElem hlt
          have h6 := rest1_open (F := F) h hF hy
          rw [List.drop_eq_getElem_cons hlt, List.flatMap_cons, List.nil_append] at he
          exact ih (i + 1) _ (by omega) (by omega) he h6
        · rw [List.drop_eq_nil_of_le (by omega)] at he
          simp at he
  obtain ⟨j, c, h6, h7, h8⟩ := h5 F.length i cur (by omega) h2 h1 h3
  exact ⟨j, c, h6, h7, h8, h4⟩
theorem queue_skip {o0 : Nat} {Hs Fin F : List (Nat × Ob)} {x : Int} {row : List Int} (h : Queue o0 Hs Fin F (x :: row)) (hF : F.length ≤ Hs.length) (ha : addF o0 Hs F x = F) : Queue o0 Hs Fin F row := by
  obtain ⟨i, cur, h1, h2, h3, h4⟩ := queue_open h hF
  refine ⟨i, cur, h1, h2, ?_, fun z hz => h4 z (.tail _ hz)⟩
  have e : growF o0 Hs F (x :: cur) = growF o0 Hs (addF o0 Hs F x) cur := rfl
  rw [e, ha] at h3
  exact h3
theorem queue_meet {o0 : Nat} {Hs Fin F : List (Nat × Ob)} {x : Int} {row : List Int} {y : Nat × Ob} (h : Queue o0 Hs Fin F (x :: row)) (hF : F.length ≤ Hs.length) (ha : addF o0 Hs F x = F ++ [y]) (hy : ∀ z ∈ y.2.fields, fieldOK (Hs.map (·.1)) o0 z = true) : Queue o0 Hs Fin (F ++ [y]) (row ++ y.2.fields) := by
  obtain ⟨i, cur, h1, h2, h3, h4⟩ := queue_open h hF
  refine ⟨i, cur, ?_, by rw [List.length_append]; omega, ?_, fun z hz => ?_⟩
  · rw [h1, List.drop_append_of_le_length h2, List.flatMap_append, List.append_assoc]
    simp
  · have e : growF o0 Hs F (x :: cur) = growF o0 Hs (addF o0 Hs F x) cur := rfl
    rw [e, ha] at h3
    exact h3
  · rcases List.mem_append.1 hz with hz | hz
    · exact h4 z (.tail _ hz)
    · exact hy z hz
theorem queue_pre {o0 : Nat} {Hs Fin F : List (Nat × Ob)} {row : List Int} (h : Queue o0 Hs Fin F row) : F <+: Fin := by
  obtain ⟨i, cur, h1, h2, h3, h4⟩ := h
  exact (growF_pre o0 Hs cur F).trans (rest1_pre h3)
end Go.Proofs.YtinakendlpomnaaGreat
/- Collections behind one another: what stands behind one is what it was, in order. Plain. -/
namespace Go.Proofs.YtinakendlpomnaaGreat
open Go.RowKit Go.Maps Arena
set_option maxRecDepth 100000
/-! ### what is moved is closed -/
def ClosedAt (o0 : Nat) (Hs F : List (Nat × Ob)) (x : Int) : Prop := ∀ z, getL o0 Hs x = some z → inF F z.1 = true
theorem inF_mono {F G : List (Nat × Ob)} (h : F <+: G) {a : Nat} (ha : inF F a = true) : inF G a = true := by
  obtain ⟨T, rfl⟩ := h
  rw [inF_app, ha]
  rfl
theorem ClosedAt.mono {o0 : Nat} {Hs F G : List (Nat × Ob)} {x : Int} (h : ClosedAt o0 Hs F x) (hp : F <+: G) : ClosedAt o0 Hs G x := fun z hz => inF_mono hp (h z hz)
theorem addF_closed (o0 : Nat) (Hs F : List (Nat × Ob)) (x : Int) : ClosedAt o0 Hs (addF o0 Hs F x) x := by
  intro z hz
  by_cases h : inF F z.1 = true
  · rw [addF_seen hz h]; exact h
  · rw [addF_new hz (by simpa using h)]
    exact inF_true.2 ⟨z, by simp, rfl⟩
theorem growF_closed (o0 : Nat) (Hs : List (Nat × Ob)) : ∀ (xs : List Int) (F : List (Nat × Ob)), ∀ x ∈ xs, ClosedAt o0 Hs (growF o0 Hs F xs) x
  | [], _, x, h => by cases h
  | y :: xs, F, x, h => by
    rcases List.mem_cons.1 h with rfl | h
    · exact (addF_closed o0 Hs F x).mono (growF_pre o0 Hs xs _)
    · exact growF_closed o0 Hs xs _ x h
theorem scanF_closed {o0 : Nat} {Hs : List (Nat × Ob)} : ∀ (k i : Nat) (F : List (Nat × Ob)), FinF Hs F → Hs.length ≤ k + i → (∀ j y, j < i → F[j]? = some y → ∀ x ∈ y.2.fields, ClosedAt o0 Hs F x) →
    ∀ y ∈ scanF o0 Hs k i F, ∀ x ∈ y.2.fields, ClosedAt o0 Hs (scanF o0 Hs k i F) x := by
  intro k
  induction k with
  | zero =>
    intro i F hF hk h y hy
    obtain ⟨j, hj⟩ := List.getElem?_of_mem hy
    have := (List.getElem?_eq_some_iff.1 hj).1
    have hl := hF.size.2
    have h1 : (scanF o0 Hs 0 i F) = F := rfl
    rw [h1] at this
    exact h j y (by omega) hj
  | succ k ih =>
    intro i F hF hk h
    unfold scanF
    split
    · rename_i hn
      intro y hy
      obtain ⟨j, hj⟩ := List.getElem?_of_mem hy
      have := (List.getElem?_eq_some_iff.1 hj).1
      have := List.getElem?_eq_none_iff.1 hn
      exact h j y (by omega) hj
    · rename_i y hy
      refine ih (i + 1) _ (hF.grow _) (by omega) fun j z hj hz x hx => ?_
      have hp := growF_pre o0 Hs y.2.fields F
      obtain ⟨T, hT⟩ := hp
      by_cases hji : j < i
      · have hjl : j < F.length := by have := (List.getElem?_eq_some_iff.1 hy).1; omega
        rw [← hT, List.getElem?_append_left hjl] at hz
        exact (h j z hji hz x hx).mono ⟨T, hT⟩
      · obtain rfl : j = i := by omega
        have hjl := (List.getElem?_eq_some_iff.1 hy).1
        rw [← hT, List.getElem?_append_left hjl, hy] at hz
        obtain rfl := Option.some.inj hz
        exact growF_closed o0 Hs _ F x hx
theorem live_closed (o0 : Nat) (Hs : List (Nat × Ob)) (roots : List Int) : (∀ x ∈ roots, ClosedAt o0 Hs (liveF o0 Hs roots) x) ∧ ∀ y ∈ liveF o0 Hs roots, ∀ x ∈ y.2.fields, ClosedAt o0 Hs (liveF o0 Hs roots) x :=
  ⟨fun x hx => (growF_closed o0 Hs roots [] x hx).mono (scanF_pre ..), scanF_closed _ _ _ ((FinF.nil Hs).grow roots) (by omega) fun j y hj => (by omega)⟩
/-- more rounds change nothing where all were done -/
theorem scanF_more {o0 : Nat} {Hs : List (Nat × Ob)} : ∀ (k i : Nat) (F : List (Nat × Ob)), (scanF o0 Hs k i F).length ≤ k + i → ∀ m, scanF o0 Hs (k + m) i F = scanF o0 Hs k i F := by
  intro k
  induction k with
  | zero =>
    intro i F h m
    have h1 : (scanF o0 Hs 0 i F) = F := rfl
    rw [h1] at h ⊢
    exact scanF_end (by omega)
  | succ k ih =>
    intro i F h m
    rw [show k + 1 + m = (k + m) + 1 by omega]
    unfold scanF at h ⊢
    cases hy : F[i]? with
    | none => rfl
    | some y =>
      rw [hy] at h
      simp only at h ⊢
      exact ih (i + 1) _ (by omega) m
/-! ### the objects behind a collection -/
/-- an object at its new place -/
def phi (f : Int → Int) (Fin : List (Nat × Ob)) (y : Nat × Ob) : Nat × Ob := (offF Fin y.1, mapO f y.2)
/-- the objects side by side from a place on -/
def putF (f : Int → Int) : Nat → List (Nat × Ob) → List (Nat × Ob)
  | _, [] => []
  | a, y :: F => (a, mapO f y.2) :: putF f (a + wordsO y.2) F
theorem putF_app (f : Int → Int) : ∀ (F G : List (Nat × Ob)) (a : Nat), putF f a (F ++ G) = putF f a F ++ putF f (a + sizeF F) G
  | [], G, a => by simp [putF, sizeF]
  | y :: F, G, a => by simp only [List.cons_append, putF, sizeF]; rw [putF_app f F G, Nat.add_assoc]
theorem putF_map (f : Int → Int) : ∀ (F G : List (Nat × Ob)), (F ++ G).Pairwise (fun a b => a.1 ≠ b.1) → putF f (sizeF F) G = G.map (phi f (F ++ G))
  | F, [], _ => rfl
  | F, y :: G, h => by
    have h1 := putF_map f (F ++ [y]) G (by rw [List.append_assoc]; exact h)
    rw [sizeF_app, List.append_assoc] at h1
    simp only [sizeF, Nat.add_zero, List.singleton_append] at h1
    have hn : inF F y.1 = false := by
      cases hc : inF F y.1 with
      | false => rfl
      | true =>
        obtain ⟨z, hz, e⟩ := inF_true.1 hc
        exact absurd e ((List.pairwise_append.1 h).2.2 z hz y (.head _))
    simp only [putF, List.map_cons, List.cons.injEq]
    refine ⟨?_, h1⟩
    unfold phi
    rw [offF_new hn]
theorem putF_is {Hs F : List (Nat × Ob)} (h : FinF Hs F) (f : Int → Int) : putF f 0 F = F.map (phi f F) := by
  have := putF_map f [] F (by simpa using h.nd)
  simpa [sizeF] using this
theorem objs_putF (f : Int → Int) : ∀ (F : List (Nat × Ob)) (a : Nat), (∀ y ∈ F, mayO y.2 = true) → objs (layL (F.map fun y => mapO f y.2)) a = some (putF f a F)
  | [], a, _ => by simp [layL, putF, objs_nil]
  | y :: F, a, h => by
    have hm : mayO (mapO f y.2) = true := by rw [mapO_may]; exact h y (.head _)
    have h1 := objs_putF f F (a + wordsO y.2) fun z hz => h z (.tail _ hz)
    have h2 := objs_app (layO (mapO f y.2)).length (layO (mapO f y.2)) a _ _ _ (Nat.le_refl _) (objs_one hm a) (by rw [layO_len hm, mapO_words]; exact h1)
    unfold layL at h2 ⊢
    simp only [List.map_cons, List.flatten_cons, putF]
    exact h2
/-- what the words are by, in what follows: where the semispaces begin, how many words, all objects, what is moved -/
structure Gc (o0 o1 H : Nat) (Hs F : List (Nat × Ob)) : Prop where
  hs : HsOK H Hs
  fin : FinF Hs F
  cl : ∀ y ∈ F, ∀ x ∈ y.2.fields, ClosedAt o0 Hs F x
  ok : ∀ y ∈ Hs, ∀ x ∈ y.2.fields, W64 x ∧ fieldOK (Hs.map (·.1)) o0 x = true
  small : o0 + H ≤ 4000 ∧ o1 + H ≤ 4000
section
variable {o0 o1 H : Nat} {Hs F : List (Nat × Ob)}
theorem offF_lt {F : List (Nat × Ob)} {y : Nat × Ob} (h : y ∈ F) : offF F y.1 + 1 ≤ sizeF F := by
  induction F with
  | nil => cases h
  | cons z F ih =>
    simp only [offF, sizeF]
    have := wordsO_pos z.2
    split
    · omega
    · rename_i hz
      rcases List.mem_cons.1 h with rfl | h
      · exact absurd rfl hz
      · have := ih h; omega
theorem offF_inj {F : List (Nat × Ob)} {a b : Nat} (ha : inF F a = true) (hb : inF F b = true) (e : offF F a = offF F b) : a = b := by
  induction F with
  | nil => simp [inF] at ha
  | cons z F ih =>
    have := wordsO_pos z.2
    simp only [offF] at e
    split at e <;> split at e
    · omega
    · omega
    · omega
    · rename_i h1 h2
      exact ih (by unfold inF at ha ⊢; simpa [h1] using ha) (by unfold inF at hb ⊢; simpa [h2] using hb) (by omega)
theorem Gc.size (g : Gc o0 o1 H Hs F) : sizeF F ≤ H := by have := g.fin.size.1; have := g.hs.size; omega
theorem Gc.new_of (g : Gc o0 o1 H Hs F) {x : Int} {y : Nat × Ob} (hg : getL o0 Hs x = some y) (hy : y ∈ F) : newW o0 o1 F x = ((2 * (o1 + offF F y.1) : Nat) : Int) ∧ W64 (newW o0 o1 F x) ∧ isIntW (newW o0 o1 F x) = false := by
  have h1 := newW_of (o1 := o1) (F := F) hg
  have h2 := offF_lt hy
  have := g.size
  have := g.small
  rw [h1]
  unfold W64 isIntW
  exact ⟨rfl, by omega, decide_eq_false (by omega)⟩
theorem Gc.mem (g : Gc o0 o1 H Hs F) {x : Int} {y : Nat × Ob} (hg : getL o0 Hs x = some y) (hc : ClosedAt o0 Hs F x) : y ∈ F := seen_get g.hs g.fin.sub (getL_some hg).1 (hc y hg)
theorem Gc.newInt (g : Gc o0 o1 H Hs F) {x : Int} (hx : W64 x) (hok : fieldOK (Hs.map (·.1)) o0 x = true) (hc : ClosedAt o0 Hs F x) : isIntW (newW o0 o1 F x) = isIntW x ∧ W64 (newW o0 o1 F x) := by
  rcases ok_cases hok hx with h | ⟨y, hy⟩
  · rw [newW_int h]; exact ⟨rfl, hx⟩
  · obtain ⟨_, h2, h3⟩ := g.new_of hy (g.mem hy hc)
    exact ⟨by rw [h3, (getL_some hy).2.2.1], h2⟩
/-- the objects at their new places -/
def newHs (o0 o1 : Nat) (F : List (Nat × Ob)) : List (Nat × Ob) := F.map (phi (newW o0 o1 F) F)
/-- the object of a new word -/
theorem Gc.get_new (g : Gc o0 o1 H Hs F) {x : Int} {y : Nat × Ob} (hg : getL o0 Hs x = some y) (hy : y ∈ F) : getL o1 (newHs o0 o1 F) (newW o0 o1 F x) = some (phi (newW o0 o1 F) F y) := by
  obtain ⟨h1, h2, h3⟩ := g.new_of hg hy
  have h4 := offF_lt hy
  have := g.size
  have := g.small
  unfold getL
  rw [if_neg (by rw [h3]; intro h; rcases h with h | h; cases h; rw [h1] at h; omega), h1]
  have hin : inF F y.1 = true := inF_true.2 ⟨y, hy, rfl⟩
  cases hf : (newHs o0 o1 F).find? (fun z => decide (((o1 + z.1 : Nat) : Int) = ((2 * (o1 + offF F y.1) : Nat) : Int) / 2)) with
  | none =>
    have := List.find?_eq_none.1 hf _ (List.mem_map.2 ⟨y, hy, rfl⟩)
    simp only [decide_eq_true_eq] at this
    unfold phi at this
    dsimp only at this
    omega
  | some z =>
    have hz := List.mem_of_find?_eq_some hf
    have hz2 := List.find?_some hf
    simp only [decide_eq_true_eq] at hz2
    obtain ⟨u, hu, rfl⟩ := List.mem_map.1 hz
    unfold phi at hz2
    dsimp only at hz2
    have he := offF_inj (inF_true.2 ⟨u, hu, rfl⟩) hin (by omega)
    rw [g.hs.inj (g.fin.sub u hu) (g.fin.sub y hy) he]
/-- what is grown behind it is what was grown -/
theorem Gc.grow_new (g : Gc o0 o1 H Hs F) : ∀ (xs : List Int) (G : List (Nat × Ob)), (∀ y ∈ G, y ∈ F) → (∀ x ∈ xs, W64 x ∧ fieldOK (Hs.map (·.1)) o0 x = true ∧ ClosedAt o0 Hs F x) →
    growF o1 (newHs o0 o1 F) (G.map (phi (newW o0 o1 F) F)) (xs.map (newW o0 o1 F)) = (growF o0 Hs G xs).map (phi (newW o0 o1 F) F) ∧ ∀ y ∈ growF o0 Hs G xs, y ∈ F
  | [], G, hG, _ => ⟨rfl, hG⟩
  | x :: xs, G, hG, h => by
    obtain ⟨hx, hok, hc⟩ := h x (.head _)
    have hstep : addF o1 (newHs o0 o1 F) (G.map (phi (newW o0 o1 F) F)) (newW o0 o1 F x) = (addF o0 Hs G x).map (phi (newW o0 o1 F) F) ∧ ∀ y ∈ addF o0 Hs G x, y ∈ F := by
      rcases ok_cases hok hx with hi | ⟨y, hy⟩
      · rw [newW_int hi, addF_int hi, addF_int hi]; exact ⟨rfl, hG⟩
      · have hyF := g.mem hy hc
        have hget := g.get_new hy hyF
        have hin : inF (G.map (phi (newW o0 o1 F) F)) (phi (newW o0 o1 F) F y).1 = inF G y.1 := by
          rw [Bool.eq_iff_iff, inF_true, inF_true]
          constructor
          · rintro ⟨z, hz, e⟩
            obtain ⟨u, hu, rfl⟩ := List.mem_map.1 hz
            exact ⟨u, hu, offF_inj (inF_true.2 ⟨u, hG u hu, rfl⟩) (inF_true.2 ⟨y, hyF, rfl⟩) e⟩
          · rintro ⟨z, hz, e⟩
            exact ⟨_, List.mem_map.2 ⟨z, hz, rfl⟩, by unfold phi; dsimp only; rw [e]⟩
        cases hb : inF G y.1 with
        | true =>
          rw [addF_seen hy hb, addF_seen hget (by rw [hin, hb])]
          exact ⟨rfl, hG⟩
        | false =>
          rw [addF_new hy hb, addF_new hget (by rw [hin, hb]), List.map_append]
          exact ⟨rfl, fun z hz => by rcases List.mem_append.1 hz with hz | hz; exact hG z hz; rw [List.mem_singleton.1 hz]; exact hyF⟩
    have h2 := g.grow_new xs _ hstep.2 fun z hz => h z (.tail _ hz)
    refine ⟨?_, h2.2⟩
    have e : growF o1 (newHs o0 o1 F) (G.map (phi (newW o0 o1 F) F)) ((x :: xs).map (newW o0 o1 F)) = growF o1 (newHs o0 o1 F) (addF o1 (newHs o0 o1 F) (G.map (phi (newW o0 o1 F) F)) (newW o0 o1 F x)) (xs.map (newW o0 o1 F)) := rfl
    rw [e, hstep.1]
    exact h2.1
theorem Gc.scan_new (g : Gc o0 o1 H Hs F) : ∀ (k i : Nat) (G : List (Nat × Ob)), (∀ y ∈ G, y ∈ F) → scanF o1 (newHs o0 o1 F) k i (G.map (phi (newW o0 o1 F) F)) = (scanF o0 Hs k i G).map (phi (newW o0 o1 F) F)
  | 0, _, _, _ => rfl
  | k + 1, i, G, hG => by
    unfold scanF
    rw [List.getElem?_map]
    cases hy : G[i]? with
    | none => rfl
    | some y =>
      simp only [Option.map_some]
      have hyF := hG y (List.mem_of_getElem? hy)
      have h1 := g.grow_new y.2.fields G hG fun x hx => ⟨(g.ok y (g.fin.sub y hyF) x hx).1, (g.ok y (g.fin.sub y hyF) x hx).2, g.cl y hyF x hx⟩
      have h2 := g.scan_new k (i + 1) _ h1.2
      rw [← h2, ← h1.1]
      rfl
theorem newHs_len (o0 o1 : Nat) (F : List (Nat × Ob)) : (newHs o0 o1 F).length = F.length := by unfold newHs; rw [List.length_map]
end
/-- behind a collection all that stands is live, in this order -/
theorem live_new {o0 o1 H : Nat} {Hs : List (Nat × Ob)} {roots : List Int} (g : Gc o0 o1 H Hs (liveF o0 Hs roots)) (hr : ∀ x ∈ roots, W64 x ∧ fieldOK (Hs.map (·.1)) o0 x = true) :
    liveF o1 (newHs o0 o1 (liveF o0 Hs roots)) (roots.map (newW o0 o1 (liveF o0 Hs roots))) = newHs o0 o1 (liveF o0 Hs roots) := by
  have hc := live_closed o0 Hs roots
  have hd : scanF o0 Hs Hs.length 0 (growF o0 Hs [] roots) = liveF o0 Hs roots := rfl
  generalize liveF o0 Hs roots = F at *
  have h1 := g.grow_new roots [] (fun y h => (by cases h)) fun x hx => ⟨(hr x hx).1, (hr x hx).2, hc.1 x hx⟩
  rw [List.map_nil] at h1
  have h2 := g.scan_new Hs.length 0 _ h1.2
  rw [hd, ← h1.1] at h2
  have hl := g.fin.size.2
  have hn : (newHs o0 o1 F).length = F.length := newHs_len o0 o1 F
  obtain ⟨m, hm⟩ : ∃ m, Hs.length = (newHs o0 o1 F).length + m := ⟨Hs.length - F.length, by omega⟩
  have hfin := ((FinF.nil (newHs o0 o1 F)).grow (o0 := o1) (roots.map (newW o0 o1 F))).scan (o0 := o1) (newHs o0 o1 F).length 0
  have h4 := scanF_more (newHs o0 o1 F).length 0 _ (by have := hfin.size.2; omega) m
  rw [← hm, h2] at h4
  exact h4.symm
end Go.Proofs.YtinakendlpomnaaGreat
/- A heap that is collected: its words, its objects. Plain. -/
namespace Go.Proofs.YtinakendlpomnaaGreat
open Go.RowKit Go.Maps Arena
set_option maxRecDepth 100000
def otherN (h : Hp) : Nat := ((1 - h.space) * h.half).toNat
/-- may the heap be, and its roots: its objects -/
def mayH (ws : List Int) (R : List (Nat × Nat)) (h : Hp) (roots : List Int) : Option (List (Nat × Ob)) := match allH ws R h with
  | none => none
  | some Hs => if roots.all (fieldOK (Hs.map (·.1)) (firstN h)) then some Hs else none
theorem mayH_some {ws : List Int} {R : List (Nat × Nat)} {h : Hp} {roots : List Int} {Hs : List (Nat × Ob)} (hm : mayH ws R h roots = some Hs) : allH ws R h = some Hs ∧ ∀ x ∈ roots, fieldOK (Hs.map (·.1)) (firstN h) x = true := by
  unfold mayH at hm
  cases ha : allH ws R h with
  | none => rw [ha] at hm; cases hm
  | some L =>
    rw [ha] at hm
    simp only at hm
    split at hm
    · obtain rfl := Option.some.inj hm
      rename_i hr
      exact ⟨rfl, List.all_eq_true.1 hr⟩
    · cases hm
theorem allH_ok {n : Nat} {ws : List Int} {R : List (Nat × Nat)} {h : Hp} {Hs : List (Nat × Ob)} (hg : Arena.Good n R) (hl : ws.length = n) (ha : allH ws R h = some Hs) : HsOK h.half.toNat Hs := by
  obtain ⟨ht, hS⟩ := allH_there ha
  obtain ⟨ho, _⟩ := allS_some hS
  obtain ⟨⟨a1, a2, a3, a4, a5, a6⟩, _⟩ := thereB_ok ht
  obtain ⟨h1, h2, h3⟩ := objs_apart ho
  have hsl := semi_len hg hl ht
  refine ⟨h1, fun y hy => ?_, fun y hy => (objs_fields ho y hy).1, by omega⟩
  have := objs_fit ho y hy
  omega
theorem allH_f64 {ws : List Int} {R : List (Nat × Nat)} {h : Hp} {Hs : List (Nat × Ob)} (hW : ∀ x ∈ ws, W64 x) (ha : allH ws R h = some Hs) : ∀ y ∈ Hs, ∀ x ∈ y.2.fields, W64 x ∧ fieldOK (Hs.map (·.1)) (firstN h) x = true := by
  obtain ⟨_, hS⟩ := allH_there ha
  obtain ⟨ho, hf⟩ := allS_some hS
  intro y hy x hx
  exact ⟨hW x (semi_mem ((objs_fields ho y hy).2 x hx)), List.all_eq_true.1 (List.all_eq_true.1 hf y hy) x hx⟩
/-- the numbers of a heap that may be -/
structure HpN (h : Hp) (ba H sp : Nat) (n : Nat) (R : List (Nat × Nat)) : Prop where
  base : h.base = (ba : Int)
  half : h.half = (H : Int)
  space : h.space = (sp : Int)
  one : sp ≤ 1
  lo : 8 ≤ H
  hi : H ≤ 2000
  reg : RegAt R n ba (2 * H)
  top : 0 ≤ h.top ∧ h.top ≤ h.half
theorem hpN_of {n : Nat} {R : List (Nat × Nat)} {h : Hp} (hg : Arena.Good n R) (ht : thereB R h = true) : ∃ ba H sp, HpN h ba H sp n R := by
  obtain ⟨⟨a1, a2, a3, a4, a5, a6⟩, h2⟩ := thereB_ok ht
  obtain ⟨H, hH⟩ := Int.eq_ofNat_of_zero_le (show 0 ≤ h.half by omega)
  obtain ⟨sp, hsp⟩ := Int.eq_ofNat_of_zero_le a3
  obtain ⟨ba, hba, hr⟩ := regAt_of hg (x := h.base) (len := 2 * H) (by omega) (by omega)
  exact ⟨ba, H, sp, hba, hH, hsp, by omega, by omega, by omega, hr, a5, a6⟩
theorem HpN.first {h : Hp} {ba H sp n : Nat} {R : List (Nat × Nat)} (N : HpN h ba H sp n R) : firstN h = sp * H := by
  unfold firstN
  rw [N.space, N.half, ← Int.natCast_mul]
  exact Int.toNat_natCast _
theorem HpN.other {h : Hp} {ba H sp n : Nat} {R : List (Nat × Nat)} (N : HpN h ba H sp n R) : otherN h = (1 - sp) * H := by
  unfold otherN
  rw [N.space, N.half, show (1 - (sp : Int)) = ((1 - sp : Nat) : Int) by have := N.one; omega, ← Int.natCast_mul]
  exact Int.toNat_natCast _
theorem sp_le {sp H : Nat} (h : sp ≤ 1) : sp * H ≤ H := by
  have : sp = 0 ∨ sp = 1 := by omega
  rcases this with rfl | rfl <;> omega
theorem HpN.small {h : Hp} {ba H sp n : Nat} {R : List (Nat × Nat)} (N : HpN h ba H sp n R) : firstN h + H ≤ 4000 ∧ otherN h + H ≤ 4000 ∧ firstN h ≤ 2000 ∧ otherN h ≤ 2000 := by
  rw [N.first, N.other]
  have h1 := sp_le (H := H) N.one
  have h2 := sp_le (sp := 1 - sp) (H := H) (by omega)
  have := N.hi
  omega
/-- the region's words: both semispaces -/
theorem HpN.split {h : Hp} {ba H sp n : Nat} {R : List (Nat × Nat)} (N : HpN h ba H sp n R) {ws : List Int} (hl : ws.length = n) : ∃ A B, A.length = H ∧ B.length = H ∧ ws = regW ws ba (mkV sp A B) ∧ semi ws R h = A.take h.top.toNat ∧ wordsAt ws R h.base = mkV sp A B := by
  have hw := N.reg.self hl
  have hwl : (wordsAt ws R ba).length = 2 * H := by unfold wordsAt; rw [N.reg.l, List.length_take, List.length_drop, Int.toNat_natCast]; have := N.reg.fit; omega
  obtain ⟨A, B, hA, hB, hV⟩ := mkV_ex N.one hwl
  refine ⟨A, B, hA, hB, by rw [← hV]; exact hw.symm, ?_, by rw [N.base]; exact hV⟩
  unfold semi
  rw [N.base, N.first, hV]
  exact mkV_drop N.one hA hB (by have := N.top; have := N.half; omega)
/-- what is read stands there as it is laid -/
theorem lay_of_read {S : List Int} {o : Ob} (hW : ∀ x ∈ S, W64 x) (h : readS S = some o) : S.take (wordsO o) = layO o := by
  cases S with
  | nil => cases h
  | cons hd r =>
    have h0 := hW hd (.head _)
    obtain ⟨sz, hsz⟩ := Int.eq_ofNat_of_zero_le (show 0 ≤ hd / 4294967296 from by have := h0.1; omega)
    rw [readS_ref h0 (fun x hx => hW x (.tail _ hx)) hsz] at h
    split at h
    · rename_i hc
      obtain rfl := Option.some.inj h
      exact hc.2.2.2.symm
    · cases h
theorem objs_lay {S : List Int} {a : Nat} {L : List (Nat × Ob)} (hW : ∀ x ∈ S, W64 x) (h : objs S a = some L) : ∀ y ∈ L, a ≤ y.1 ∧ (S.drop (y.1 - a)).take (wordsO y.2) = layO y.2 := by
  have := objs_ind (P := fun S a L => (∀ x ∈ S, W64 x) → ∀ y ∈ L, a ≤ y.1 ∧ (S.drop (y.1 - a)).take (wordsO y.2) = layO y.2) (fun a _ y h => (by cases h))
    (fun S a o L _ hr ih hS y hy => by
      rcases List.mem_cons.1 hy with rfl | hy
      · refine ⟨Nat.le_refl _, ?_⟩
        rw [Nat.sub_self, List.drop_zero]
        exact lay_of_read hS hr
      · obtain ⟨h1, h2⟩ := ih (fun x hx => hS x (List.mem_of_mem_drop hx)) y hy
        refine ⟨by omega, ?_⟩
        rw [List.drop_drop, show wordsO o + (y.1 - (a + wordsO o)) = y.1 - a by omega] at h2
        exact h2) S.length (Nat.le_refl _) h
  exact this hW
/-- each object's words, where it stands -/
theorem allH_words {n : Nat} {ws : List Int} {R : List (Nat × Nat)} {h : Hp} {Hs : List (Nat × Ob)} {A : List Int} (hg : Arena.Good n R) (hl : ws.length = n) (hW : ∀ x ∈ ws, W64 x) (ha : allH ws R h = some Hs) (hA : semi ws R h = A.take h.top.toNat) : ∀ y ∈ Hs, ∀ k, k < wordsO y.2 → A[y.1 + k]? = (layO y.2)[k]? := by
  obtain ⟨ht, hS⟩ := allH_there ha
  obtain ⟨ho, _⟩ := allS_some hS
  intro y hy k hk
  obtain ⟨_, h2⟩ := objs_lay (fun x hx => hW x (semi_mem hx)) ho y hy
  have hfit := objs_fit ho y hy
  rw [semi_len hg hl ht] at hfit
  rw [Nat.sub_zero, hA] at h2
  rw [← h2, List.getElem?_take, if_pos hk, List.getElem?_drop, List.getElem?_take, if_pos (by omega)]
/-! ### what a collection makes -/
def collH (h : Hp) (F : List (Nat × Ob)) : Hp := ⟨h.base, h.half, 1 - h.space, (sizeF F : Nat)⟩
def collV (h : Hp) (F : List (Nat × Ob)) : List Int := mkV h.space.toNat (List.replicate h.half.toNat 0) (gcB h.half.toNat (newW (firstN h) (otherN h) F) F)
def collWs (ws : List Int) (h : Hp) (F : List (Nat × Ob)) : List Int := regW ws h.base.toNat (collV h F)
theorem HpN.coll {h : Hp} {ba H sp n : Nat} {R : List (Nat × Nat)} (N : HpN h ba H sp n R) (F : List (Nat × Ob)) : collV h F = mkV sp (List.replicate H 0) (gcB H (newW (sp * H) ((1 - sp) * H) F) F) := by
  unfold collV
  rw [N.first, N.other, N.space, N.half, Int.toNat_natCast, Int.toNat_natCast]
theorem HpN.collWs {h : Hp} {ba H sp n : Nat} {R : List (Nat × Nat)} (N : HpN h ba H sp n R) (ws : List Int) (F : List (Nat × Ob)) : collWs ws h F = regW ws ba (mkV sp (List.replicate H 0) (gcB H (newW (sp * H) ((1 - sp) * H) F) F)) := by
  unfold Go.Proofs.YtinakendlpomnaaGreat.collWs
  rw [N.coll, N.base, Int.toNat_natCast]
/-- all that a collection of a heap that may be leans on -/
theorem gc_of {n : Nat} {ws : List Int} {R : List (Nat × Nat)} {h : Hp} {Hs : List (Nat × Ob)} (hg : Arena.Good n R) (hl : ws.length = n) (hW : ∀ x ∈ ws, W64 x) (ha : allH ws R h = some Hs) {ba H sp : Nat} (N : HpN h ba H sp n R) (roots : List Int) : Gc (firstN h) (otherN h) H Hs (liveF (firstN h) Hs roots) := by
  have h1 := allH_ok hg hl ha
  rw [N.half, Int.toNat_natCast] at h1
  exact ⟨h1, FinF.live _ _ _, (live_closed _ _ _).2, allH_f64 hW ha, N.small.1, N.small.2.1⟩
theorem gcB_len {o0 o1 H : Nat} {Hs F : List (Nat × Ob)} (g : Gc o0 o1 H Hs F) (f : Int → Int) : (gcB H f F).length = H := by
  unfold gcB
  have hm : ∀ o ∈ F.map (fun y => mapO f y.2), mayO o = true := fun o ho => by
    obtain ⟨y, hy, rfl⟩ := List.mem_map.1 ho
    rw [mapO_may]
    exact g.hs.may y (g.fin.sub y hy)
  have hs : ∀ F : List (Nat × Ob), sizeL (F.map fun y => mapO f y.2) = sizeF F := by
    intro F
    induction F with
    | nil => rfl
    | cons y F ih => simp only [List.map_cons, sizeL, sizeF, mapO_words, ih]
  rw [List.length_append, layL_len hm, hs, List.length_replicate]
  have := g.size
  omega
theorem layL_size {o0 o1 H : Nat} {Hs F : List (Nat × Ob)} (g : Gc o0 o1 H Hs F) (f : Int → Int) : (layL (F.map fun y => mapO f y.2)).length = sizeF F := by
  have := gcB_len g f
  unfold gcB at this
  rw [List.length_append, List.length_replicate] at this
  have := g.size
  omega
/-- the objects behind a collection -/
theorem coll_all {n : Nat} {ws : List Int} {R : List (Nat × Nat)} {h : Hp} {Hs : List (Nat × Ob)} {roots : List Int} (hg : Arena.Good n R) (hl : ws.length = n) (hW : ∀ x ∈ ws, W64 x) (ha : allH ws R h = some Hs) :
    allH (collWs ws h (liveF (firstN h) Hs roots)) R (collH h (liveF (firstN h) Hs roots)) = some (newHs (firstN h) (otherN h) (liveF (firstN h) Hs roots)) := by
  obtain ⟨ht, hS⟩ := allH_there ha
  obtain ⟨ba, H, sp, N⟩ := hpN_of hg ht
  have g := gc_of hg hl hW ha N roots
  generalize liveF (firstN h) Hs roots = F at g ⊢
  obtain ⟨⟨a1, a2, a3, a4, a5, a6⟩, h2⟩ := thereB_ok ht
  have hsz := g.size
  have hgl := gcB_len g (newW (sp * H) ((1 - sp) * H) F)
  have ht' : thereB R (collH h F) = true := by
    unfold thereB collH
    simp only [Bool.and_eq_true, decide_eq_true_eq]
    refine ⟨⟨a1, a2, by dsimp only; omega, by dsimp only; omega, by dsimp only; omega, by dsimp only; rw [N.half]; omega⟩, h2⟩
  unfold allH
  rw [if_pos ht']
  have hfo : firstN (collH h F) = otherN h := rfl
  have hsemi : semi (collWs ws h F) R (collH h F) = layL (F.map fun y => mapO (newW (firstN h) (otherN h) F) y.2) := by
    unfold semi
    rw [hfo, N.other, show (collH h F).base = (ba : Int) from N.base, N.collWs, N.reg.words hl (mkV_len (by simp) hgl), mkV_swap N.one, show (collH h F).top.toNat = sizeF F from Int.toNat_natCast _, mkV_drop (by have := N.one; omega) hgl (by simp) hsz]
    unfold gcB
    rw [List.take_append_of_le_length (by rw [layL_size g]; exact Nat.le_refl _), List.take_of_length_le (by rw [layL_size g]; exact Nat.le_refl _), ← N.first, ← N.other]
  rw [hsemi, hfo]
  unfold allS
  rw [objs_putF _ F 0 fun y hy => g.hs.may y (g.fin.sub y hy)]
  simp only
  rw [putF_is g.fin]
  have hf : fieldsOK (otherN h) (F.map (phi (newW (firstN h) (otherN h) F) F)) = true := by
    unfold fieldsOK
    refine List.all_eq_true.2 fun z hz => List.all_eq_true.2 fun v hv => ?_
    obtain ⟨y, hy, rfl⟩ := List.mem_map.1 hz
    obtain ⟨x, hx, rfl⟩ := List.mem_map.1 hv
    have hok := g.ok y (g.fin.sub y hy) x hx
    rcases ok_cases hok.2 hok.1 with hi | ⟨u, hu⟩
    · rw [newW_int hi]; unfold fieldOK; rw [hi]; rfl
    · have huF := g.mem hu (g.cl y hy x hx)
      obtain ⟨e1, e2, e3⟩ := g.new_of hu huF
      have e4 := offF_lt huF
      have := g.small
      unfold fieldOK
      rw [e1]
      simp only [Bool.or_eq_true, Bool.and_eq_true, decide_eq_true_eq, List.any_eq_true]
      refine .inr ⟨by omega, offF F u.1, ?_, by omega⟩
      exact List.mem_map.2 ⟨_, List.mem_map.2 ⟨u, huF, rfl⟩, rfl⟩
  rw [if_pos hf]
  rfl
theorem gcB_64 {o0 o1 H : Nat} {Hs F : List (Nat × Ob)} (g : Gc o0 o1 H Hs F) : ∀ x ∈ gcB H (newW o0 o1 F) F, W64 x := by
  intro x hx
  unfold gcB at hx
  rcases List.mem_append.1 hx with hx | hx
  · unfold layL at hx
    obtain ⟨l, hl, hx⟩ := List.mem_flatten.1 hx
    obtain ⟨o, ho, rfl⟩ := List.mem_map.1 hl
    obtain ⟨y, hy, rfl⟩ := List.mem_map.1 ho
    refine layO_64 (by rw [mapO_may]; exact g.hs.may y (g.fin.sub y hy)) (fun v hv => ?_) x hx
    obtain ⟨u, hu, rfl⟩ := List.mem_map.1 hv
    have hok := g.ok y (g.fin.sub y hy) u hu
    exact (g.newInt hok.1 hok.2 (g.cl y hy u hu)).2
  · rw [(List.mem_replicate.1 hx).2]; exact w64_zero
theorem collWs_len {n : Nat} {ws : List Int} {R : List (Nat × Nat)} {h : Hp} {Hs : List (Nat × Ob)} {roots : List Int} (hg : Arena.Good n R) (hl : ws.length = n) (hW : ∀ x ∈ ws, W64 x) (ha : allH ws R h = some Hs) : (collWs ws h (liveF (firstN h) Hs roots)).length = n ∧ ∀ x ∈ collWs ws h (liveF (firstN h) Hs roots), W64 x := by
  obtain ⟨ht, hS⟩ := allH_there ha
  obtain ⟨ba, H, sp, N⟩ := hpN_of hg ht
  have g := gc_of hg hl hW ha N roots
  generalize liveF (firstN h) Hs roots = F at g ⊢
  have hgl := gcB_len g (newW (sp * H) ((1 - sp) * H) F)
  rw [N.collWs]
  refine ⟨?_, regW_64 hW fun x hx => ?_⟩
  · rw [regW_len (by rw [mkV_len (H := H) (by simp) hgl]; have := N.reg.fit; omega)]; exact hl
  · rcases mkV_mem hx with hx | hx
    · rw [(List.mem_replicate.1 hx).2]; exact w64_zero
    · have h3 := gcB_64 g
      rw [N.first, N.other] at h3
      exact h3 x hx
end Go.Proofs.YtinakendlpomnaaGreat
/- stockpotrig.Lay: the walk. -/
namespace Go.Proofs.YtinakendlpomnaaGreat
open Go.RowKit Go.Maps Arena
set_option maxHeartbeats 8000000
set_option maxRecDepth 100000
attribute [local go_sem ↓] Go.wp_at_zero Go.wp_at_succ
theorem new_at {w : World} {n : Nat} {x : Int} (hx : x = (n : Int)) (h1 : 1 ≤ n) (h2 : n ≤ 20000) : Calls Tryz.prog 21 #[.int .i64 x] w fun e w' =>
    ∃ p g bm, e = .returned (.tuple #[.pointer (some ⟨p, 0, none⟩), .bool true]) ∧ ArenaAt w' p g bm n (List.replicate n 0) [] ∧ Ext w w' ∧ w.heap.size ≤ p ∧ w.heap.size ≤ g ∧ w.heap.size ≤ bm := by subst hx; exact new_is h1 h2
theorem refnew_at {w : World} {n : Nat} {x : Int} (hx : x = (n : Int)) (h1 : 1 ≤ n) (h2 : n ≤ 20000) : Calls Tryz.prog 22 #[.int .i64 x] w fun e w' =>
    ∃ q gq, e = .returned (.pointer (some ⟨q, 0, none⟩)) ∧ RefAt w' q gq w'.heap.size n (List.replicate n 0) (.slice none 0 0) [] ∧ Ext w w' ∧ w.heap.size ≤ q ∧ w.heap.size ≤ gq := by subst hx; exact refnew_is h1 h2
theorem Both.base {w0 w1 w : World} {p g bm q gq B n : Nat} {ws : List Int} {R : List (Nat × Nat)} (h : Both w1 w p g bm q gq B n ws R) (e : Ext w0 w1) : Both w0 w p g bm q gq B n ws R := by
  have := Below.size e
  obtain ⟨g1, g2, g3⟩ := h.ge
  exact ⟨h.a, h.r, h.lt, ⟨by omega, by omega, by omega⟩, h.size, e.trans h.ext⟩
/-- the program's region is cut -/
theorem Both.cutA {w0 w : World} {p g bm q gq B n : Nat} {ws : List Int} {R R' : List (Nat × Nat)} {k a : Nat} (h : Both w0 w p g bm q gq B n ws R) (hk : 1 ≤ k) (hk2 : k ≤ 9223372036854775807) (hs : scan k 0 R = a) (hfit : a + k ≤ n) (hR : ins (a, k) R = R') (hz : setMany ws a (List.replicate k 0) = ws) :
    Calls Tryz.prog 23 #[.pointer (some ⟨p, 0, none⟩), .int .i64 k] w fun e w' => e = .returned (.tuple #[.int .i64 a, .bool true]) ∧ ArenaAt w' p g bm n ws R' ∧ Turn [g, bm] w w' := by
  have := cut_yes h.a hk hk2 hs hfit hR
  rw [hz] at this
  exact this
theorem refcut_yes {w : World} {q gq B n : Nat} {ws : List Int} {R R' : List (Nat × Nat)} {k a : Nat} (h : ∃ v, RefAt w q gq B n ws v R) (hB : B ≤ w.heap.size) (hk : 1 ≤ k) (hk2 : k ≤ 9223372036854775807) (hs : scan k 0 R = a) (hfit : a + k ≤ n) (hR : ins (a, k) R = R') (hz : setMany ws a (List.replicate k 0) = ws) :
    Calls Tryz.prog 24 #[.pointer (some ⟨q, 0, none⟩), .int .i64 k] w fun e w' => e = .returned (.int .i64 a) ∧ (∃ v, RefAt w' q gq B n ws v R') ∧ Turn [q, gq] w w' := by
  obtain ⟨v, hr⟩ := h
  refine (refcut_is hr hB hk hk2).mono ?_
  subst hs
  rintro e w' (⟨_, h1, h2, h3⟩ | ⟨h1, _⟩)
  · rw [hz, hR] at h2
    exact ⟨h1, h2, h3⟩
  · exact absurd hfit h1
/-- another block of what is new is written -/
theorem Both.other {w0 w w' : World} {p g bm q gq B n : Nat} {ws : List Int} {R : List (Nat × Nat)} (h : Both w0 w p g bm q gq B n ws R) {bs : List Nat} (t : Turn bs w w') (hb : ∀ b ∈ bs, w0.heap.size ≤ b ∧ b < p ∧ b < g ∧ b < bm) : Both w0 w' p g bm q gq B n ws R := by
  obtain ⟨l1, l2, l3, l4, l5, l6⟩ := h.lt
  obtain ⟨v, hr⟩ := h.r
  have hqB := hr.qB
  refine ⟨h.a.turn t (fun hm => ?_) (fun hm => ?_) (fun hm => ?_), ⟨v, hr.turn t (fun hm => ?_) (fun hm => ?_) (fun b hm => ?_)⟩, h.lt, h.ge, Nat.le_trans h.size t.size, Below.trans h.ext (t.below h.ext.size fun b hm => (hb b hm).1)⟩
  · have := hb _ hm; omega
  · have := hb _ hm; omega
  · have := hb _ hm; omega
  · have := hb _ hm; omega
  · have := hb _ hm; omega
  · have := hb _ hm; omega
theorem ztwo {w : World} {p g bm n N : Nat} {R R' : List (Nat × Nat)} {k a : Nat} (h : ArenaAt w p g bm n (List.replicate N 0) R) (hk : 1 ≤ k) (hk2 : k ≤ 9223372036854775807) (hs : scan k 0 R = a) (hfit : a + k ≤ n) (hR : ins (a, k) R = R') :
    Calls Tryz.prog 23 #[.pointer (some ⟨p, 0, none⟩), .int .i64 k] w fun e w' => e = .returned (.tuple #[.int .i64 a, .bool true]) ∧ ArenaAt w' p g bm n (List.replicate N 0) R' ∧ Turn [g, bm] w w' := by
  have := cut_yes h hk hk2 hs hfit hR
  rw [setMany_zero] at this
  exact this
theorem lay_words {w : World} {v : Value} {l : List Int} (hv : WordSl w v l) (hl : l.length ≤ 1000) : Calls Tryz.prog 7 #[v] w fun e w' => ∃ p g bm q gq B, e = .returned (.tuple #[.agg #[.pointer (some ⟨p, 0, none⟩), .pointer (some ⟨q, 0, none⟩)], .int .i64 3, .bool true]) ∧ Both w w' p g bm q gq B (l.length + 10) (rigW l l.length) (rigR (max 1 l.length)) := by
  obtain ⟨qv, cv, rfl, hd1, hd2, hcell⟩ := hv
  have HL := Lib.hid hcell
  unfold maxLen at hd2
  clear hcell
  obtain ⟨m, hm⟩ : ∃ m : Nat, m = max 1 l.length := ⟨_, rfl⟩
  have hmi : max (1 : Int) (l.length : Int) = (m : Int) := by omega
  have hm1 : 1 ≤ m := by omega
  have hm2 : l.length ≤ m := by omega
  have hm3 : m ≤ l.length + 1 := by omega
  rw [← hm]
  have HM := Lib.hid hm
  clear hm
  go_enter Tryz.func7, Tryz.ntmps7
  go_wp2_with fail
  refine at_alloc1 fun W hE hS b0 => ?_
  have HE := Lib.hid hE
  have hBW : w.heap.size < W.heap.size := by omega
  clear hE hS
  generalize hbk : w.heap.size = bk at b0 hBW ⊢
  have HBK := Lib.hid hbk
  clear hbk
  refine (new_at (n := l.length + 10) (by omega) (by omega) (by omega)).mono ?_; rintro e w1 ⟨p, g, bm, rfl, h1, hx1, hp, hg, hbm⟩
  have HX1 := Lib.hid hx1; have H1 := Lib.hid h1
  have hlt1 := h1.lt
  clear h1 hx1
  go_wp2_with fail
  refine (refnew_at (n := l.length + 10) (by omega) (by omega) (by omega)).mono ?_; rintro e w2 ⟨q, gq, rfl, h2, hx2, hq, hgq⟩
  have hsz2 := h2.qB
  have HB := Lib.hid (show Both W w2 p g bm q gq w2.heap.size (l.length + 10) (List.replicate (l.length + 10) 0) [] from ⟨H1.out.ext hx2, ⟨_, h2⟩, by omega, ⟨hp, hg, hbm⟩, Nat.le_refl _, HX1.out.trans hx2⟩)
  clear h2 hx2 hsz2 hlt1 HX1 H1
  generalize w2.heap.size = BB at *
  go_wp2_with fail
  refine (HB.out.cutA (k := 3) (a := 0) (R' := [(0, 3)]) (by omega) (by omega) rfl (by omega) rfl (setMany_zero _ _ _)).mono ?_; rintro e w3 ⟨rfl, hA3, hT3⟩
  have HA3 := Lib.hid hA3; have HT3 := Lib.hid hT3
  clear hA3 hT3
  go_wp2_with fail
  refine (ztwo HA3.out hm1 (by omega) (rig_scan hm1) (by omega) (rig_ins m)).mono ?_; rintro e w4 ⟨rfl, hA4, hT4⟩
  have HA4 := Lib.hid hA4; have HT4 := Lib.hid (HT3.out.trans hT4)
  have HR4 := Lib.hid (HB.out.turnA HT4.out (by simp))
  clear hA4 hT4 HA3 HT3
  go_wp2_with fail
  refine (refcut_yes (k := 3) (a := 0) (R' := [(0, 3)]) HR4.out.1 HR4.out.2.1 (by omega) (by omega) rfl (by omega) rfl (setMany_zero _ _ _)).mono ?_; rintro e w5 ⟨rfl, hR5, hT5⟩
  have HR5 := Lib.hid hR5; have HT5 := Lib.hid hT5
  have HB5 := Lib.hid (Nat.le_trans HR4.out.2.1 hT5.size)
  clear hR5 hT5
  go_wp2_with fail
  refine (refcut_yes (k := m) (a := 3) (R' := rigR m) HR5.out HB5.out hm1 (by omega) (rig_scan hm1) (by omega) (rig_ins m) (setMany_zero _ _ _)).mono ?_; rintro e w6 ⟨rfl, hR6, hT6⟩
  have HC := Lib.hid (show Both W w6 p g bm q gq BB (l.length + 10) (rigW l 0) (rigR m) by
    rw [rigW_zero]
    exact HB.out.mk1 HA4.out HT4.out (by simp) hR6 (HT5.out.trans hT6) (by simp))
  clear hR6 hT6 HR5 HT5 HB5 HR4 HA4 HT4 HB
  go_wp2_with fail
  go_loopw [14] (fun i wr => ∃ j : Nat, j ≤ l.length ∧ i = .int .i64 j ∧ Both W wr p g bm q gq BB (l.length + 10) (rigW l j) (rigR m)) (fun i _ => l.length - (Go.RowKit.intOf i).toNat)
  case atStart => exact ⟨0, by omega, rfl, HC.out⟩
  case round =>
    obtain ⟨j, hj, rfl, hB⟩ := hrel
    have HD := Lib.hid hB
    clear hB HC
    by_cases hlt : j < l.length
    · obtain ⟨b1, o1, rfl, p0⟩ := HL.out j l[j] (List.getElem?_eq_getElem hlt)
      have P0 := HD.out.ext.cell (HE.out.cell p0)
      have hS1 := rigW_step hlt hm2
      have HS1 := Lib.hid hS1
      clear hS1
      generalize l[j] = x at *
      have i1 : (j : Int) < (l.length : Int) := by omega
      have hw3 : (Lit.int .i64 3).wf = true := by decide
      have HWi := Lib.hid (rig_within (show j < m by omega))
      go_wp2_with fail
      refine (setA_said (x := 3) (a := (j : Int)) (v := x) HD.out.a hw3).mono ?_; rintro e w7 ⟨rfl, hA7, hT7⟩
      rw [HWi.out]
      rw [HS1.out] at hA7
      have HA7 := Lib.hid hA7; have HT7 := Lib.hid hT7
      have HR7 := Lib.hid (HD.out.turnA hT7 (by simp))
      have P1 := HR7.out.2.2.cell (HE.out.cell p0)
      clear hA7 hT7
      go_wp2_with fail
      obtain ⟨vR, hr7⟩ := HR7.out.1
      refine (setR_said (x := 3) (a := (j : Int)) (v := x) hr7).mono ?_; rintro e w8 ⟨rfl, hR8, hT8⟩
      rw [HS1.out] at hR8
      have HB8 := Lib.hid (HD.out.mk1 HA7.out HT7.out (by simp) ⟨vR, hR8⟩ hT8 (by simp))
      clear hr7 hR8 hT8
      go_wp2_with fail
      exact ⟨⟨j + 1, by omega, by go_num, HB8.out⟩, by simp [Go.RowKit.intOf]; omega⟩
    · obtain rfl : j = l.length := by omega
      have hrow : wr.heap[bk]? = some (Obj.cells #[Value.pointer none, Value.pointer none] 32 (0, 0)) := by rw [Below.block HD.out.ext bk hBW]; exact b0
      have c0 : wr.cell? ⟨bk, 0, none⟩ = some (.pointer none) := by simp [World.cell?, hrow]
      have c1 : wr.cell? ⟨bk, 1, none⟩ = some (.pointer none) := by simp [World.cell?, hrow]
      have f0 : wr.frozen? ⟨bk, 0, none⟩ = false := by simp [World.frozen?, hrow]
      have f1 : wr.frozen? ⟨bk, 1, none⟩ = false := by simp [World.frozen?, hrow]
      clear b0
      go_wp2_with fail
      have g0 : ((wr.setCell ⟨bk, 0, none⟩ (.pointer (some ⟨p, 0, none⟩))).setCell ⟨bk, 1, none⟩ (.pointer (some ⟨q, 0, none⟩))).heap[bk]? = some (Obj.cells #[.pointer (some ⟨p, 0, none⟩), .pointer (some ⟨q, 0, none⟩)] 32 (0, 0)) := by
        simp [World.setCell, Array.getElem?_modify, hrow]
      have e0 := (show ((wr.setCell ⟨bk, 0, none⟩ (.pointer (some ⟨p, 0, none⟩))).setCell ⟨bk, 1, none⟩ (.pointer (some ⟨q, 0, none⟩))).cell? ⟨bk, 0, none⟩ = some (.pointer (some ⟨p, 0, none⟩)) by simp [World.cell?, g0])
      have e1 := (show ((wr.setCell ⟨bk, 0, none⟩ (.pointer (some ⟨p, 0, none⟩))).setCell ⟨bk, 1, none⟩ (.pointer (some ⟨q, 0, none⟩))).cell? ⟨bk, 1, none⟩ = some (.pointer (some ⟨q, 0, none⟩)) by simp [World.cell?, g0])
      have ht : Turn [bk] wr ((wr.setCell ⟨bk, 0, none⟩ (.pointer (some ⟨p, 0, none⟩))).setCell ⟨bk, 1, none⟩ (.pointer (some ⟨q, 0, none⟩))) := ((Turn.refl _ _).setCell (.inl (by simp)) _).setCell (.inl (by simp)) _
      have HT := Lib.hid ht
      generalize (wr.setCell ⟨bk, 0, none⟩ (.pointer (some ⟨p, 0, none⟩))).setCell ⟨bk, 1, none⟩ (.pointer (some ⟨q, 0, none⟩)) = wz at *
      clear ht g0 hrow
      have hfin : Both w wz p g bm q gq BB (l.length + 10) (rigW l l.length) (rigR m) := (HD.out.base HE.out).other HT.out (by intro b hb; simp at hb; subst hb; exact ⟨Nat.le_of_eq HBK.out, by omega, by omega, by omega⟩)
      refine bodyPost_ret (v := .tuple #[.agg #[.pointer (some ⟨p, 0, none⟩), .pointer (some ⟨q, 0, none⟩)], .int .i64 3, .bool true]) (by simp [results, Tryz.results7, go_sem, e0, e1]) rfl ⟨p, g, bm, q, gq, BB, rfl, hfin⟩
end Go.Proofs.YtinakendlpomnaaGreat
/- (stockpotrig.Two).Same: the walk. -/
namespace Go.Proofs.YtinakendlpomnaaGreat
open Go.RowKit Go.Maps Arena
set_option maxHeartbeats 8000000
set_option maxRecDepth 100000
attribute [local go_sem ↓] Go.wp_at_zero Go.wp_at_succ
theorem rig_free {m : Nat} (h : 1 ≤ m) : freeB (rigR m) 3 = true := by unfold freeB; rw [rig_len]; simp; omega
theorem rig_free0 (m : Nat) : freeB (rigR m) 0 = true := by unfold freeB; rw [rig_len0]; rfl
theorem same_yes {w0 w : World} {p g bm q gq B n m : Nat} {ws : List Int} (h : Both w0 w p g bm q gq B n ws (rigR m)) (hm : 1 ≤ m) (hz : ws.take 3 = [0, 0, 0]) : Calls Tryz.prog 11 #[.agg #[.pointer (some ⟨p, 0, none⟩), .pointer (some ⟨q, 0, none⟩)], .int .i64 3] w fun e w' => e = .returned (.bool true) ∧ Ext w w' := by
  have H := Lib.hid h
  have HZ := Lib.hid hz
  have HF := Lib.hid (rig_free hm)
  clear h hz
  go_enter Tryz.func11, Tryz.ntmps11
  go_wp2_with fail
  refine at_alloc1 fun W hE hS b0 => ?_
  have HE := Lib.hid hE
  generalize w.heap.size = bk at *
  have c0 : W.cell? ⟨bk, 0, none⟩ = some (.pointer (some ⟨p, 0, none⟩)) := by simp [World.cell?, b0]
  have c1 : W.cell? ⟨bk, 1, none⟩ = some (.pointer (some ⟨q, 0, none⟩)) := by simp [World.cell?, b0]
  have H1 := Lib.hid (H.out.step hE)
  clear hE hS b0 H
  refine (wordsA_said (x := 3) H1.out.a (by decide)).mono ?_; rintro e w1 ⟨v1, rfl, hv1, hx1⟩
  rw [HF.out]
  have HV1 := Lib.hid hv1; have HX1 := Lib.hid hx1
  have C0 := hx1.cell c0; have C1 := hx1.cell c1
  clear hv1 hx1 c0 c1
  go_wp2_with fail
  refine (wordsA_said (x := 0) (H1.out.a.ext HX1.out) (by decide)).mono ?_; rintro e w2 ⟨v2, rfl, hv2, hx2⟩
  rw [rig_free0]
  have hwz : wordsAt ws (rigR m) 0 = [0, 0, 0] := by unfold wordsAt; rw [rig_len0]; simpa using HZ.out
  rw [hwz] at hv2
  clear hwz
  have HV2 := Lib.hid hv2; have HX2 := Lib.hid (HX1.out.trans hx2)
  have HV1' := Lib.hid (HV1.out.ext hx2)
  have D0 := hx2.cell C0; have D1 := hx2.cell C1
  clear hv2 hx2 C0 C1 HX1 HV1
  go_wp2_with fail
  obtain ⟨vR, hr⟩ := (H1.out.step HX2.out).r
  refine (wordsR_said (x := 3) hr).mono ?_; rintro e w3 ⟨v3, rfl, hv3, rfl⟩
  have HV3 := Lib.hid hv3
  clear hv3 hr
  go_wp2_with fail
  refine (keep_words HV1'.out HV3.out).mono ?_; rintro e w4 ⟨rfl, hx4⟩
  rw [show decide (wordsAt ws (rigR m) 3 = wordsAt ws (rigR m) 3) = true from decide_eq_true rfl]
  have HX4 := Lib.hid hx4
  clear hx4
  go_wp2_with fail
  refine (keep_words ((HV2.out.ext HX4.out).ext (Ext.alloc _ _)) (word_lit _ [0, 0, 0] (by simp) _)).mono ?_; rintro e w5 ⟨rfl, hx5⟩
  rw [show decide (([0, 0, 0] : List Int) = [0, 0, 0]) = true from rfl]
  have HX5 := Lib.hid ((((HE.out.trans HX2.out).trans HX4.out).trans (Ext.alloc _ _)).trans hx5)
  clear hx5
  go_wp2_with fail
  go_ret
  exact ⟨rfl, HX5.out⟩
theorem large_is {w : World} {v : Value} {l : List Int} {a b c d : Int} (hv : WordSl w v l) : Calls Tryz.prog 5 #[.agg #[v, .agg #[.int .i64 a, .int .i64 b, .int .i64 c, .int .i64 d]]] w fun e w' => e = .returned (.bool (decide (400 < l.length))) ∧ Ext w w' := by
  obtain ⟨qv, cv, rfl, hd1, hd2, hcell⟩ := hv
  unfold maxLen at hd2
  clear hcell
  by_cases h : 400 < l.length
  · rw [decide_eq_true h]
    have i1 : (400 : Int) < (l.length : Int) := by omega
    clear h
    go_enter Tryz.func5, Tryz.ntmps5
    go_wp2_with fail
    go_ret
    exact ⟨rfl, Ext.alloc _ _⟩
  · rw [decide_eq_false h]
    have i1 : ¬ (400 : Int) < (l.length : Int) := by omega
    clear h
    go_enter Tryz.func5, Tryz.ntmps5
    go_wp2_with fail
    go_ret
    exact ⟨rfl, Ext.alloc _ _⟩
end Go.Proofs.YtinakendlpomnaaGreat
/- keep.OwnWords. -/
namespace Go.Proofs.YtinakendlpomnaaGreat
open Go.RowKit Go.Maps Arena
set_option maxHeartbeats 8000000
set_option maxRecDepth 100000
theorem own_empty1 (W : World) (T : TypeId) : OwnP (W.alloc (.cells #[] T)) W.heap.size T (.slice (some ⟨W.heap.size, 0, none⟩) 0 0) 1 [] :=
  OwnP.of_form (l := []) (cap := 0) (cur := #[]) (Rows1.nil 1) (Nat.le_refl _) (heap_alloc_new _ _) (Nat.le_refl _) (Nat.zero_le _) rfl rfl
theorem own_words {w : World} {v : Value} {l : List Int} (h : RowsP w v 1 (l.map wordC)) (hl : l.length ≤ 6000) : Calls Tryz.prog 9 #[v] w fun e w' => ∃ v', e = .returned v' ∧ OwnP w' w.heap.size 51 v' 1 (l.map wordC) ∧ Ext w w' := by
  have HV := Lib.hid h
  obtain ⟨q, c, rfl, h1, h2, hc⟩ := RowsP.at h
  rw [List.length_map] at h1 HV ⊢
  clear h hc
  go_enter Tryz.func9, Tryz.ntmps9
  go_wp2_with (refine wpList_append_rows E64 (by rfl) _ _ (by rfl) w.heap.size (.slice (some ⟨w.heap.size, 0, none⟩) 0 0) (.slice q l.length c) [] (l.map wordC) (by rfl) (own_empty1 w _) (by rfl) (RowsP.ext HV.out (Ext.alloc _ _)) (by simp; unfold maxLen; omega) (by simp; omega) (by simp) ?_)
  intro v2 w2 ho2 hg2 hb2 _
  have hx2 : Ext w w2 := Below.grown (Below.alloc (Ext.refl w) (by omega) _) hg2 (by simp) (fun b hb => by simp [Value.ownBlock] at hb; omega)
  have HO2 := Lib.hid ho2
  have HX2 := Lib.hid hx2
  clear ho2 hg2 hb2 hx2
  go_wp2
  go_ret
  exact ⟨v2, rfl, HO2.out, HX2.out⟩
end Go.Proofs.YtinakendlpomnaaGreat
/- keep.OwnObject. -/
namespace Go.Proofs.YtinakendlpomnaaGreat
open Go.RowKit Go.Maps Arena
set_option maxHeartbeats 8000000
set_option maxRecDepth 100000
end Go.Proofs.YtinakendlpomnaaGreat
/- What wakes of package object does, in plain Lean. -/
namespace Go.Proofs.YtinakendlpomnaaGreat
open Go.RowKit Go.Maps Arena
set_option maxRecDepth 100000
def wk0 : List Int := rigW (List.replicate 40 0) 40
def wkS : Ob := ⟨2, 0, [], ⟨#[97, 98, 99, 100, 101, 102, 103, 104, 105]⟩⟩
def wkB : Ob := ⟨1, 1, [0, 3], ⟨#[]⟩⟩
def wkN : Ob := ⟨1, 0, [2], ⟨#[]⟩⟩
def wkH : Hp := ⟨3, 20, 0, 0⟩
theorem wk_put1 : putB wk0 (rigR 40) wkH wkS = true := by first | rfl | decide | kernel_rfl
def wk1 : List Int := putWs wk0 (rigR 40) wkH wkS
def wkH1 : Hp := hpUp wkH wkS
theorem wk_put2 : putB wk1 (rigR 40) wkH1 wkB = true := by first | rfl | decide | kernel_rfl
def wk2 : List Int := putWs wk1 (rigR 40) wkH1 wkB
def wkH2 : Hp := hpUp wkH1 wkB
theorem wk_put3 : putB wk2 (rigR 40) wkH2 wkN = false := by first | rfl | decide | kernel_rfl
theorem wk_top1 : topN wkH = 0 := by first | rfl | decide
theorem wk_top2 : 2 * topN wkH1 = 6 := by first | rfl | decide
theorem wk_H2 : wkH2 = ⟨3, 20, 0, 6⟩ := by first | rfl | decide
theorem wk_all : allH wk2 (rigR 40) wkH2 = some [(0, wkS), (3, wkB)] := by first | rfl | kernel_rfl
theorem wk_get : getH wk2 (rigR 40) wkH2 6 = some (3, wkB) := by unfold getH; rw [wk_all]; first | rfl | kernel_rfl
theorem wk_set : (setAt wk2 (rigR 40) wkH2 6 1 6).isSome = true := by unfold setAt; rw [wk_all]; first | rfl | kernel_rfl
def wk3 : List Int := wsOf wk2 (rigR 40) wkH2.base (setAt wk2 (rigR 40) wkH2 6 1 6) 6
theorem wk_all3 : (allH wk3 (rigR 40) wkH2).map (fun L => L.map fun y => y.1) = some [0, 3] := by first | rfl | kernel_rfl
end Go.Proofs.YtinakendlpomnaaGreat
/- wakes of package object's statements: the walk (under way). -/
namespace Go.Proofs.YtinakendlpomnaaGreat
open Go.RowKit Go.Maps Arena
set_option maxHeartbeats 8000000
set_option maxRecDepth 100000
theorem make_words (w : World) (n : Nat) (hn : n ≤ 1000) (T : TypeId) : WordSl (w.alloc (.cells (madeCells #[.int .u64 0] n) T)) (.slice (some ⟨w.heap.size, 0, none⟩) n n) (List.replicate n 0) := by
  refine ⟨_, n, by rw [List.length_replicate], by simp, by unfold maxLen; omega, fun i x hx => ⟨_, 0, rfl, ?_⟩⟩
  rw [List.getElem?_replicate] at hx
  split at hx
  · cases hx
    have h0 := heap_alloc_new w (.cells (madeCells #[Value.int .u64 0] n) T)
    rw [made_zeros] at h0 ⊢
    unfold World.cell?
    rw [h0]
    simp [*]
  · cases hx
/-- a row of words as it is written out, of the call's own -/
theorem lit_at {W : World} {g : Nat} (l : List Int) {T : TypeId} {B : Nat} (h : W.heap[g]? = some (.cells (l.map fun x => Value.int .u64 x).toArray T (0, 0))) (hl : l.length ≤ 1000) (hB : B ≤ g) : OwnP W B T (.slice (some ⟨g, 0, none⟩) l.length l.length) 1 (l.map wordC) := by
  have := OwnP.of_form (w := W) (base := B) (cap := l.length) (l := l.map wordC) (s := 1) (fun cs hm => by obtain ⟨y, _, rfl⟩ := List.mem_map.1 hm; exact ⟨rfl, fun u hu => by rw [List.mem_singleton.1 hu]; rfl⟩) hB h (by rw [List.length_map]; omega) (by unfold maxLen; omega) (by simp) (by
    rw [List.length_map, Nat.mul_one, List.take_of_length_le (by simp)]
    clear h hl
    induction l with
    | nil => rfl
    | cons a l ih => simp [wordC] at ih ⊢; exact ih)
  rw [List.length_map] at this
  exact this
theorem OwnP.rowStay {w : World} {base g : Nat} {T : TypeId} {v : Value} {l : List (List Value)} (h : OwnP w base T v 1 l) (hg : g < base) : RowStay w g v l := fun W t => (h.turn t (fun b hb hm => by
  have := (h.own b hb).1
  rw [List.mem_singleton.1 hm] at this
  omega)).p
theorem Turn.keep {w w' : World} {g b : Nat} {o : Obj} (t : Turn [g] w w') (h : w.heap[b]? = some o) (hb : b ≠ g) : w'.heap[b]? = some o :=
  (t.block b (Array.getElem?_eq_some_iff.1 h).1 (by simp [hb])).trans h
theorem put_yes {w : World} {p g bm n : Nat} {ws ws' : List Int} {R : List (Nat × Nat)} (H : ArenaAt w p g bm n ws R) (h h' : Hp) (hw : (Lit.int .i64 h.base).wf = true) (hW : ∀ x ∈ ws, W64 x) (o : Ob) (c : Nat) (q : Option Addr) (hF : RowStay w g (.slice q o.fields.length c) (o.fields.map wordC)) (hF64 : ∀ x ∈ o.fields, W64 x) (hFn : o.fields.length ≤ 1000)
    (hb : putB ws R h o = true) (hh : hpUp h o = h') (hws : putWs ws R h o = ws') (k : Int) (hk : ((2 * topN h : Nat) : Int) = k) :
    Calls Tryz.prog 18 #[.pointer (some ⟨p, 0, none⟩), .agg #[.int .i64 h.base, .int .i64 h.half, .int .i64 h.space, .int .i64 h.top], .agg #[.int .i64 o.kind, .int .i64 o.tag, .slice q o.fields.length c, .string o.text]] w fun e w' =>
      e = .returned (.tuple #[.agg #[.int .i64 h'.base, .int .i64 h'.half, .int .i64 h'.space, .int .i64 h'.top], .int .u64 k, .bool true]) ∧ ArenaAt w' p g bm n ws' R ∧ Turn [g] w w' := by
  subst hh hws hk
  have := put_is H h hw hW o c q hF hF64 hFn
  unfold PutSaid at this
  rw [hb] at this
  exact this
theorem put_nay {w : World} {p g bm n : Nat} {ws : List Int} {R : List (Nat × Nat)} (H : ArenaAt w p g bm n ws R) (h : Hp) (hw : (Lit.int .i64 h.base).wf = true) (hW : ∀ x ∈ ws, W64 x) (o : Ob) (c : Nat) (q : Option Addr) (hF : RowStay w g (.slice q o.fields.length c) (o.fields.map wordC)) (hF64 : ∀ x ∈ o.fields, W64 x) (hFn : o.fields.length ≤ 1000)
    (hb : putB ws R h o = false) :
    Calls Tryz.prog 18 #[.pointer (some ⟨p, 0, none⟩), .agg #[.int .i64 h.base, .int .i64 h.half, .int .i64 h.space, .int .i64 h.top], .agg #[.int .i64 o.kind, .int .i64 o.tag, .slice q o.fields.length c, .string o.text]] w fun e w' =>
      e = .returned (.tuple #[.agg #[.int .i64 0, .int .i64 0, .int .i64 0, .int .i64 0], .int .u64 0, .bool false]) ∧ ArenaAt w' p g bm n ws R ∧ Turn [g] w w' := by
  have := put_is H h hw hW o c q hF hF64 hFn
  unfold PutSaid at this
  rw [hb] at this
  exact this
theorem wk0_64 : ∀ x ∈ wk0, W64 x := rigW_mem (by intro x hx; rw [(List.mem_replicate.1 hx).2]; exact w64_zero) _
/-- an arena, a heap's number cells, beside one another -/
structure Wk (w1 W : World) (p g bm t0 t1 q n : Nat) (ws : List Int) (R : List (Nat × Nat)) (h : Hp) : Prop where
  a : ArenaAt W p g bm n ws R
  t : Turn [g, t1] w1 W
  two : W.heap[t0]? = some (.cells #[.pointer (some ⟨p, 0, none⟩), .pointer (some ⟨q, 0, none⟩)] 32 (0, 0))
  hp : W.heap[t1]? = some (.cells #[.int .i64 h.base, .int .i64 h.half, .int .i64 h.space, .int .i64 h.top] 24 (0, 0))
  lt : p < t0 ∧ g < t0 ∧ bm < t0 ∧ t0 < t1
theorem Wk.ext {w1 W W' : World} {p g bm t0 t1 q n : Nat} {ws : List Int} {R : List (Nat × Nat)} {h : Hp} (k : Wk w1 W p g bm t0 t1 q n ws R h) (e : Ext W W') : Wk w1 W' p g bm t0 t1 q n ws R h :=
  ⟨k.a.ext e, k.t.trans (Turn.of_ext e), (Below.block e _ (Array.getElem?_eq_some_iff.1 k.two).1).trans k.two, (Below.block e _ (Array.getElem?_eq_some_iff.1 k.hp).1).trans k.hp, k.lt⟩
theorem Wk.put {w1 W W' : World} {p g bm t0 t1 q n : Nat} {ws ws' : List Int} {R : List (Nat × Nat)} {h : Hp} (k : Wk w1 W p g bm t0 t1 q n ws R h) (a : ArenaAt W' p g bm n ws' R) (t : Turn [g] W W') : Wk w1 W' p g bm t0 t1 q n ws' R h := by
  obtain ⟨l1, l2, l3, l4⟩ := k.lt
  exact ⟨a, k.t.trans (t.mono (by simp)), t.keep k.two (by omega), t.keep k.hp (by omega), k.lt⟩
theorem Wk.fill {w1 W W' : World} {p g bm t0 t1 q n : Nat} {ws : List Int} {R : List (Nat × Nat)} {h h' : Hp} (k : Wk w1 W p g bm t0 t1 q n ws R h) (c : W'.heap[t1]? = some (.cells #[.int .i64 h'.base, .int .i64 h'.half, .int .i64 h'.space, .int .i64 h'.top] 24 (0, 0))) (t : Turn [t1] W W') : Wk w1 W' p g bm t0 t1 q n ws R h' := by
  obtain ⟨l1, l2, l3, l4⟩ := k.lt
  exact ⟨k.a.turn t (by simp; omega) (by simp; omega) (by simp; omega), k.t.trans (t.mono (by simp)), t.keep k.two (by omega), c, k.lt⟩
/-- a number as a row of one cell -/
def numC (x : Int) : List Value := [.int .i64 x]
theorem NumSl.of_rows {w : World} {v : Value} {l : List Int} (h : RowsP w v 1 (l.map numC)) : NumSl w v l := by
  have hf : (l.map numC).flatten = l.map (Value.int .i64) := by
    clear h
    induction l with
    | nil => rfl
    | cons a l ih => rw [List.map_cons, List.flatten_cons, ih]; rfl
  obtain ⟨q, c, rfl, h1, h2, h3⟩ := RowsP.at h
  rw [List.length_map] at h1 ⊢
  clear h3
  refine ⟨q, c, rfl, h1, h2, fun i x hx => ?_⟩
  rcases h.2 with ⟨_, he⟩ | ⟨b, off, c', e, _, _, hc⟩
  · rw [List.map_eq_nil_iff.1 he] at hx
    simp at hx
  · obtain ⟨rfl, _, _⟩ := Value.slice.inj e
    exact ⟨b, off, rfl, hc i _ (by rw [hf, List.getElem?_map, hx]; rfl)⟩
theorem w64_lits {l : List Int} (h : l.all (fun x => decide (0 ≤ x) && decide (x < 18446744073709551616)) = true) : ∀ x ∈ l, W64 x := by
  intro x hx
  have := List.all_eq_true.1 h x hx
  simp only [Bool.and_eq_true, decide_eq_true_eq] at this
  exact this
theorem wk1_64 : ∀ x ∈ wk1, W64 x := putWs_64 wk_put1 wk0_64 (by simp [wkS])
theorem wk2_64 : ∀ x ∈ wk2, W64 x := putWs_64 wk_put2 wk1_64 (w64_lits (by decide))
theorem wk3_64 : ∀ x ∈ wk3, W64 x := wsOf_64 wk2_64 (w64_lits (l := [6]) (by decide) 6 (by simp))
end Go.Proofs.YtinakendlpomnaaGreat
/- What wakes of package gc's statements does, in plain Lean. -/
namespace Go.Proofs.YtinakendlpomnaaGreat
open Go.RowKit Go.Maps Arena
set_option maxRecDepth 100000
def gk0 : List Int := rigW (List.replicate 20 0) 20
def gO1 : Ob := ⟨2, 0, [], ⟨#[103, 111, 110, 101]⟩⟩
def gO2 : Ob := ⟨2, 0, [], ⟨#[107, 101, 112, 116]⟩⟩
def gO3 : Ob := ⟨1, 0, [4, 4], ⟨#[]⟩⟩
def gO4 : Ob := ⟨1, 0, [26, 26], ⟨#[]⟩⟩
def gH0 : Hp := ⟨3, 10, 0, 0⟩
def gH1 : Hp := ⟨3, 10, 0, 2⟩
def gH2 : Hp := ⟨3, 10, 0, 4⟩
def gH3 : Hp := ⟨3, 10, 0, 7⟩
def gH4 : Hp := ⟨3, 10, 1, 5⟩
theorem gk_put1 : putB gk0 (rigR 20) gH0 gO1 = true := by first | rfl | decide | kernel_rfl
def gk1 : List Int := putWs gk0 (rigR 20) gH0 gO1
theorem gk_up1 : hpUp gH0 gO1 = gH1 := by first | rfl | decide
theorem gk_put2 : putB gk1 (rigR 20) gH1 gO2 = true := by first | rfl | decide | kernel_rfl
def gk2 : List Int := putWs gk1 (rigR 20) gH1 gO2
theorem gk_up2 : hpUp gH1 gO2 = gH2 := by first | rfl | decide
theorem gk_put3 : putB gk2 (rigR 20) gH2 gO3 = true := by first | rfl | decide | kernel_rfl
def gk3 : List Int := putWs gk2 (rigR 20) gH2 gO3
theorem gk_up3 : hpUp gH2 gO3 = gH3 := by first | rfl | decide
theorem gk_top0 : 2 * topN gH0 = 0 := by first | rfl | decide
theorem gk_top1 : 2 * topN gH1 = 4 := by first | rfl | decide
theorem gk_top2 : 2 * topN gH2 = 8 := by first | rfl | decide
def gkHs : List (Nat × Ob) := [(0, gO1), (2, gO2), (4, gO3)]
def gkFs : List (Nat × Ob) := [(4, gO3), (2, gO2)]
theorem gk_all3 : allH gk3 (rigR 20) gH3 = some gkHs := by first | rfl | kernel_rfl
theorem gk_may2 : mayH gk3 (rigR 20) gH3 [8, 5] = some gkHs := by unfold mayH; rw [gk_all3]; first | rfl | kernel_rfl
theorem gk_may3 : mayH gk3 (rigR 20) gH3 [8, 5, 4] = some gkHs := by unfold mayH; rw [gk_all3]; first | rfl | kernel_rfl
theorem gk_first3 : firstN gH3 = 0 := by first | rfl | decide
theorem gk_other3 : otherN gH3 = 10 := by first | rfl | decide
theorem gk_live2 : liveF 0 gkHs [8, 5] = gkFs := by first | rfl | kernel_rfl
theorem gk_live3 : liveF 0 gkHs [8, 5, 4] = gkFs := by first | rfl | kernel_rfl
theorem gk_size : sizeF gkFs = 5 := by first | rfl | decide
theorem gk_roots : [8, 5, 4].map (newW 0 10 gkFs) = [20, 5, 26] := by first | rfl | decide | kernel_rfl
theorem gk_coll : collH gH3 gkFs = gH4 := by first | rfl | decide
def gk4 : List Int := collWs gk3 gH3 gkFs
theorem gk_all4 : allH gk4 (rigR 20) gH4 = some [(0, gO4), (3, gO2)] := by first | rfl | kernel_rfl
theorem gk_get4 : getH gk4 (rigR 20) gH4 20 = some (0, gO4) := by unfold getH; rw [gk_all4]; first | rfl | kernel_rfl
theorem gk_may4 : mayH gk4 (rigR 20) gH4 [20, 5, 26] = some [(0, gO4), (3, gO2)] := by unfold mayH; rw [gk_all4]; first | rfl | kernel_rfl
theorem gk_live4 : liveF (firstN gH4) [(0, gO4), (3, gO2)] [20, 5, 26] = [(0, gO4), (3, gO2)] := by first | rfl | kernel_rfl
theorem gk0_64 : ∀ x ∈ gk0, W64 x := rigW_mem (by intro x hx; rw [(List.mem_replicate.1 hx).2]; exact w64_zero) _
theorem gk1_64 : ∀ x ∈ gk1, W64 x := putWs_64 gk_put1 gk0_64 (by simp [gO1])
theorem gk2_64 : ∀ x ∈ gk2, W64 x := putWs_64 gk_put2 gk1_64 (by simp [gO2])
theorem gk3_64 : ∀ x ∈ gk3, W64 x := putWs_64 gk_put3 gk2_64 (w64_lits (by decide))
theorem gk4_64 : ∀ x ∈ gk4, W64 x := w64_lits (l := gk4) (by kernel_rfl)
end Go.Proofs.YtinakendlpomnaaGreat
/- Both semispaces of a region in an arena: a word of them is got, is set. -/
namespace Go.Proofs.YtinakendlpomnaaGreat
open Go.RowKit Go.Maps Arena
set_option maxHeartbeats 4000000
set_option maxRecDepth 100000
/-- an arena whose region holds both semispaces -/
structure Sp (w : World) (p g bm n : Nat) (ws : List Int) (R : List (Nat × Nat)) (ba H sp : Nat) (A B : List Int) : Prop where
  a : ArenaAt w p g bm n (regW ws ba (mkV sp A B)) R
  lw : ws.length = n
  reg : RegAt R n ba (2 * H)
  one : sp ≤ 1
  lA : A.length = H
  lB : B.length = H
  hi : H ≤ 2000
  wf : (Lit.int .i64 (ba : Int)).wf = true
section
variable {w : World} {p g bm n : Nat} {ws : List Int} {R : List (Nat × Nat)} {ba H sp : Nat} {A B : List Int}
theorem Sp.ext (h : Sp w p g bm n ws R ba H sp A B) {w' : World} (e : Ext w w') : Sp w' p g bm n ws R ba H sp A B := ⟨h.a.ext e, h.lw, h.reg, h.one, h.lA, h.lB, h.hi, h.wf⟩
theorem Sp.lV (h : Sp w p g bm n ws R ba H sp A B) : (mkV sp A B).length = 2 * H := mkV_len h.lA h.lB
theorem Sp.getA (h : Sp w p g bm n ws R ba H sp A B) {i : Nat} {x : Int} (hx : A[i]? = some x) : getW (regW ws ba (mkV sp A B)) R ba ((sp * H + i : Nat) : Int) = x := by
  have hi : i < H := by have := (List.getElem?_eq_some_iff.1 hx).1; have := h.lA; omega
  have hs := sp_le (H := H) h.one
  rw [h.reg.get h.lw h.lV (by omega), mkV_getA h.one h.lA h.lB hi, List.getD_eq_getElem?_getD, hx]
  rfl
theorem Sp.getB (h : Sp w p g bm n ws R ba H sp A B) {i : Nat} {x : Int} (hx : B[i]? = some x) : getW (regW ws ba (mkV sp A B)) R ba (((1 - sp) * H + i : Nat) : Int) = x := by
  have hi : i < H := by have := (List.getElem?_eq_some_iff.1 hx).1; have := h.lB; omega
  have hs := sp_le (sp := 1 - sp) (H := H) (by omega)
  rw [h.reg.get h.lw h.lV (by omega), mkV_getB h.one h.lA h.lB hi, List.getD_eq_getElem?_getD, hx]
  rfl
theorem Sp.within (h : Sp w p g bm n ws R ba H sp A B) {a : Nat} (ha : a < 2 * H) : within R ba (a : Int) = true := by
  unfold Go.Proofs.YtinakendlpomnaaGreat.within
  rw [h.reg.l]
  exact decide_eq_true (by omega)
theorem Sp.setA (h : Sp w p g bm n ws R ba H sp A B) {i : Nat} (hi : i < H) (v : Int) : Calls Tryz.prog 25 #[.pointer (some ⟨p, 0, none⟩), .int .i64 ba, .int .i64 ((sp * H + i : Nat) : Int), .int .u64 v] w fun e w' => e = .returned (.bool true) ∧ Sp w' p g bm n ws R ba H sp (A.set i v) B ∧ Turn [g] w w' := by
  have hs := sp_le (H := H) h.one
  refine (setA_said (a := ((sp * H + i : Nat) : Int)) (v := v) h.a h.wf).mono ?_
  rintro e w' ⟨rfl, h1, h2⟩
  rw [h.within (by omega)]
  rw [h.reg.set h.lw h.lV (by omega), mkV_setA h.one h.lA h.lB hi] at h1
  exact ⟨rfl, ⟨h1, h.lw, h.reg, h.one, by rw [List.length_set]; exact h.lA, h.lB, h.hi, h.wf⟩, h2⟩
theorem Sp.setB (h : Sp w p g bm n ws R ba H sp A B) {i : Nat} (hi : i < H) (v : Int) : Calls Tryz.prog 25 #[.pointer (some ⟨p, 0, none⟩), .int .i64 ba, .int .i64 (((1 - sp) * H + i : Nat) : Int), .int .u64 v] w fun e w' => e = .returned (.bool true) ∧ Sp w' p g bm n ws R ba H sp A (B.set i v) ∧ Turn [g] w w' := by
  have hs := sp_le (sp := 1 - sp) (H := H) (by omega)
  refine (setA_said (a := (((1 - sp) * H + i : Nat) : Int)) (v := v) h.a h.wf).mono ?_
  rintro e w' ⟨rfl, h1, h2⟩
  rw [h.within (by omega)]
  rw [h.reg.set h.lw h.lV (by omega), mkV_setB h.one h.lA h.lB hi] at h1
  exact ⟨rfl, ⟨h1, h.lw, h.reg, h.one, h.lA, by rw [List.length_set]; exact h.lB, h.hi, h.wf⟩, h2⟩
/-- the other semispace is the one that is left, and the other way round -/
theorem Sp.swap (h : Sp w p g bm n ws R ba H sp A B) : Sp w p g bm n ws R ba H (1 - sp) B A :=
  ⟨by rw [← mkV_swap h.one]; exact h.a, h.lw, h.reg, by omega, h.lB, h.lA, h.hi, h.wf⟩
end
end Go.Proofs.YtinakendlpomnaaGreat
/- gc.kind, gc.words, a mover's get. -/
namespace Go.Proofs.YtinakendlpomnaaGreat
open Go.RowKit Go.Maps Arena
set_option maxHeartbeats 4000000
set_option maxRecDepth 100000
theorem kind_is {x : Int} (hx : W64 x) (w : World) : Calls Tryz.prog 56 #[.int .u64 x] w fun e w' => e = .returned (.int .i64 (x % 256)) ∧ w' = w := by
  have e1 := and_255 hx
  have t1 : 0 ≤ x % 256 := by omega
  have t2 : x % 256 ≤ 255 := by omega
  clear hx
  go_enter Tryz.func56, Tryz.ntmps56
  go_wp2
  go_ret
  exact ⟨rfl, rfl⟩
/-- what a head tells of words -/
def hdW (x : Int) : Nat := if x % 256 = 2 then 1 + ((x / 4294967296).toNat + 7) / 8 else 1 + (x / 4294967296).toNat
theorem words_is {x : Int} (hx : W64 x) (w : World) : Calls Tryz.prog 57 #[.int .u64 x] w fun e w' => e = .returned (.int .i64 (hdW x : Nat)) ∧ w' = w := by
  have HK := Lib.hid (fun W => kind_is hx W)
  obtain ⟨k, hk⟩ : ∃ k : Nat, x / 4294967296 = k := Int.eq_ofNat_of_zero_le (by have := hx.1; omega)
  have hkb : k ≤ 4294967295 := by have := hx.2; omega
  have HW : hdW x = if x % 256 = 2 then 1 + (k + 7) / 8 else 1 + k := by unfold hdW; rw [hk, Int.toNat_natCast]
  rw [HW]
  clear HW hx
  by_cases h2 : x % 256 = 2
  · rw [if_pos h2]
    go_enter Tryz.func57, Tryz.ntmps57
    go_wp2_with fail
    refine (HK.out _).mono ?_
    rintro e w1 ⟨rfl, rfl⟩
    rw [h2]
    go_wp2
    go_ret
    refine ⟨?_, rfl⟩
    show Ending.returned (.int .i64 (1 + ((k : Int) + 8 - 1) / 8)) = Ending.returned (.int .i64 ((1 + (k + 7) / 8 : Nat) : Int))
    congr 2
    omega
  · rw [if_neg h2]
    have h3 : (x % 256 == 2) = false := beq_false_of_ne h2
    go_enter Tryz.func57, Tryz.ntmps57
    go_wp2_with fail
    refine (HK.out _).mono ?_
    rintro e w1 ⟨rfl, rfl⟩
    go_wp2
    go_ret
    refine ⟨?_, rfl⟩
    show Ending.returned (.int .i64 (1 + (k : Int))) = Ending.returned (.int .i64 ((1 + k : Nat) : Int))
    rw [show ((1 + k : Nat) : Int) = 1 + (k : Int) by omega]
theorem hdW_head {o : Ob} (hm : mayO o = true) : hdW (headO o) = wordsO o ∧ headO o % 256 = o.kind ∧ W64 (headO o) := by
  unfold mayO at hm
  obtain ⟨b1, b2, b3, b4, b5, b6, b7, b8⟩ := mayK_bounds hm
  have d1 : headO o % 256 = o.kind := by unfold headO headK; omega
  have d3 : (headO o / 4294967296).toNat = sizeK o.kind o.fields.length o.text.size := by unfold headO headK; omega
  refine ⟨?_, d1, by unfold W64 headO headK; omega⟩
  unfold hdW
  rw [d1, d3]
  unfold wordsO bodyK sizeK
  split <;> rfl
/-- a mover, and where it is -/
structure MvAt (w : World) (mb p : Nat) (ba t : Int) : Prop where
  blk : w.heap[mb]? = some (.cells #[.pointer (some ⟨p, 0, none⟩), .int .i64 ba, .int .i64 t] 80 (0, 0))
/-- what is turned of an arena does not touch a mover -/
theorem MvAt.turn {w w' : World} {mb p g : Nat} {ba t : Int} (m : MvAt w mb p ba t) (h : Turn [g] w w') (hg : mb ≠ g) : MvAt w' mb p ba t := ⟨(h.block mb (Array.getElem?_eq_some_iff.1 m.blk).1 (by simpa using hg)).trans m.blk⟩
theorem MvAt.ext {w w' : World} {mb p : Nat} {ba t : Int} (m : MvAt w mb p ba t) (h : Ext w w') : MvAt w' mb p ba t := ⟨(Below.block h _ (Array.getElem?_eq_some_iff.1 m.blk).1).trans m.blk⟩
theorem gget_is {w : World} {p g bm n mb : Nat} {ws : List Int} {R : List (Nat × Nat)} {ba t : Int} (H : ArenaAt w p g bm n ws R) (M : MvAt w mb p ba t) (hw : (Lit.int .i64 ba).wf = true) (a : Int) :
    Calls Tryz.prog 55 #[.pointer (some ⟨mb, 0, none⟩), .int .i64 a] w fun e w' => e = .returned (.int .u64 (getW ws R ba a)) ∧ Ext w w' := by
  have HG := Lib.hid (fun W (e : Ext w W) => getA_said (x := ba) (a := a) (H.ext e) hw)
  generalize getW ws R ba a = gv at HG ⊢
  have hb := M.blk
  clear H hw M
  obtain ⟨x0, x1, x2⟩ := cells3 hb
  go_enter Tryz.func55, Tryz.ntmps55
  go_upto_region 1 with fail
  refine wp_region_noPanic ?_
  refine wp_region_last 14 (S := (fun w' => w'.cell? ⟨mb, 0, none⟩ = some (.pointer (some ⟨p, 0, none⟩)) ∧ w'.cell? ⟨mb, 1, none⟩ = some (.int .i64 ba))) (by kernel_rfl) (by kernel_rfl) _ rfl ?_ (fun hHeld => ?_)
  · (with_reducible exact ⟨(Ext.drew _).cell x0, (Ext.drew _).cell x1⟩)
  simp only [List.take_succ_cons, List.take_zero]
  refine wpAnyH_take (i := 0) (v := ?v1) rfl (by kernel_rfl) (by kernel_rfl) (by kernel_rfl) (fun _ _ _ h => h) (Or.inl ⟨by rfl, ?y1⟩) (by assumption) ?r1
  case y1 => intro w hSw; (try dsimp only at hSw); go_simp; (try with_reducible rfl)
  (try simp only [Act.put, List.setIfInBounds_toArray, List.set_cons_zero, List.set_cons_succ, List.getElem_toArray, List.getElem_cons_zero, List.getElem_cons_succ])
  refine wpAnyH_take (i := 1) (v := ?v2) rfl (by kernel_rfl) (by kernel_rfl) (by kernel_rfl) (fun _ _ _ h => h) (Or.inl ⟨by rfl, ?y2⟩) (by assumption) ?r2
  case y2 => intro w hSw; (try dsimp only at hSw); go_simp; (try with_reducible rfl)
  (try simp only [Act.put, List.setIfInBounds_toArray, List.set_cons_zero, List.set_cons_succ, List.getElem_toArray, List.getElem_cons_zero, List.getElem_cons_succ])
  refine wpAnyH_take (i := 2) (v := ?v3) rfl (by kernel_rfl) (by kernel_rfl) (by kernel_rfl) (fun _ _ _ h => h) (Or.inl ⟨by rfl, ?y3⟩) (by assumption) ?r3
  case y3 => intro w hSw; (try dsimp only at hSw); go_simp; (try with_reducible rfl)
  (try simp only [Act.put, List.setIfInBounds_toArray, List.set_cons_zero, List.set_cons_succ, List.getElem_toArray, List.getElem_cons_zero, List.getElem_cons_succ])
  refine wpAnyH_take (i := 3) (v := ?v4) rfl (by kernel_rfl) (by kernel_rfl) (by kernel_rfl) (fun _ _ _ h => h) (Or.inl ⟨by rfl, ?y4⟩) (by assumption) ?r4
  case y4 => intro w hSw; (try dsimp only at hSw); go_simp; (try with_reducible rfl)
  (try simp only [Act.put, List.setIfInBounds_toArray, List.set_cons_zero, List.set_cons_succ, List.getElem_toArray, List.getElem_cons_zero, List.getElem_cons_succ])
  refine wpAnyH_take (i := 4) (v := ?v5) rfl (by kernel_rfl) (by kernel_rfl) (by kernel_rfl) (fun _ _ _ h => h) (Or.inl ⟨by rfl, ?y5⟩) (by assumption) ?r5
  case y5 => intro w hSw; (try dsimp only at hSw); go_simp; (try with_reducible rfl)
  (try simp only [Act.put, List.setIfInBounds_toArray, List.set_cons_zero, List.set_cons_succ, List.getElem_toArray, List.getElem_cons_zero, List.getElem_cons_succ])
  refine wpAnyH_take (i := 5) (v := ?v6) rfl (by kernel_rfl) (by kernel_rfl) (by kernel_rfl) (fun _ _ _ h => h) (Or.inl ⟨by rfl, ?y6⟩) (by assumption) ?r6
  case y6 => intro w hSw; (try dsimp only at hSw); go_simp; (try with_reducible rfl)
  (try simp only [Act.put, List.setIfInBounds_toArray, List.set_cons_zero, List.set_cons_succ, List.getElem_toArray, List.getElem_cons_zero, List.getElem_cons_succ])
  refine wpAnyH_take (i := 6) (v := ?v7) rfl (by kernel_rfl) (by kernel_rfl) (by kernel_rfl) (fun _ _ _ h => h) (Or.inl ⟨by rfl, ?y7⟩) (by assumption) ?r7
  case y7 => intro w hSw; (try dsimp only at hSw); go_simp; (try with_reducible rfl)
  (try simp only [Act.put, List.setIfInBounds_toArray, List.set_cons_zero, List.set_cons_succ, List.getElem_toArray, List.getElem_cons_zero, List.getElem_cons_succ])
  refine wpAnyH_take (i := 7) (v := ?v8) rfl (by kernel_rfl) (by kernel_rfl) (by kernel_rfl) (fun _ _ _ h => h) (Or.inl ⟨by rfl, ?y8⟩) (by assumption) ?r8
  case y8 => intro w hSw; (try dsimp only at hSw); go_simp; (try with_reducible rfl)
  (try simp only [Act.put, List.setIfInBounds_toArray, List.set_cons_zero, List.set_cons_succ, List.getElem_toArray, List.getElem_cons_zero, List.getElem_cons_succ])
  refine wpAnyH_take (i := 8) (v := ?v9) rfl (by kernel_rfl) (by kernel_rfl) (by kernel_rfl) (fun _ _ _ h => h) (Or.inl ⟨by rfl, ?y9⟩) (by assumption) ?r9
  case y9 => intro w hSw; (try dsimp only at hSw); go_simp; (try with_reducible rfl)
  (try simp only [Act.put, List.setIfInBounds_toArray, List.set_cons_zero, List.set_cons_succ, List.getElem_toArray, List.getElem_cons_zero, List.getElem_cons_succ])
  refine wpAnyH_ready (rs := [9]) (by kernel_rfl) (by simp) ?_
  refine AllReadyH.cons rfl (fun K hK => ?_) AllReadyH.nil
  go_simp
  refine (HG.out _ (Ext.drew _)).mono ?_
  rintro e w1 ⟨rfl, rfl⟩
  refine hK.out _ _ ?s10 (fun hHeld => ?k10)
  case s10 => ((try dsimp only); (with_reducible exact ⟨(Ext.drew _).cell x0, (Ext.drew _).cell x1⟩))
  clear hK K
  (try simp only [Act.put, List.setIfInBounds_toArray, List.set_cons_zero, List.set_cons_succ, List.getElem_toArray, List.getElem_cons_zero, List.getElem_cons_succ])
  refine wpAnyH_take (i := 10) (v := ?v11) rfl (by kernel_rfl) (by kernel_rfl) (by kernel_rfl) (fun _ _ _ h => h) (Or.inl ⟨by rfl, ?y11⟩) (by assumption) ?r11
  case y11 => intro w hSw; (try dsimp only at hSw); go_simp; (try with_reducible rfl)
  (try simp only [Act.put, List.setIfInBounds_toArray, List.set_cons_zero, List.set_cons_succ, List.getElem_toArray, List.getElem_cons_zero, List.getElem_cons_succ])
  refine wpAnyH_take (i := 11) (v := ?v12) rfl (by kernel_rfl) (by kernel_rfl) (by kernel_rfl) (fun _ _ _ h => h) (Or.inl ⟨by rfl, ?y12⟩) (by assumption) ?r12
  case y12 => intro w hSw; (try dsimp only at hSw); go_simp; (try with_reducible rfl)
  (try simp only [Act.put, List.setIfInBounds_toArray, List.set_cons_zero, List.set_cons_succ, List.getElem_toArray, List.getElem_cons_zero, List.getElem_cons_succ])
  refine wpAnyH_take (i := 12) (v := ?v13) rfl (by kernel_rfl) (by kernel_rfl) (by kernel_rfl) (fun _ _ _ h => h) (Or.inl ⟨by rfl, ?y13⟩) (by assumption) ?r13
  case y13 => intro w hSw; (try dsimp only at hSw); go_simp; (try with_reducible rfl)
  (try simp only [Act.put, List.setIfInBounds_toArray, List.set_cons_zero, List.set_cons_succ, List.getElem_toArray, List.getElem_cons_zero, List.getElem_cons_succ])
  refine wpAnyH_take (i := 13) (v := ?v14) rfl (by kernel_rfl) (by kernel_rfl) (by kernel_rfl) (fun _ _ _ h => h) (Or.inl ⟨by rfl, ?y14⟩) (by assumption) ?r14
  case y14 => intro w hSw; (try dsimp only at hSw); go_simp; (try with_reducible rfl)
  (try simp only [Act.put, List.setIfInBounds_toArray, List.set_cons_zero, List.set_cons_succ, List.getElem_toArray, List.getElem_cons_zero, List.getElem_cons_succ])
  refine wpAnyH_done (by kernel_rfl) ?_ _
  show wpList _ _ _ _ _ _
  go_wp2
  refine NoPanic.normal ?_
  go_wp2
  go_ret
  exact ⟨rfl, Ext.drew _⟩
end Go.Proofs.YtinakendlpomnaaGreat
