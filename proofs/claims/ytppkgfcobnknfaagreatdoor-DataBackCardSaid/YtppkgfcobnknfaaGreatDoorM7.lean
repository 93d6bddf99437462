/- Proved here: the contracts and laws of ObjRB, Both, RigP, ObjLC, HpP, DatN, DatO, DatR, DatT, DatX, DatS, BoxA of this claim, each beneath its own remark; conditions: those that each theorem names. -/
import Derived.Test.YtppkgfcobnknfaaGreatDoorM6
import Derived.Test.YtppkgfcobnknfaaGreatDoorM4
import Derived.Test.YtppkgfcobnknfaaGreatDoorM5
import Derived.Test.YtppkgfcobnknfaaGreatDoorM2
import Derived.Test.YtppkgfcobnknfaaGreatDoorProg
import Derived.Test.YtppkgfcobnknfaaGreatDoorM1
import Derived.Deep.RegionHeld3
import Derived.Laws.StructEq
import Derived.Deep.QuietTactic
import Derived.Deep.CutBlock
/- keep.Object, keep.OwnWords, keep.OwnObject. -/
namespace Go.Proofs.YtppkgfcobnknfaaGreatDoor
open Go.RowKit Go.Maps
set_option maxHeartbeats 2000000
set_option maxRecDepth 100000
theorem bytes_inj {s t : ByteArray} (h : s.toList = t.toList) : s = t := by
  rw [ByteArray.toList_eq, ByteArray.toList_eq] at h
  obtain ⟨⟨l⟩⟩ := s; obtain ⟨⟨m⟩⟩ := t
  simp at h
  rw [h]
end Go.Proofs.YtppkgfcobnknfaaGreatDoor
/- The two arenas side by side. -/
namespace Go.Proofs.YtppkgfcobnknfaaGreatDoor
open Go.RowKit Go.Maps Arena
set_option maxHeartbeats 8000000
set_option maxRecDepth 100000
attribute [local go_sem ↓] Go.wp_at_zero Go.wp_at_succ
/-- the two arenas side by side, and how their blocks lie -/
structure Both (w0 w : World) (p g bm q gq B n : Nat) (ws : List Int) (R : List (Nat × Nat)) : Prop where
  a : ArenaAt w p g bm n ws R
  r : ∃ v, RefAt w q gq B n ws v R
  lt : p < q ∧ g < q ∧ bm < q ∧ p < gq ∧ g < gq ∧ bm < gq
  ge : w0.heap.size ≤ p ∧ w0.heap.size ≤ g ∧ w0.heap.size ≤ bm
  size : B ≤ w.heap.size
  ext : Ext w0 w
theorem Both.turnA {w0 w w' : World} {p g bm q gq B n : Nat} {ws : List Int} {R : List (Nat × Nat)} (h : Both w0 w p g bm q gq B n ws R) {bs : List Nat} (t : Turn bs w w') (hb : ∀ b ∈ bs, b = g ∨ b = bm) : (∃ v, RefAt w' q gq B n ws v R) ∧ B ≤ w'.heap.size ∧ Ext w0 w' := by
  obtain ⟨l1, l2, l3, l4, l5, l6⟩ := h.lt
  obtain ⟨g1, g2, g3⟩ := h.ge
  obtain ⟨v, hr⟩ := h.r
  refine ⟨⟨v, hr.turn t (fun hm => ?_) (fun hm => ?_) (fun b hm => ?_)⟩, Nat.le_trans h.size t.size, Below.trans h.ext (t.below h.ext.size fun b hm => ?_)⟩
  · rcases hb _ hm with h | h <;> omega
  · rcases hb _ hm with h | h <;> omega
  · have := hr.qB
    rcases hb b hm with h | h <;> omega
  · rcases hb b hm with h | h <;> omega
theorem Both.turnR {w0 w w' : World} {p g bm q gq B n : Nat} {ws : List Int} {R : List (Nat × Nat)} (h : Both w0 w p g bm q gq B n ws R) {bs : List Nat} (t : Turn bs w w') (hb : ∀ b ∈ bs, b = q ∨ b = gq) : ArenaAt w' p g bm n ws R ∧ B ≤ w'.heap.size ∧ Ext w0 w' := by
  obtain ⟨l1, l2, l3, l4, l5, l6⟩ := h.lt
  obtain ⟨g1, g2, g3⟩ := h.ge
  refine ⟨h.a.turn t (fun hm => ?_) (fun hm => ?_) (fun hm => ?_), Nat.le_trans h.size t.size, Below.trans h.ext (t.below h.ext.size fun b hm => ?_)⟩
  · rcases hb _ hm with h | h <;> omega
  · rcases hb _ hm with h | h <;> omega
  · rcases hb _ hm with h | h <;> omega
  · rcases hb b hm with h | h <;> omega
theorem Both.step {w0 w w' : World} {p g bm q gq B n : Nat} {ws : List Int} {R : List (Nat × Nat)} (h : Both w0 w p g bm q gq B n ws R) (e : Ext w w') : Both w0 w' p g bm q gq B n ws R := by
  obtain ⟨h1, h2, h3⟩ := h.turnA (Turn.of_ext (bs := []) e) (by simp)
  exact ⟨h.a.ext e, h1, h.lt, h.ge, h2, h3⟩
theorem Both.mk1 {w0 w w5 w6 : World} {p g bm q gq B n : Nat} {ws ws1 : List Int} {R R1 : List (Nat × Nat)} (h : Both w0 w p g bm q gq B n ws R) {bs cs : List Nat} (hA : ArenaAt w5 p g bm n ws1 R1) (t : Turn bs w w5) (hb : ∀ b ∈ bs, b = g ∨ b = bm)
    (hr : ∃ v, RefAt w6 q gq B n ws1 v R1) (u : Turn cs w5 w6) (hc : ∀ b ∈ cs, b = q ∨ b = gq) : Both w0 w6 p g bm q gq B n ws1 R1 := by
  obtain ⟨⟨v, hr5⟩, h2, h3⟩ := h.turnA t hb
  obtain ⟨l1, l2, l3, l4, l5, l6⟩ := h.lt
  obtain ⟨g1, g2, g3⟩ := h.ge
  refine ⟨hA.turn u (fun hm => ?_) (fun hm => ?_) (fun hm => ?_), hr, h.lt, h.ge, Nat.le_trans h2 u.size, Below.trans h3 (u.below h3.size fun b hm => ?_)⟩
  · rcases hc _ hm with h | h <;> omega
  · rcases hc _ hm with h | h <;> omega
  · rcases hc _ hm with h | h <;> omega
  · rcases hc b hm with h | h <;> omega
theorem Both.mk2 {w0 w w5 w6 : World} {p g bm q gq B n : Nat} {ws ws1 : List Int} {R R1 : List (Nat × Nat)} (h : Both w0 w p g bm q gq B n ws R) {bs cs : List Nat} (hr : ∃ v, RefAt w5 q gq B n ws1 v R1) (u : Turn cs w w5) (hc : ∀ b ∈ cs, b = q ∨ b = gq)
    (hA : ArenaAt w6 p g bm n ws1 R1) (t : Turn bs w5 w6) (hb : ∀ b ∈ bs, b = g ∨ b = bm) : Both w0 w6 p g bm q gq B n ws1 R1 := by
  obtain ⟨h1, h2, h3⟩ := h.turnR u hc
  obtain ⟨l1, l2, l3, l4, l5, l6⟩ := h.lt
  obtain ⟨g1, g2, g3⟩ := h.ge
  obtain ⟨v, hr⟩ := hr
  refine ⟨hA, ⟨v, hr.turn t (fun hm => ?_) (fun hm => ?_) (fun b hm => ?_)⟩, h.lt, h.ge, Nat.le_trans h2 t.size, Below.trans h3 (t.below h3.size fun b hm => ?_)⟩
  · rcases hb _ hm with h | h <;> omega
  · rcases hb _ hm with h | h <;> omega
  · have := hr.qB
    rcases hb b hm with h | h <;> omega
  · rcases hb b hm with h | h <;> omega
end Go.Proofs.YtppkgfcobnknfaaGreatDoor
/- A region with given words: plain. -/
namespace Go.Proofs.YtppkgfcobnknfaaGreatDoor
open Go.RowKit Go.Maps Arena
def rigR (m : Nat) : List (Nat × Nat) := [(0, 3), (3, m)]
def rigW (l : List Int) (j : Nat) : List Int := List.replicate 3 0 ++ (l.take j ++ List.replicate (l.length - j + 7) 0)
theorem setMany_zero (N k : Nat) : ∀ o, setMany (List.replicate N 0) o (List.replicate k 0) = List.replicate N 0 := by
  induction k with
  | zero => intro o; rfl
  | succ k ih =>
    intro o
    rw [List.replicate_succ, setMany, List.set_replicate_self]
    exact ih _
theorem rig_scan {m : Nat} (h : 1 ≤ m) : scan m 0 [(0, 3)] = 3 := by
  simp only [scan]
  rw [if_neg (by omega)]
theorem rig_ins (m : Nat) : ins (3, m) [(0, 3)] = rigR m := by simp [ins, rigR]
theorem rig_len (m : Nat) : lenAt (rigR m) 3 = m := by simp [lenAt, rigR]
theorem rig_len0 (m : Nat) : lenAt (rigR m) 0 = 3 := by simp [lenAt, rigR]
theorem rig_within {m j : Nat} (h : j < m) : within (rigR m) 3 j = true := by
  unfold within
  rw [rig_len]
  simp [h]
theorem rigW_zero (l : List Int) : rigW l 0 = List.replicate (l.length + 10) 0 := by
  unfold rigW
  rw [List.take_zero, List.nil_append, List.replicate_append_replicate]
  congr 1
  omega
theorem rigW_step {l : List Int} {m j : Nat} (hj : j < l.length) (hm : l.length ≤ m) : setWs (rigW l j) (rigR m) 3 j l[j] = rigW l (j + 1) := by
  unfold setWs
  rw [if_pos (rig_within (by omega))]
  unfold rigW
  rw [show ((3 : Int) + (j : Int)).toNat = 3 + j by omega]
  rw [List.set_append_right _ _ (by simp), List.length_replicate, show 3 + j - 3 = j by omega]
  rw [List.set_append_right _ _ (by simp; omega), List.length_take, Nat.min_eq_left (by omega), Nat.sub_self]
  rw [show l.length - j + 7 = (l.length - (j + 1) + 7) + 1 by omega, @List.replicate_succ _ _ (l.length - (j + 1) + 7), List.set_cons_zero, List.take_succ_eq_append_getElem hj, List.append_assoc]
  rfl
theorem rigW_wordsAt (l : List Int) : wordsAt (rigW l l.length) (rigR (max 1 l.length)) 3 = if l = [] then [0] else l := by
  unfold wordsAt rigW
  rw [rig_len]
  cases l with
  | nil => rfl
  | cons a l => simp
theorem rigW_len (l : List Int) (j : Nat) (hj : j ≤ l.length) : (rigW l j).length = l.length + 10 := by
  unfold rigW
  simp
  omega
theorem w64_zero : W64 0 := by unfold W64; omega
theorem rigW_mem {l : List Int} (h : ∀ x ∈ l, W64 x) (j : Nat) : ∀ x ∈ rigW l j, W64 x := by
  intro x hx
  unfold rigW at hx
  rw [List.mem_append, List.mem_append] at hx
  rcases hx with h1 | h1 | h1
  · rw [(List.mem_replicate.1 h1).2]; exact w64_zero
  · exact h x (List.mem_of_mem_take h1)
  · rw [(List.mem_replicate.1 h1).2]; exact w64_zero
end Go.Proofs.YtppkgfcobnknfaaGreatDoor
/- What stays of a region's words while objects are put: plain. -/
namespace Go.Proofs.YtppkgfcobnknfaaGreatDoor
open Go.RowKit Go.Maps Arena
set_option maxRecDepth 100000
theorem piece_64 (l : List UInt8) (j : Nat) : W64 (pieceN l j) := by
  unfold pieceN W64
  have h := pk_lt ((l.drop (8 * j)).take 8)
  have h8 : ((l.drop (8 * j)).take 8).length ≤ 8 := by rw [List.length_take]; omega
  have h2 : 256 ^ ((l.drop (8 * j)).take 8).length ≤ 256 ^ 8 := Nat.pow_le_pow_right (by omega) h8
  have e : (256 : Nat) ^ 8 = 18446744073709551616 := by decide
  constructor
  · omega
  · omega
theorem layO_64 {o : Ob} (hm : mayO o = true) (hF : ∀ x ∈ o.fields, W64 x) : ∀ x ∈ layO o, W64 x := by
  intro x hx
  unfold layO at hx
  rcases List.mem_cons.1 hx with rfl | hx
  · unfold mayO at hm
    obtain ⟨h1, h2, h3, h4, _, _, h5, _⟩ := mayK_bounds hm
    unfold headO headK W64
    omega
  · unfold bodyO at hx
    split at hx
    · unfold pieces at hx
      obtain ⟨j, _, rfl⟩ := List.mem_map.1 hx
      exact piece_64 _ _
    · exact hF x hx
theorem putB_may {ws : List Int} {R : List (Nat × Nat)} {h : Hp} {o : Ob} (hb : putB ws R h o = true) : mayO o = true := by
  cases hm : mayO o with
  | true => rfl
  | false =>
    unfold putB at hb
    split at hb
    · cases hb
    · simp [hm] at hb
theorem putWs_64 {ws : List Int} {R : List (Nat × Nat)} {h : Hp} {o : Ob} (hb : putB ws R h o = true) (hW : ∀ x ∈ ws, W64 x) (hF : ∀ x ∈ o.fields, W64 x) : ∀ x ∈ putWs ws R h o, W64 x := by
  intro x hx
  rcases setRun_mem hx with h1 | h1
  · exact hW x h1
  · exact layO_64 (putB_may hb) hF x h1
theorem wsOf_64 {ws : List Int} {R : List (Nat × Nat)} {ba : Int} {k : Option Int} {v : Int} (hW : ∀ x ∈ ws, W64 x) (hv : W64 v) : ∀ x ∈ wsOf ws R ba k v, W64 x := by
  intro x hx
  unfold wsOf at hx
  split at hx
  · exact hW x hx
  · rcases setWs_mem hx with h1 | rfl
    · exact hW x h1
    · exact hv
theorem setWs_take {ws : List Int} {R : List (Nat × Nat)} {a v : Int} : (setWs ws R 3 a v).take 3 = ws.take 3 := by
  unfold setWs
  split
  · rename_i hw
    unfold within at hw
    have hw := of_decide_eq_true hw
    rw [List.take_set_of_le (by omega)]
  · rfl
theorem setRun_take {R : List (Nat × Nat)} : ∀ (l ws : List Int) (k : Nat), (setRun ws R 3 k l).take 3 = ws.take 3 := by
  intro l
  induction l with
  | nil => intro ws k; rfl
  | cons v l ih => intro ws k; rw [setRun, ih, setWs_take]
theorem putWs_take {ws : List Int} {R : List (Nat × Nat)} {h : Hp} {o : Ob} (h3 : h.base = 3) : (putWs ws R h o).take 3 = ws.take 3 := by
  unfold putWs; rw [h3]; exact setRun_take _ _ _
theorem wsOf_take {ws : List Int} {R : List (Nat × Nat)} {ba : Int} {k : Option Int} {v : Int} (h3 : ba = 3) : (wsOf ws R ba k v).take 3 = ws.take 3 := by
  subst h3
  unfold wsOf
  split
  · rfl
  · exact setWs_take
theorem rigW_take (l : List Int) (j : Nat) : (rigW l j).take 3 = [0, 0, 0] := by
  unfold rigW
  rw [List.take_append_of_le_length (by simp)]
  rfl
end Go.Proofs.YtppkgfcobnknfaaGreatDoor
/- Objects that are put, fields that are set: what a heap's objects are then. Plain. -/
namespace Go.Proofs.YtppkgfcobnknfaaGreatDoor
open Go.RowKit Go.Maps Arena
set_option maxRecDepth 100000
theorem pk_digit : ∀ (A : List UInt8) (j : Nat), pk A / 256 ^ j % 256 = (A[j]?.map UInt8.toNat).getD 0
  | [], j => by simp [pk]
  | b :: A, 0 => by
    have := b.toNat_lt
    simp only [pk, Nat.pow_zero, Nat.div_one, List.getElem?_cons_zero, Option.map_some, Option.getD_some]
    omega
  | b :: A, j + 1 => by
    have := b.toNat_lt
    rw [List.getElem?_cons_succ, ← pk_digit A j, pk, Nat.pow_succ, Nat.mul_comm (256 ^ j) 256, ← Nat.div_div_eq_div_mul]
    congr 2
    omega
theorem bytes8_pk {A : List UInt8} (h : A.length ≤ 8) : bytes8 (pk A : Int) = A ++ List.replicate (8 - A.length) 0 := by
  apply List.ext_getElem?
  intro j
  unfold bytes8
  rw [List.getElem?_map, Int.toNat_natCast]
  by_cases hj : j < 8
  · rw [List.getElem?_range hj]
    simp only [Option.map_some]
    rw [pk_digit]
    by_cases hA : j < A.length
    · rw [List.getElem?_append_left hA, List.getElem?_eq_getElem hA]
      simp
    · rw [List.getElem?_append_right (by omega), List.getElem?_replicate, if_pos (by omega), List.getElem?_eq_none (by omega)]
      rfl
  · rw [List.getElem?_eq_none (by simp; omega), List.getElem?_eq_none (by simp; omega)]
    rfl
/-- a text's words hold its bytes, and 0 behind them -/
theorem bytes_pieces : ∀ (n : Nat) (l : List UInt8), l.length ≤ n → ∃ z, bytesOf (pieces l) = l ++ z ∧ z.all (· == 0) = true := by
  intro n
  induction n with
  | zero =>
    intro l h
    obtain rfl := List.eq_nil_of_length_eq_zero (Nat.le_zero.1 h)
    exact ⟨[], rfl, rfl⟩
  | succ n ih =>
    intro l h
    by_cases h0 : l.length = 0
    · obtain rfl := List.eq_nil_of_length_eq_zero h0
      exact ⟨[], rfl, rfl⟩
    · by_cases h8 : l.length ≤ 8
      · rw [pieces_short (by omega) h8, bytesOf_cons, bytes8_pk h8]
        exact ⟨List.replicate (8 - l.length) 0, by simp [bytesOf], by simp⟩
      · obtain ⟨z, hz, hz0⟩ := ih (l.drop 8) (by rw [List.length_drop]; omega)
        have ht : (l.take 8).length = 8 := by rw [List.length_take]; omega
        refine ⟨z, ?_, hz0⟩
        have h8e : pieces l = (pk (l.take 8) : Int) :: pieces (l.drop 8) := by
          have := pieces_cons (l := l.drop 8) ht
          rw [List.take_append_drop] at this
          exact this
        rw [h8e, bytesOf_cons, bytes8_pk (by omega), hz, ht]
        simp only [Nat.sub_self, List.replicate_zero, List.append_nil]
        rw [← List.append_assoc, List.take_append_drop]
theorem layO_len {o : Ob} (hm : mayO o = true) : (layO o).length = wordsO o := by
  have := body_len hm; unfold layO; rw [List.length_cons]; omega
theorem ob_text {kd tg : Int} {F : List Int} {t : ByteArray} (hm : mayK kd tg F.length t.size = true) (h : kd ≠ 2) : t = ByteArray.empty := by
  have h0 : t.size = 0 := by
    rcases mayK_cases hm with ⟨_, h⟩ | ⟨h1, _⟩ | ⟨_, h⟩ | ⟨_, h⟩
    · exact h.2.2.2.2
    · exact absurd h1 h
    · exact h.2.2
    · exact h.2.2.2
  obtain ⟨⟨l⟩⟩ := t
  cases l with
  | nil => rfl
  | cons a l => simp [ByteArray.size] at h0
/-- what is laid is read -/
theorem readS_lay {o : Ob} (hm : mayO o = true) (T : List Int) : readS (layO o ++ T) = some o := by
  have hbl := body_len hm
  have hmk := hm
  unfold mayO at hmk
  obtain ⟨b1, b2, b3, b4, b5, b6, b7, b8⟩ := mayK_bounds hmk
  have d1 : headO o % 256 = o.kind := by unfold headO headK; omega
  have d2 : headO o / 256 % 16777216 = o.tag := by unfold headO headK; omega
  have d3 : (headO o / 4294967296).toNat = sizeK o.kind o.fields.length o.text.size := by unfold headO headK; omega
  have hbd : bodyK o.kind (sizeK o.kind o.fields.length o.text.size) (sizeK o.kind o.fields.length o.text.size) = (bodyO o).length := by
    unfold wordsO at hbl
    have : bodyK o.kind (sizeK o.kind o.fields.length o.text.size) (sizeK o.kind o.fields.length o.text.size) = bodyK o.kind o.fields.length o.text.size := by
      unfold bodyK sizeK
      by_cases h2 : o.kind = 2
      · rw [if_pos h2, if_pos h2, if_pos h2]
      · rw [if_neg h2, if_neg h2, if_neg h2]
    omega
  unfold layO
  rw [List.cons_append]
  unfold readS
  simp only [d1, d2, d3, hbd]
  rw [if_pos ⟨b1, b2, b7, by rw [List.length_append]; omega⟩]
  rw [List.take_append_of_le_length (Nat.le_refl _), List.take_length]
  obtain ⟨kd, tg, F, t⟩ := o
  dsimp only at *
  by_cases h2 : kd = 2
  · subst h2
    have hF : F = [] := by
      rcases mayK_cases hmk with ⟨h1, _⟩ | ⟨_, _, h, _⟩ | ⟨h1, _⟩ | ⟨h1, _⟩
      · omega
      · exact List.eq_nil_of_length_eq_zero h
      · omega
      · omega
    subst hF
    have hb : bodyO ⟨2, tg, [], t⟩ = pieces t.data.toList := rfl
    have hs : sizeK 2 ([] : List Int).length t.size = t.size := rfl
    obtain ⟨z, hz, hz0⟩ := bytes_pieces _ t.data.toList (Nat.le_refl _)
    rw [if_pos rfl, hb, hs, hz]
    have htl : t.data.toList.length = t.size := by rw [Array.length_toList]; rfl
    rw [List.drop_append_of_le_length (by omega), List.drop_eq_nil_of_le (by omega), List.nil_append, List.take_append_of_le_length (by omega), List.take_of_length_le (by omega)]
    have ho : (⟨2, tg, [], ⟨t.data.toList.toArray⟩⟩ : Ob) = ⟨2, tg, [], t⟩ := by obtain ⟨⟨l⟩⟩ := t; rfl
    rw [if_pos ⟨fun _ => hz0, by rw [ho]; exact hm⟩, ho]
  · have hb : bodyO ⟨kd, tg, F, t⟩ = F := if_neg h2
    have ht := ob_text hmk h2
    subst ht
    rw [if_neg h2, hb, if_pos ⟨fun h => absurd h h2, hm⟩]
theorem readS_app {S : List Int} {o : Ob} (h : readS S = some o) (T : List Int) : readS (S ++ T) = some o := by
  cases S with
  | nil => cases h
  | cons hd r =>
    rw [List.cons_append]
    unfold readS at h ⊢
    simp only at h ⊢
    split at h
    · rename_i hc
      obtain ⟨c1, c2, c3, c4⟩ := hc
      rw [if_pos ⟨c1, c2, c3, by rw [List.length_append]; omega⟩, List.take_append_of_le_length c4]
      exact h
    · cases h
theorem objs_app : ∀ (n : Nat) (S : List Int) (a : Nat) (L : List (Nat × Ob)) (T : List Int) (M : List (Nat × Ob)), S.length ≤ n → objs S a = some L → objs T (a + S.length) = some M → objs (S ++ T) a = some (L ++ M) := by
  intro n
  induction n with
  | zero =>
    intro S a L T M hn h hT
    obtain rfl := List.eq_nil_of_length_eq_zero (Nat.le_zero.1 hn)
    rw [objs_nil] at h
    obtain rfl := Option.some.inj h
    exact hT
  | succ n ih =>
    intro S a L T M hn h hT
    by_cases hS : S = []
    · subst hS
      rw [objs_nil] at h
      obtain rfl := Option.some.inj h
      exact hT
    · rw [objs_cons hS] at h
      cases hr : readS S with
      | none => rw [hr] at h; cases h
      | some o =>
        rw [hr] at h
        simp only at h
        cases hd : objs (S.drop (wordsO o)) (a + wordsO o) with
        | none => rw [hd] at h; cases h
        | some L' =>
          rw [hd] at h
          obtain rfl := Option.some.inj h
          obtain ⟨w1, w2, _⟩ := readS_words hr
          have hl : (S.drop (wordsO o)).length = S.length - wordsO o := List.length_drop
          have := ih (S.drop (wordsO o)) (a + wordsO o) L' T M (by omega) hd (by rw [show a + wordsO o + (S.drop (wordsO o)).length = a + S.length by omega]; exact hT)
          rw [objs_cons (by simp [hS]), readS_app hr]
          simp only
          rw [List.drop_append_of_le_length w1, this]
          rfl
theorem objs_one {o : Ob} (hm : mayO o = true) (a : Nat) : objs (layO o) a = some [(a, o)] := by
  have hl := layO_len hm
  have hr := readS_lay hm []
  rw [List.append_nil] at hr
  rw [objs_cons (by unfold layO; simp), hr]
  simp only
  rw [List.drop_eq_nil_of_le (by omega), objs_nil]
  rfl
theorem fieldOK_mono {P Q : List Nat} {first : Nat} {x : Int} (hs : ∀ a ∈ P, a ∈ Q) (h : fieldOK P first x = true) : fieldOK Q first x = true := by
  unfold fieldOK at h ⊢
  simp only [Bool.or_eq_true, Bool.and_eq_true, List.any_eq_true] at h ⊢
  rcases h with h | ⟨h1, a, h2, h3⟩
  · exact .inl h
  · exact .inr ⟨h1, a, hs a h2, h3⟩
theorem fieldsOK_app {first : Nat} {L : List (Nat × Ob)} {y : Nat × Ob} (h : fieldsOK first L = true) (hy : y.2.fields.all (fieldOK (L.map (·.1)) first) = true) : fieldsOK first (L ++ [y]) = true := by
  unfold fieldsOK at h ⊢
  rw [List.all_append, Bool.and_eq_true]
  have hs : ∀ a ∈ L.map (·.1), a ∈ (L ++ [y]).map (·.1) := fun a ha => by rw [List.map_append]; exact List.mem_append_left _ ha
  refine ⟨List.all_eq_true.2 fun x hx => List.all_eq_true.2 fun f hf => fieldOK_mono hs ?_, ?_⟩
  · exact List.all_eq_true.1 (List.all_eq_true.1 h x hx) f hf
  · simp only [List.all_cons, List.all_nil, Bool.and_true]
    exact List.all_eq_true.2 fun f hf => fieldOK_mono hs (List.all_eq_true.1 hy f hf)
theorem allS_put {first : Nat} {S : List Int} {L : List (Nat × Ob)} {o : Ob} (h : allS first S = some L) (hm : mayO o = true) (hF : o.fields.all (fieldOK (L.map (·.1)) first) = true) : allS first (S ++ layO o) = some (L ++ [(S.length, o)]) := by
  obtain ⟨h1, h2⟩ := allS_some h
  have h3 := objs_app S.length S 0 L (layO o) _ (Nat.le_refl _) h1 (objs_one hm _)
  unfold allS
  rw [h3]
  simp only
  rw [Nat.zero_add, if_pos (fieldsOK_app h2 hF)]
/-! ### the words of a region -/
theorem setMany_eq : ∀ (l V : List Int) (k : Nat), k + l.length ≤ V.length → setMany V k l = V.take k ++ (l ++ V.drop (k + l.length))
  | [], V, k, h => by simp [setMany]
  | x :: l, V, k, h => by
    rw [List.length_cons] at h
    rw [setMany, setMany_eq l (V.set k x) (k + 1) (by rw [List.length_set]; omega), List.length_cons, List.drop_set_of_lt (by omega), List.take_succ_eq_append_getElem (by rw [List.length_set]; omega), List.getElem_set_self, List.take_set_of_le (Nat.le_refl _), show k + 1 + l.length = k + (l.length + 1) by omega]
    simp
theorem wordsAt_set {n : Nat} {ws : List Int} {R : List (Nat × Nat)} (_hg : Arena.Good n R) (_hl : ws.length = n) {x v : Int} {a : Nat} (ha : a < lenAt R x) : wordsAt (setWs ws R x a v) R x = (wordsAt ws R x).set a v := by
  obtain ⟨r, hr, h1, h2⟩ := lenAt_some (show lenAt R x ≠ 0 by omega)
  unfold setWs within
  rw [decide_eq_true (show (0 : Int) ≤ a ∧ (a : Int) < lenAt R x by omega), if_pos rfl]
  unfold wordsAt
  rw [show (x + (a : Int)).toNat = x.toNat + a by omega, List.drop_set, if_neg (by omega), Nat.add_sub_cancel_left, List.take_set]
theorem wordsAt_run {n : Nat} {R : List (Nat × Nat)} (hg : Arena.Good n R) {x : Int} : ∀ (l ws : List Int) (k : Nat), ws.length = n → k + l.length ≤ lenAt R x → wordsAt (setRun ws R x k l) R x = setMany (wordsAt ws R x) k l
  | [], ws, k, _, _ => rfl
  | v :: l, ws, k, hl, h => by
    rw [List.length_cons] at h
    rw [setRun, wordsAt_run hg l _ (k + 1) (by rw [setWs_len]; exact hl) (by omega), wordsAt_set hg hl (by omega)]
    rfl
theorem semi_put {n : Nat} {ws : List Int} {R : List (Nat × Nat)} {h : Hp} {o : Ob} (hg : Arena.Good n R) (hl : ws.length = n) (ht : thereB R h = true) (hm : mayO o = true) (hfit : h.top + (wordsO o : Nat) ≤ h.half) : semi (putWs ws R h o) R (hpUp h o) = semi ws R h ++ layO o := by
  obtain ⟨hok, h2⟩ := thereB_ok ht
  have hf := firstN_is hok
  have hll := layO_len hm
  have hwl := wordsAt_len hg hl h.base
  obtain ⟨a1, a2, a3, a4, a5, a6⟩ := hok
  have hff : firstN (hpUp h o) = firstN h := rfl
  have htn : (hpUp h o).top.toNat = h.top.toNat + wordsO o := by unfold hpUp; dsimp only; omega
  unfold semi
  rw [hff, htn]
  show ((wordsAt (setRun ws R h.base (topN h) (layO o)) R h.base).drop (firstN h)).take _ = _
  rw [wordsAt_run hg _ _ _ hl (by unfold topN; omega), setMany_eq _ _ _ (by unfold topN; omega)]
  generalize wordsAt ws R h.base = V at hwl ⊢
  have e1 : (V.take (topN h) ++ (layO o ++ V.drop (topN h + (layO o).length))).drop (firstN h) = (V.drop (firstN h)).take h.top.toNat ++ (layO o ++ V.drop (topN h + (layO o).length)) := by
    unfold topN
    rw [List.drop_append_of_le_length (by rw [List.length_take]; omega), List.drop_take, Nat.add_sub_cancel_left]
  rw [e1, ← List.append_assoc, List.take_left' (by rw [List.length_append, List.length_take, List.length_drop]; omega)]
theorem thereB_up {R : List (Nat × Nat)} {h : Hp} {o : Ob} (ht : thereB R h = true) (hfit : h.top + (wordsO o : Nat) ≤ h.half) : thereB R (hpUp h o) = true := by
  obtain ⟨⟨a1, a2, a3, a4, a5, a6⟩, h2⟩ := thereB_ok ht
  unfold thereB hpUp
  simp only [Bool.and_eq_true, decide_eq_true_eq]
  exact ⟨⟨a1, a2, a3, a4, by dsimp only; omega, hfit⟩, h2⟩
theorem putB_some {ws : List Int} {R : List (Nat × Nat)} {h : Hp} {o : Ob} {L : List (Nat × Ob)} (ha : allH ws R h = some L) : putB ws R h o = (mayO o && decide (h.top + (wordsO o : Nat) ≤ h.half) && o.fields.all (fieldOK (L.map (·.1)) (firstN h))) := by
  unfold putB; rw [ha]
/-- an object that is put stands behind all others -/
theorem allH_put {n : Nat} {ws : List Int} {R : List (Nat × Nat)} {h : Hp} {o : Ob} {L : List (Nat × Ob)} (hg : Arena.Good n R) (hl : ws.length = n) (ha : allH ws R h = some L) (hb : putB ws R h o = true) : allH (putWs ws R h o) R (hpUp h o) = some (L ++ [(h.top.toNat, o)]) := by
  rw [putB_some ha] at hb
  simp only [Bool.and_eq_true, decide_eq_true_eq] at hb
  obtain ⟨⟨hm, hfit⟩, hF⟩ := hb
  obtain ⟨ht, hS⟩ := allH_there ha
  unfold allH
  rw [if_pos (thereB_up ht hfit), semi_put hg hl ht hm hfit]
  have := allS_put hS hm hF
  rw [semi_len hg hl ht] at this
  exact this
/-! ### a field that is set -/
def updF (a i : Nat) (v : Int) (y : Nat × Ob) : Nat × Ob := if y.1 = a then (y.1, { y.2 with fields := y.2.fields.set i v }) else y
theorem updF_fst (a i : Nat) (v : Int) (y : Nat × Ob) : (updF a i v y).1 = y.1 := by unfold updF; split <;> rfl
theorem updF_words (a i : Nat) (v : Int) (y : Nat × Ob) : wordsO (updF a i v y).2 = wordsO y.2 := by
  unfold updF
  split
  · unfold wordsO; simp
  · rfl
theorem readS_size {hd : Int} {r : List Int} {o : Ob} (h : readS (hd :: r) = some o) : wordsO o = bodyK (hd % 256) (hd / 4294967296).toNat (hd / 4294967296).toNat + 1 := by
  by_cases h2 : hd % 256 = 2
  · unfold readS at h
    simp only [h2, if_true] at h
    split at h
    · rename_i hc
      obtain ⟨_, _, hs, hb⟩ := hc
      split at h
      · obtain rfl := Option.some.inj h
        rw [h2]
        unfold wordsO
        dsimp only
        have hl : (ByteArray.mk ((bytesOf (r.take (bodyK 2 (hd / 4294967296).toNat (hd / 4294967296).toNat))).take (hd / 4294967296).toNat).toArray).size = (hd / 4294967296).toNat := by
          unfold bodyK at hb ⊢
          simp only [if_true] at hb ⊢
          rw [ByteArray.size, List.size_toArray, List.length_take, bytesOf_len, List.length_take]; omega
        rw [hl]
        unfold bodyK
        simp only [if_true]
        omega
      · cases h
    · cases h
  · unfold readS at h
    simp only [h2, if_false, false_implies, true_and] at h
    split at h
    · rename_i hc
      obtain ⟨_, _, hs, hb⟩ := hc
      split at h
      · obtain rfl := Option.some.inj h
        unfold wordsO
        unfold bodyK at hb ⊢
        simp only [h2, if_false] at hb ⊢
        rw [List.length_take]
        omega
      · cases h
    · cases h
theorem readS_take {S : List Int} {o : Ob} (h : readS S = some o) : readS (S.take (wordsO o)) = some o := by
  cases S with
  | nil => cases h
  | cons hd r =>
    rw [readS_size h, List.take_succ_cons]
    unfold readS at h ⊢
    simp only at h ⊢
    split at h
    · rename_i hc
      obtain ⟨c1, c2, c3, c4⟩ := hc
      rw [if_pos ⟨c1, c2, c3, by rw [List.length_take]; omega⟩, List.take_take, Nat.min_self]
      exact h
    · cases h
/-- a field of the first object is set -/
theorem readS_set {S : List Int} {o : Ob} (h : readS S = some o) {i : Nat} (hi : i < o.fields.length) (v : Int) : readS (S.set (1 + i) v) = some { o with fields := o.fields.set i v } := by
  cases S with
  | nil => cases h
  | cons hd r =>
    rw [Nat.add_comm 1 i, List.set_cons_succ]
    by_cases h2 : hd % 256 = 2
    · exfalso
      unfold readS at h
      simp only [h2, if_true] at h
      split at h
      · split at h
        · obtain rfl := Option.some.inj h
          simp at hi
        · cases h
      · cases h
    · have hm := (readS_words h).2.2
      unfold readS at h ⊢
      simp only [h2, if_false, false_implies, true_and] at h ⊢
      split at h
      · rename_i hc
        obtain ⟨c1, c2, c3, c4⟩ := hc
        rw [if_pos ⟨c1, c2, c3, by rw [List.length_set]; exact c4⟩]
        split at h
        · rename_i hm2
          obtain rfl := Option.some.inj h
          rw [List.take_set]
          rw [if_pos (by unfold mayO at hm2 ⊢; dsimp only at hm2 ⊢; rw [List.length_set]; exact hm2)]
        · cases h
      · cases h
theorem objs_ge {S : List Int} {a : Nat} {L : List (Nat × Ob)} (h : objs S a = some L) : ∀ y ∈ L, a ≤ y.1 ∧ y.1 + wordsO y.2 ≤ a + S.length :=
  objs_ind (P := fun S a L => ∀ y ∈ L, a ≤ y.1 ∧ y.1 + wordsO y.2 ≤ a + S.length) (fun a y hy => by cases hy)
    (fun S a o L hS hr ih y hy => by
      have hw := (readS_words hr).1
      rcases List.mem_cons.1 hy with rfl | hy
      · dsimp only; omega
      · have := ih y hy
        rw [List.length_drop] at this
        omega) S.length (Nat.le_refl _) h
theorem objs_set (i : Nat) (v : Int) : ∀ (n : Nat) (S : List Int) (b : Nat) (L : List (Nat × Ob)) (y : Nat × Ob), S.length ≤ n → objs S b = some L → y ∈ L → i < y.2.fields.length → objs (S.set (y.1 - b + 1 + i) v) b = some (L.map (updF y.1 i v)) := by
  intro n
  induction n with
  | zero =>
    intro S b L y hn h hy
    obtain rfl := List.eq_nil_of_length_eq_zero (Nat.le_zero.1 hn)
    rw [objs_nil] at h
    obtain rfl := Option.some.inj h
    cases hy
  | succ n ih =>
    intro S b L y hn h hy hi
    by_cases hS : S = []
    · subst hS
      rw [objs_nil] at h
      obtain rfl := Option.some.inj h
      cases hy
    · have h0 := h
      rw [objs_cons hS] at h
      cases hr : readS S with
      | none => rw [hr] at h; cases h
      | some o =>
        rw [hr] at h
        simp only at h
        cases hd : objs (S.drop (wordsO o)) (b + wordsO o) with
        | none => rw [hd] at h; cases h
        | some L' =>
          rw [hd] at h
          obtain rfl := Option.some.inj h
          obtain ⟨w1, w2, hmay⟩ := readS_words hr
          have hge := objs_ge hd
          have hne : S.set (y.1 - b + 1 + i) v ≠ [] := by simp [hS]
          rw [List.map_cons]
          rcases List.mem_cons.1 hy with rfl | hy
          · dsimp only at hi ⊢
            have hfw : wordsO o = 1 + o.fields.length := fields_words hmay (by intro e; rw [e] at hi; simp at hi)
            rw [Nat.sub_self, Nat.zero_add] at hne ⊢
            rw [objs_cons hne, readS_set hr hi v]
            simp only
            have hwo : wordsO { o with fields := o.fields.set i v } = wordsO o := by unfold wordsO; simp
            rw [hwo, List.drop_set_of_lt (by omega), hd]
            simp only [Option.map_some]
            congr 1
            congr 1
            · unfold updF; rw [if_pos rfl]
            · symm
              refine (List.map_congr_left fun z hz => ?_).trans (List.map_id _)
              unfold updF
              rw [if_neg (by have := (hge z hz).1; omega)]
              rfl
          · have hyg := hge y hy
            have hse : S.set (y.1 - b + 1 + i) v = S.take (wordsO o) ++ (S.drop (wordsO o)).set (y.1 - (b + wordsO o) + 1 + i) v := by
              have e0 : S = S.take (wordsO o) ++ S.drop (wordsO o) := (List.take_append_drop _ _).symm
              have hl : (S.take (wordsO o)).length = wordsO o := by rw [List.length_take]; omega
              have e1 : (S.take (wordsO o) ++ S.drop (wordsO o)).set (y.1 - b + 1 + i) v = S.take (wordsO o) ++ (S.drop (wordsO o)).set (y.1 - (b + wordsO o) + 1 + i) v := by
                rw [List.set_append_right _ _ (by omega), hl]
                congr 2
                omega
              rw [List.take_append_drop] at e1
              exact e1
            have hl : (S.take (wordsO o)).length = wordsO o := by rw [List.length_take]; omega
            rw [objs_cons hne, hse, readS_app (readS_take hr)]
            simp only
            rw [List.drop_append_of_le_length (by omega), List.drop_of_length_le (by omega), List.nil_append, ih (S.drop (wordsO o)) (b + wordsO o) L' y (by rw [List.length_drop]; omega) hd hy hi]
            simp only [Option.map_some]
            congr 2
            unfold updF
            rw [if_neg (by dsimp only; omega)]
theorem updF_places (a i : Nat) (v : Int) (L : List (Nat × Ob)) : (L.map (updF a i v)).map (·.1) = L.map (·.1) := by
  rw [List.map_map]
  exact List.map_congr_left fun y _ => updF_fst a i v y
theorem fieldsOK_set {first a i : Nat} {v : Int} {L : List (Nat × Ob)} (h : fieldsOK first L = true) (hv : fieldOK (L.map (·.1)) first v = true) : fieldsOK first (L.map (updF a i v)) = true := by
  unfold fieldsOK at h ⊢
  rw [updF_places]
  refine List.all_eq_true.2 fun x hx => ?_
  obtain ⟨y, hy, rfl⟩ := List.mem_map.1 hx
  have h1 := List.all_eq_true.1 h y hy
  unfold updF
  split
  · refine List.all_eq_true.2 fun f hf => ?_
    rcases List.mem_or_eq_of_mem_set hf with hf | rfl
    · exact List.all_eq_true.1 h1 f hf
    · exact hv
  · exact h1
theorem semi_setWs {n : Nat} {ws : List Int} {R : List (Nat × Nat)} {h : Hp} (hg : Arena.Good n R) (hl : ws.length = n) (ht : thereB R h = true) {j : Nat} (hj : j < h.top.toNat) (v : Int) : semi (setWs ws R h.base ((firstN h : Int) + j) v) R h = (semi ws R h).set j v := by
  obtain ⟨hok, h2⟩ := thereB_ok ht
  have hf := firstN_is hok
  obtain ⟨a1, a2, a3, a4, a5, a6⟩ := hok
  unfold semi
  rw [show (firstN h : Int) + j = ((firstN h + j : Nat) : Int) by omega, wordsAt_set hg hl (by omega), List.drop_set, if_neg (by omega), Nat.add_sub_cancel_left, List.take_set]
/-- a field that is set: the objects are as they were, but that field -/
theorem allH_set {n : Nat} {ws : List Int} {R : List (Nat × Nat)} {h : Hp} {L : List (Nat × Ob)} {x i v : Int} {y : Nat × Ob} (hg : Arena.Good n R) (hl : ws.length = n) (ha : allH ws R h = some L) (hy : getL (firstN h) L x = some y) (hi : 0 ≤ i) (hi2 : i < y.2.fields.length) (hv : fieldOK (L.map (·.1)) (firstN h) v = true) :
    setAt ws R h x i v = some ((firstN h : Int) + y.1 + 1 + i) ∧ allH (wsOf ws R h.base (setAt ws R h x i v) v) R h = some (L.map (updF y.1 i.toNat v)) := by
  have hs : setAt ws R h x i v = some ((firstN h : Int) + y.1 + 1 + i) := by
    unfold setAt
    rw [ha]
    simp only
    rw [hy]
    simp only
    rw [if_pos ⟨hi, hi2, hv⟩]
  refine ⟨hs, ?_⟩
  rw [hs]
  obtain ⟨ht, hS⟩ := allH_there ha
  obtain ⟨ho, hf⟩ := allS_some hS
  have hyL := (getL_some hy).1
  have hfit := objs_ge ho y hyL
  have hmay := (objs_fields ho y hyL).1
  rw [fields_words hmay (by intro e; rw [e] at hi2; simp at hi2; omega), semi_len hg hl ht] at hfit
  unfold allH
  rw [if_pos ht]
  unfold wsOf
  simp only
  rw [show (firstN h : Int) + y.1 + 1 + i = (firstN h : Int) + ((y.1 - 0 + 1 + i.toNat : Nat) : Int) by omega, semi_setWs hg hl ht (by omega)]
  unfold allS
  rw [objs_set i.toNat v _ _ 0 L y (Nat.le_refl _) ho hyL (by omega)]
  simp only
  rw [if_pos (fieldsOK_set hf hv)]
theorem getL_upd {first : Nat} {L : List (Nat × Ob)} {x v : Int} {a i : Nat} : getL first (L.map (updF a i v)) x = (getL first L x).map (updF a i v) := by
  unfold getL
  split
  · rfl
  · rw [List.find?_map]
    congr 1
    apply congrFun
    apply congrArg
    funext y
    simp only [Function.comp_apply, updF_fst]
end Go.Proofs.YtppkgfcobnknfaaGreatDoor
/- Data, in plain Lean: what goes out of a heap; what comes into it. -/
namespace Go.Proofs.YtppkgfcobnknfaaGreatDoor
open Go Go.RowKit Arena
set_option maxRecDepth 100000
/-- values, one behind the other, are told by cells -/
inductive Msgs (first : Nat) (L : List (Nat × Ob)) : List Int → List Cl → Prop
  | nil : Msgs first L [] []
  | num (x : Int) (st : List Int) (M : List Cl) : isIntW x = true → Msgs first L st M → Msgs first L (x :: st) (⟨0, 0, valW x, ByteArray.empty⟩ :: M)
  | str (x : Int) (y : Nat × Ob) (st : List Int) (M : List Cl) : getL first L x = some y → y.2.kind = 2 → Msgs first L st M → Msgs first L (x :: st) (⟨2, 0, 0, y.2.text⟩ :: M)
  | blk (x : Int) (y : Nat × Ob) (st : List Int) (M : List Cl) : getL first L x = some y → y.2.kind = 1 → Msgs first L (y.2.fields ++ st) M → Msgs first L (x :: st) (⟨1, y.2.tag, y.2.fields.length, ByteArray.empty⟩ :: M)
/-- the machine that tells them: how many steps, what is still to be told, what is told -/
def outS (first : Nat) (L : List (Nat × Ob)) : Nat → List Int → List Cl → Option (List Cl)
  | _, [], acc => some acc
  | 0, _ :: _, _ => none
  | s + 1, x :: st, acc =>
    if acc.length = 100 then none
    else if isIntW x = true then outS first L s st (acc ++ [⟨0, 0, valW x, ByteArray.empty⟩])
    else match getL first L x with
      | none => none
      | some y => if y.2.kind = 2 then outS first L s st (acc ++ [⟨2, 0, 0, y.2.text⟩]) else if y.2.kind = 1 then outS first L s (y.2.fields ++ st) (acc ++ [⟨1, y.2.tag, y.2.fields.length, ByteArray.empty⟩]) else none
theorem getL_notint {first : Nat} {L : List (Nat × Ob)} {x : Int} {y : Nat × Ob} (h : getL first L x = some y) : isIntW x = false := (getL_some h).2.2.1
theorem outS_of {first : Nat} {L : List (Nat × Ob)} {st : List Int} {M : List Cl} (h : Msgs first L st M) : ∀ (s : Nat) (acc : List Cl), M.length ≤ s → acc.length + M.length ≤ 100 → outS first L s st acc = some (acc ++ M) := by
  induction h with
  | nil => intro s acc _ _; cases s <;> simp [outS]
  | num x st M hx _ ih =>
    intro s acc hs ha
    rw [List.length_cons] at hs ha
    obtain ⟨s, rfl⟩ : ∃ t, s = t + 1 := ⟨s - 1, by omega⟩
    rw [outS, if_neg (by omega), if_pos hx, ih s _ (by omega) (by simp; omega)]
    simp
  | str x y st M hg hk _ ih =>
    intro s acc hs ha
    rw [List.length_cons] at hs ha
    obtain ⟨s, rfl⟩ : ∃ t, s = t + 1 := ⟨s - 1, by omega⟩
    rw [outS, if_neg (by omega), if_neg (by rw [getL_notint hg]; decide), hg]
    dsimp only
    rw [if_pos hk, ih s _ (by omega) (by simp; omega)]
    simp
  | blk x y st M hg hk _ ih =>
    intro s acc hs ha
    rw [List.length_cons] at hs ha
    obtain ⟨s, rfl⟩ : ∃ t, s = t + 1 := ⟨s - 1, by omega⟩
    rw [outS, if_neg (by omega), if_neg (by rw [getL_notint hg]; decide), hg]
    dsimp only
    rw [if_neg (by omega), if_pos hk, ih s _ (by omega) (by simp; omega)]
    simp
theorem outS_some {first : Nat} {L : List (Nat × Ob)} : ∀ (s : Nat) (st : List Int) (acc R : List Cl), outS first L s st acc = some R → ∃ M, R = acc ++ M ∧ Msgs first L st M
  | s, [], acc, R, h => by
    have : outS first L s [] acc = some acc := by cases s <;> rfl
    rw [this] at h
    exact ⟨[], by simpa using (Option.some.inj h).symm, .nil⟩
  | 0, x :: st, acc, R, h => by simp [outS] at h
  | s + 1, x :: st, acc, R, h => by
    rw [outS] at h
    split at h
    · cases h
    · split at h
      · rename_i hx
        obtain ⟨M, rfl, hM⟩ := outS_some s _ _ _ h
        exact ⟨_ :: M, by simp, .num x st M hx hM⟩
      · split at h
        · cases h
        · rename_i y hy
          split at h
          · rename_i hk
            obtain ⟨M, rfl, hM⟩ := outS_some s _ _ _ h
            exact ⟨_ :: M, by simp, .str x y st M hy hk hM⟩
          · split at h
            · rename_i hk
              obtain ⟨M, rfl, hM⟩ := outS_some s _ _ _ h
              exact ⟨_ :: M, by simp, .blk x y st M hy hk hM⟩
            · cases h
/-- each value is told in one way -/
theorem Msgs.app {first : Nat} {L : List (Nat × Ob)} {s t : List Int} {A B : List Cl} (h : Msgs first L s A) (g : Msgs first L t B) : Msgs first L (s ++ t) (A ++ B) := by
  induction h with
  | nil => exact g
  | num x st M hx _ ih => exact .num x _ _ hx ih
  | str x y st M hg hk _ ih => exact .str x y _ _ hg hk ih
  | blk x y st M hg hk _ ih =>
    rw [List.append_assoc] at ih
    exact .blk x y _ _ hg hk ih
theorem Msgs.split {first : Nat} {L : List (Nat × Ob)} {s : List Int} {A : List Cl} (h : Msgs first L s A) : ∀ {t : List Int} {R : List Cl}, Msgs first L (s ++ t) R → ∃ B, R = A ++ B ∧ Msgs first L t B := by
  induction h with
  | nil => intro t R hR; exact ⟨R, rfl, hR⟩
  | num x st M hx _ ih =>
    intro t R hR
    rw [List.cons_append] at hR
    cases hR with
    | num _ _ M' _ h' => obtain ⟨B, rfl, hB⟩ := ih h'; exact ⟨B, rfl, hB⟩
    | str _ y _ M' hg _ _ => rw [getL_notint hg] at hx; cases hx
    | blk _ y _ M' hg _ _ => rw [getL_notint hg] at hx; cases hx
  | str x y st M hg hk _ ih =>
    intro t R hR
    rw [List.cons_append] at hR
    cases hR with
    | num _ _ M' hx _ => rw [getL_notint hg] at hx; cases hx
    | str _ y' _ M' hg' _ h' =>
      obtain rfl := Option.some.inj (hg.symm.trans hg')
      obtain ⟨B, rfl, hB⟩ := ih h'
      exact ⟨B, rfl, hB⟩
    | blk _ y' _ M' hg' hk' _ =>
      obtain rfl := Option.some.inj (hg.symm.trans hg')
      omega
  | blk x y st M hg hk _ ih =>
    intro t R hR
    rw [List.cons_append] at hR
    cases hR with
    | num _ _ M' hx _ => rw [getL_notint hg] at hx; cases hx
    | str _ y' _ M' hg' hk' _ =>
      obtain rfl := Option.some.inj (hg.symm.trans hg')
      omega
    | blk _ y' _ M' hg' _ h' =>
      obtain rfl := Option.some.inj (hg.symm.trans hg')
      rw [← List.append_assoc] at h'
      obtain ⟨B, rfl, hB⟩ := ih h'
      exact ⟨B, rfl, hB⟩
theorem Msgs.one {first : Nat} {L : List (Nat × Ob)} {s : List Int} {A B : List Cl} (h : Msgs first L s A) (g : Msgs first L s B) : B = A := by
  obtain ⟨C, rfl, hC⟩ := h.split (t := []) (R := B) (by rwa [List.append_nil])
  cases hC
  rw [List.append_nil]
/-- more objects behind change nothing -/
theorem getL_app {first : Nat} {L N : List (Nat × Ob)} {x : Int} {y : Nat × Ob} (h : getL first L x = some y) : getL first (L ++ N) x = some y := by
  unfold getL at *
  split at h
  · cases h
  · rename_i hn
    rw [if_neg hn, List.find?_append, h]
    rfl
theorem Msgs.more {first : Nat} {L : List (Nat × Ob)} {s : List Int} {A : List Cl} (h : Msgs first L s A) (N : List (Nat × Ob)) : Msgs first (L ++ N) s A := by
  induction h with
  | nil => exact .nil
  | num x st M hx _ ih => exact .num x _ _ hx ih
  | str x y st M hg hk _ ih => exact .str x y _ _ (getL_app hg) hk ih
  | blk x y st M hg hk _ ih => exact .blk x y _ _ (getL_app hg) hk ih
/-- what a heap's value is told as -/
def outD (first : Nat) (L : List (Nat × Ob)) (x : Int) : Option (List Cl) := outS first L 101 [x] []
theorem outD_of {first : Nat} {L : List (Nat × Ob)} {x : Int} {M : List Cl} (h : Msgs first L [x] M) (hl : M.length ≤ 100) : outD first L x = some M := by
  have := outS_of h 101 [] (by omega) (by simpa using hl)
  simpa [outD] using this
theorem outD_some {first : Nat} {L : List (Nat × Ob)} {x : Int} {M : List Cl} (h : outD first L x = some M) : Msgs first L [x] M := by
  obtain ⟨M', e, h'⟩ := outS_some _ _ _ _ h
  rw [List.nil_append] at e
  rw [e]; exact h'
end Go.Proofs.YtppkgfcobnknfaaGreatDoor
/- Data, in plain Lean: what comes into a heap. -/
namespace Go.Proofs.YtppkgfcobnknfaaGreatDoor
open Go Go.RowKit Arena
set_option maxRecDepth 100000
/-- where a cell's object stands -/
def posN (M : List Cl) (t k : Nat) : Nat := t + wsum (M.take k)
/-- a cell's word -/
def wdC (M : List Cl) (t k : Nat) : Int := match M[k]? with
  | none => 0
  | some c => if c.kind = 0 then numW c.n else ((2 * posN M t k : Nat) : Int)
theorem wdC_num {M : List Cl} {t k : Nat} {c : Cl} (hc : M[k]? = some c) (h : c.kind = 0) : wdC M t k = numW c.n := by unfold wdC; rw [hc]; exact if_pos h
theorem wdC_place {M : List Cl} {t k : Nat} {c : Cl} (hc : M[k]? = some c) (h : c.kind ≠ 0) : wdC M t k = ((2 * posN M t k : Nat) : Int) := by unfold wdC; rw [hc]; exact if_neg h
/-- a cell's object -/
def obC (M : List Cl) (t k : Nat) (c : Cl) : Ob := ⟨c.kind, c.tag, if c.kind = 1 then (kids M (k + 1) c.n.toNat).map (wdC M t) else [], c.text⟩
def inFrom (M : List Cl) (t a : Nat) : Nat → List Cl → List (Nat × Ob)
  | _, [] => []
  | k, c :: r => if c.kind = 0 then inFrom M t a (k + 1) r else (a + wsum (M.take k), obC M t k c) :: inFrom M t a (k + 1) r
/-- the objects -/
def inObs (M : List Cl) (t a : Nat) : List (Nat × Ob) := inFrom M t a 0 M
def layFrom (M : List Cl) (t : Nat) : Nat → List Cl → List Int
  | _, [] => []
  | k, c :: r => (if c.kind = 0 then [] else layO (obC M t k c)) ++ layFrom M t (k + 1) r
/-- their words -/
def inL (M : List Cl) (t : Nat) : List Int := layFrom M t 0 M
theorem goodC_one {c : Cl} (h : goodC c = true) (h1 : c.kind = 1) : c.text.size = 0 ∧ 0 ≤ c.tag ∧ c.tag ≤ 255 ∧ 1 ≤ c.n ∧ c.n ≤ 8 := by
  unfold goodC at h
  rw [if_neg (by omega), if_pos h1] at h
  exact of_decide_eq_true h
theorem goodC_two {c : Cl} (h : goodC c = true) (h1 : c.kind = 2) : c.tag = 0 ∧ c.n = 0 ∧ c.text.size ≤ 400 := by
  unfold goodC at h
  rw [if_neg (by omega), if_neg (by omega), if_pos h1] at h
  exact of_decide_eq_true h
theorem goodC_zero {c : Cl} (h : goodC c = true) (h1 : c.kind = 0) : c.tag = 0 ∧ c.n = wrapW c.n ∧ c.text.size = 0 := by
  unfold goodC at h
  rw [if_pos h1] at h
  exact of_decide_eq_true h
theorem obC_may {M : List Cl} {t k : Nat} {c : Cl} (h : goodC c = true) (h0 : c.kind ≠ 0) : mayO (obC M t k c) = true := by
  rcases goodC_cases h with h1 | ⟨h1, _⟩ | h1
  · exact absurd h1 h0
  · obtain ⟨e1, e2, e3, e4, e5⟩ := goodC_one h h1
    unfold mayO mayK obC rowB
    dsimp only
    rw [if_pos h1, if_pos h1, List.length_map, kids_len]
    simp only [Bool.and_eq_true, decide_eq_true_eq]
    omega
  · obtain ⟨e1, e2, e3⟩ := goodC_two h h1
    unfold mayO mayK obC
    simp [h1, e1, e3]
theorem obC_words {M : List Cl} {t k : Nat} {c : Cl} (h : goodC c = true) (h0 : c.kind ≠ 0) : wordsO (obC M t k c) = cw c := by
  rcases goodC_cases h with h1 | ⟨h1, _⟩ | h1
  · exact absurd h1 h0
  · unfold wordsO bodyK obC cw
    dsimp only
    rw [if_neg (by omega), if_pos h1, if_pos h1, List.length_map, kids_len]
  · unfold wordsO bodyK obC cw
    dsimp only
    rw [if_pos h1, if_neg (by omega), if_pos h1]
theorem cw_zero {c : Cl} (h : c.kind = 0) : cw c = 0 := by unfold cw; rw [if_neg (by omega), if_neg (by omega)]
theorem layFrom_len {M : List Cl} {t : Nat} : ∀ (r : List Cl) (k : Nat), (∀ c ∈ r, goodC c = true) → (layFrom M t k r).length = wsum r
  | [], _, _ => rfl
  | c :: r, k, h => by
    have ih := layFrom_len (M := M) (t := t) r (k + 1) (fun x hx => h x (.tail _ hx))
    have hw : wsum (c :: r) = cw c + wsum r := by unfold wsum; rw [List.map_cons, List.sum_cons]
    rw [layFrom, List.length_append, ih, hw]
    by_cases h0 : c.kind = 0
    · rw [if_pos h0, cw_zero h0]; simp
    · rw [if_neg h0, layO_len (obC_may (h c (.head _)) h0), obC_words (h c (.head _)) h0]
theorem inL_len {M : List Cl} {t : Nat} (h : goodM M = true) : (inL M t).length = wsum M := layFrom_len M 0 (goodM_all h)
theorem objs_from {M : List Cl} {t a : Nat} : ∀ (r : List Cl) (k : Nat), M.drop k = r → (∀ c ∈ r, goodC c = true) → objs (layFrom M t k r) (a + wsum (M.take k)) = some (inFrom M t a k r)
  | [], k, _, _ => rfl
  | c :: r, k, hd, h => by
    have hk : M[k]? = some c := by
      have := congrArg (·[0]?) hd
      simpa using this
    have hd2 : M.drop (k + 1) = r := by
      have := congrArg (·.drop 1) hd
      simpa using this
    have ih := objs_from (M := M) (t := t) (a := a) r (k + 1) hd2 (fun x hx => h x (.tail _ hx))
    rw [wsum_take hk, ← Nat.add_assoc] at ih
    rw [layFrom, inFrom]
    by_cases h0 : c.kind = 0
    · rw [if_pos h0, if_pos h0, List.nil_append]
      rw [cw_zero h0, Nat.add_zero] at ih
      exact ih
    · rw [if_neg h0, if_neg h0]
      have hm := obC_may (M := M) (t := t) (k := k) (h c (.head _)) h0
      have h1 := objs_one hm (a + wsum (M.take k))
      have hl := layO_len hm
      rw [obC_words (h c (.head _)) h0] at hl
      exact objs_app _ (layO (obC M t k c)) _ _ _ _ (Nat.le_refl _) h1 (by rw [hl]; exact ih)
theorem objs_in {M : List Cl} {t a : Nat} (h : goodM M = true) : objs (inL M t) a = some (inObs M t a) := by
  have := objs_from (M := M) (t := t) (a := a) M 0 rfl (goodM_all h)
  have e : a + wsum (M.take 0) = a := by simp [wsum]
  rw [e] at this
  exact this
theorem inFrom_mem {M : List Cl} {t a : Nat} : ∀ (r : List Cl) (k : Nat), M.drop k = r → ∀ (y : Nat × Ob), y ∈ inFrom M t a k r ↔ ∃ j c, k ≤ j ∧ M[j]? = some c ∧ c.kind ≠ 0 ∧ y = (a + wsum (M.take j), obC M t j c)
  | [], k, hd, y => by
    constructor
    · intro h; cases h
    · rintro ⟨j, c, hj, hc, _⟩
      have := (List.getElem?_eq_some_iff.1 hc).1
      have hl := congrArg List.length hd
      simp at hl
      omega
  | c :: r, k, hd, y => by
    have hk : M[k]? = some c := by
      have := congrArg (·[0]?) hd
      simpa using this
    have hd2 : M.drop (k + 1) = r := by
      have := congrArg (·.drop 1) hd
      simpa using this
    have ih := inFrom_mem (M := M) (t := t) (a := a) r (k + 1) hd2 y
    rw [inFrom]
    by_cases h0 : c.kind = 0
    · rw [if_pos h0, ih]
      constructor
      · rintro ⟨j, c', hj, h⟩; exact ⟨j, c', by omega, h⟩
      · rintro ⟨j, c', hj, hc, hn, h⟩
        refine ⟨j, c', ?_, hc, hn, h⟩
        rcases Nat.lt_or_ge k j with hlt | hge
        · exact hlt
        · obtain rfl : j = k := by omega
          rw [hk] at hc
          obtain rfl := Option.some.inj hc
          exact absurd h0 hn
    · rw [if_neg h0, List.mem_cons, ih]
      constructor
      · rintro (rfl | ⟨j, c', hj, h⟩)
        · exact ⟨k, c, Nat.le_refl _, hk, h0, rfl⟩
        · exact ⟨j, c', by omega, h⟩
      · rintro ⟨j, c', hj, hc, hn, h⟩
        rcases Nat.lt_or_ge k j with hlt | hge
        · exact .inr ⟨j, c', hlt, hc, hn, h⟩
        · obtain rfl : j = k := by omega
          rw [hk] at hc
          obtain rfl := Option.some.inj hc
          exact .inl h
theorem inObs_mem {M : List Cl} {t a : Nat} {y : Nat × Ob} : y ∈ inObs M t a ↔ ∃ j c, M[j]? = some c ∧ c.kind ≠ 0 ∧ y = (a + wsum (M.take j), obC M t j c) := by
  unfold inObs
  rw [inFrom_mem M 0 rfl y]
  constructor
  · rintro ⟨j, c, _, h⟩; exact ⟨j, c, h⟩
  · rintro ⟨j, c, h⟩; exact ⟨j, c, Nat.zero_le _, h⟩
theorem kids_at {M : List Cl} : ∀ (n k o : Nat), At M k (n + o) → ∀ j ∈ kids M k n, ∃ c, M[j]? = some c
  | 0, _, _, _, j, hj => by cases hj
  | n + 1, k, o, h, j, hj => by
    have e : n + 1 + o = (n + o) + 1 := by omega
    rw [e] at h
    rw [kids, List.mem_cons] at hj
    rcases hj with rfl | hj
    · obtain ⟨x, hx, _⟩ := h.cell
      exact ⟨x, hx⟩
    · exact kids_at n _ o h.next.1 j hj
theorem wsum_take_le (M : List Cl) (k : Nat) : wsum (M.take k) ≤ wsum M := by
  have := wsum_app (M.take k) (M.drop k)
  rw [List.take_append_drop] at this
  omega
/-- from a good message's cell on: so many wholes are to come -/
theorem at_of {M : List Cl} : ∀ (k o : Nat) (r : List Cl), M.drop k = r → needs r o = true → k ≤ M.length → At M k o := fun k o r hd h hk => ⟨hk, by rw [hd]; exact h⟩
theorem at_all {M : List Cl} (h : goodM M = true) : ∀ (k : Nat) (c : Cl), M[k]? = some c → ∃ o, At M k (o + 1)
  | 0, c, hc => ⟨0, At.first h⟩
  | k + 1, c, hc => by
    have hk : k < M.length := by have := (List.getElem?_eq_some_iff.1 hc).1; omega
    obtain ⟨o, ho⟩ := at_all h k M[k] (List.getElem?_eq_getElem hk)
    obtain ⟨x, _, _, hN⟩ := ho.cell
    obtain ⟨h1, h2⟩ := hN
    have hk1 : k + 1 < M.length := (List.getElem?_eq_some_iff.1 hc).1
    rcases hz : o + wt x with _ | z
    · rw [hz, List.drop_eq_getElem_cons hk1, needs_zero] at h2
      cases h2
    · exact ⟨z, h1, by rw [hz] at h2; exact h2⟩
theorem fields_in {M : List Cl} {first a k : Nat} {c : Cl} {P : List Nat} (hM : goodM M = true) (hc : M[k]? = some c) (hP : ∀ y ∈ inObs M (first + a) a, y.1 ∈ P) (hb : first + a ≤ 100000) : (obC M (first + a) k c).fields.all (fieldOK P first) = true := by
  unfold obC
  dsimp only
  by_cases h1 : c.kind = 1
  · rw [if_pos h1, List.all_eq_true]
    intro x hx
    obtain ⟨j, hj, rfl⟩ := List.mem_map.1 hx
    obtain ⟨o, ho⟩ := at_all hM k c hc
    obtain ⟨c', hc', hg', hN⟩ := ho.cell
    obtain rfl := Option.some.inj (hc.symm.trans hc')
    have hw : wt c = c.n.toNat := wt_block h1
    rw [hw, Nat.add_comm o] at hN
    obtain ⟨d, hd⟩ := kids_at _ _ o hN j hj
    by_cases h0 : d.kind = 0
    · rw [wdC_num hd h0]
      unfold fieldOK
      rw [numW_int]; rfl
    · rw [wdC_place hd h0]
      unfold fieldOK
      have hm := hP _ (inObs_mem.2 ⟨j, d, hd, h0, rfl⟩)
      have hl := wsum_take_le M j
      have hs := goodM_sum hM
      unfold posN
      have hq : (((2 * (first + a + wsum (M.take j)) : Nat) : Int)) / 2 = ((first + (a + wsum (M.take j)) : Nat) : Int) := by omega
      simp only [hq]
      rw [decide_eq_true (by omega), Bool.true_and]
      have : (P.any fun a' => decide (((first + a' : Nat) : Int) = ((first + (a + wsum (M.take j)) : Nat) : Int))) = true := by
        rw [List.any_eq_true]
        exact ⟨_, hm, decide_eq_true rfl⟩
      rw [this, Bool.or_true]
  · rw [if_neg h1]; rfl
theorem allS_in {first : Nat} {S : List Int} {L : List (Nat × Ob)} {M : List Cl} (h : allS first S = some L) (hM : goodM M = true) (hb : first + S.length ≤ 100000) : allS first (S ++ inL M (first + S.length)) = some (L ++ inObs M (first + S.length) S.length) := by
  obtain ⟨h1, h2⟩ := allS_some h
  have h3 := objs_in (M := M) (t := first + S.length) (a := S.length) hM
  have h4 := objs_app _ S 0 L (inL M (first + S.length)) _ (Nat.le_refl _) h1 (by rw [Nat.zero_add]; exact h3)
  unfold allS
  rw [h4]
  dsimp only
  rw [if_pos]
  unfold fieldsOK
  rw [List.all_append, Bool.and_eq_true]
  constructor
  · unfold fieldsOK at h2
    rw [List.all_eq_true] at h2 ⊢
    intro x hx
    have := h2 x hx
    rw [List.all_eq_true] at this ⊢
    exact fun v hv => fieldOK_mono (fun a ha => by rw [List.map_append]; exact List.mem_append_left _ ha) (this v hv)
  · rw [List.all_eq_true]
    intro y hy
    obtain ⟨j, c, hc, hn, rfl⟩ := inObs_mem.1 hy
    exact fields_in hM hc (fun y hy => by rw [List.map_append]; exact List.mem_append_right _ (List.mem_map.2 ⟨y, hy, rfl⟩)) hb
end Go.Proofs.YtppkgfcobnknfaaGreatDoor
/- Data, in plain Lean: what came in goes out as it. -/
namespace Go.Proofs.YtppkgfcobnknfaaGreatDoor
open Go Go.RowKit Arena
set_option maxRecDepth 100000
/-- behind so many wholes -/
def endK (M : List Cl) : Nat → Nat → Nat
  | k, 0 => k
  | k, n + 1 => endK M (nxt M k) n
theorem kids_add (M : List Cl) : ∀ (a k b : Nat), kids M k (a + b) = kids M k a ++ kids M (endK M k a) b
  | 0, k, b => by rw [Nat.zero_add]; rfl
  | a + 1, k, b => by
    have e : a + 1 + b = (a + b) + 1 := by omega
    rw [e, kids, kids, kids_add M a (nxt M k) b]
    rfl
theorem firstL_zero (M : List Cl) : firstL M 0 = 0 := by cases M <;> simp [firstL]
theorem endK_is {M : List Cl} : ∀ (n k o : Nat), At M k (n + o) → endK M k n = k + firstL (M.drop k) n
  | 0, k, o, _ => by rw [firstL_zero]; rfl
  | n + 1, k, o, h => by
    have e : n + 1 + o = (n + o) + 1 := by omega
    rw [e] at h
    have hn := h.next.1
    obtain ⟨h1, h2⟩ := h
    have e2 : n + o + 1 = 1 + (n + o) := by omega
    rw [e2] at h2
    obtain ⟨A, B, eA, hA, hB⟩ := needs_split _ 1 (n + o) h2
    have hf : firstL (M.drop k) 1 = A.length := by rw [eA]; exact firstL_app A 1 hA
    have hx : nxt M k = k + A.length := by unfold nxt; rw [hf]
    have hd : M.drop (nxt M k) = B := by rw [hx, ← List.drop_drop, eA, List.drop_left]
    rw [endK, endK_is n (nxt M k) o hn, hd, eA, Nat.add_comm n 1, firstL_add A 1 n hA, hx]
    omega
theorem nxt_blk {M : List Cl} {k o : Nat} {c : Cl} (hc : M[k]? = some c) (h : At M (k + 1) (wt c + o)) : nxt M k = endK M (k + 1) (wt c) := by
  rw [endK_is _ _ _ h]
  obtain ⟨hk, e⟩ := List.getElem?_eq_some_iff.1 hc
  unfold nxt
  rw [List.drop_eq_getElem_cons hk, e, firstL, if_neg (by omega)]
  rw [show 1 - 1 + wt c = wt c by omega]
  omega
theorem getL_mem {first : Nat} {L : List (Nat × Ob)} {y : Nat × Ob} (hp : L.Pairwise (fun a b => a.1 < b.1)) (hy : y ∈ L) (hb : first + y.1 < 4294967296) : getL first L ((2 * (first + y.1) : Nat) : Int) = some y := by
  have hq : (((2 * (first + y.1) : Nat) : Int)) / 2 = ((first + y.1 : Nat) : Int) := by omega
  have hi : isIntW ((2 * (first + y.1) : Nat) : Int) = false := by unfold isIntW; exact decide_eq_false (by omega)
  unfold getL
  rw [if_neg (by rw [hi]; simp; omega)]
  simp only [hq]
  clear hq hi hb
  induction L with
  | nil => cases hy
  | cons z L ih =>
    rw [List.pairwise_cons] at hp
    rw [List.find?_cons]
    rcases List.mem_cons.1 hy with rfl | hy
    · rw [decide_eq_true rfl]
    · have h1 := hp.1 y hy
      rw [decide_eq_false (by omega)]
      exact ih hp.2 hy
theorem empty_size {s : ByteArray} (h : s.size = 0) : s = ByteArray.empty := ByteArray.size_eq_zero_iff.1 h
theorem msgs_from {first a : Nat} {L : List (Nat × Ob)} {M : List Cl} (hM : goodM M = true) (hp : L.Pairwise (fun a b => a.1 < b.1)) (hin : ∀ y ∈ inObs M (first + a) a, y ∈ L) (hb : first + a ≤ 100000) :
    ∀ (n k o : Nat), M.length ≤ k + n → At M k o → Msgs first L ((kids M k o).map (wdC M (first + a))) (M.drop k)
  | n, k, 0, _, h => by
    obtain ⟨_, h2⟩ := h
    cases hd : M.drop k with
    | nil => exact .nil
    | cons x r => rw [hd, needs_zero] at h2; cases h2
  | 0, k, o + 1, hn, h => by
    obtain ⟨x, hx, _⟩ := h.cell
    have := (List.getElem?_eq_some_iff.1 hx).1
    omega
  | n + 1, k, o + 1, hn, h => by
    obtain ⟨c, hc, hg, hN⟩ := h.cell
    have hnx := h.next
    obtain ⟨hk, e⟩ := List.getElem?_eq_some_iff.1 hc
    rw [kids, List.map_cons, List.drop_eq_getElem_cons hk, e]
    have hsum := goodM_sum hM
    have htl := wsum_take_le M k
    rcases goodC_cases hg with h0 | ⟨h1, _⟩ | h2
    · obtain ⟨e1, e2, e3⟩ := goodC_zero hg h0
      have ec : c = ⟨0, 0, valW (numW c.n), ByteArray.empty⟩ := by
        rw [val_num e2]
        obtain ⟨kd, tg, nn, tx⟩ := c
        dsimp only at h0 e1 e3 ⊢
        rw [h0, e1, empty_size e3]
      rw [wdC_num hc h0]
      rw [wt_leaf (by omega), Nat.add_zero] at hN
      have hl := nxt_leaf hc (wt_leaf (by omega))
      rw [hl]
      have hfin := Msgs.num (numW c.n) ((kids M (k + 1) o).map (wdC M (first + a))) (M.drop (k + 1)) (numW_int _) (msgs_from hM hp hin hb n (k + 1) o (by omega) hN)
      rw [← ec] at hfin
      exact hfin
    · obtain ⟨e1, e2, e3, e4, e5⟩ := goodC_one hg h1
      have hw := wt_block h1
      have hy := hin _ (inObs_mem.2 ⟨k, c, hc, by omega, rfl⟩)
      have hgl := getL_mem (first := first) hp hy (by dsimp only; omega)
      have hwd : wdC M (first + a) k = ((2 * (first + (a + wsum (M.take k))) : Nat) : Int) := by
        rw [wdC_place hc (by omega)]; unfold posN; rw [Nat.add_assoc]
      have hf : (obC M (first + a) k c).fields = (kids M (k + 1) c.n.toNat).map (wdC M (first + a)) := by unfold obC; dsimp only; rw [if_pos h1]
      have ec : c = ⟨1, (obC M (first + a) k c).tag, (obC M (first + a) k c).fields.length, ByteArray.empty⟩ := by
        rw [hf, List.length_map, kids_len]
        obtain ⟨kd, tg, nn, tx⟩ := c
        dsimp only at h1 e1 e2 e3 e4 e5 ⊢
        rw [h1, empty_size e1]
        unfold obC
        dsimp only
        congr 1
        omega
      rw [hwd]
      rw [Nat.add_comm o] at hN
      have hen := nxt_blk hc hN
      have hm := msgs_from hM hp hin hb n (k + 1) (wt c + o) (by omega) hN
      rw [kids_add, ← hen, List.map_append, hw, ← hf] at hm
      have hfin := Msgs.blk _ _ ((kids M (nxt M k) o).map (wdC M (first + a))) (M.drop (k + 1)) hgl (show (obC M (first + a) k c).kind = 1 from h1) hm
      dsimp only at hfin
      rw [← ec] at hfin
      exact hfin
    · obtain ⟨e1, e2, e3⟩ := goodC_two hg h2
      have hy := hin _ (inObs_mem.2 ⟨k, c, hc, by omega, rfl⟩)
      have hgl := getL_mem (first := first) hp hy (by dsimp only; omega)
      have hwd : wdC M (first + a) k = ((2 * (first + (a + wsum (M.take k))) : Nat) : Int) := by
        rw [wdC_place hc (by omega)]; unfold posN; rw [Nat.add_assoc]
      have ec : c = ⟨2, 0, 0, (obC M (first + a) k c).text⟩ := by
        obtain ⟨kd, tg, nn, tx⟩ := c
        dsimp only at h2 e1 e2 ⊢
        rw [h2, e1, e2]
        rfl
      rw [hwd]
      rw [wt_leaf (by omega), Nat.add_zero] at hN
      have hl := nxt_leaf hc (wt_leaf (by omega))
      rw [hl]
      have hfin := Msgs.str _ _ ((kids M (k + 1) o).map (wdC M (first + a))) (M.drop (k + 1)) hgl (show (obC M (first + a) k c).kind = 2 from h2) (msgs_from hM hp hin hb n (k + 1) o (by omega) hN)
      dsimp only at hfin
      rw [← ec] at hfin
      exact hfin
/-- what came in goes out as it -/
theorem msgs_in {first : Nat} {S : List Int} {L : List (Nat × Ob)} {M : List Cl} (h : allS first S = some L) (hM : goodM M = true) (hb : first + S.length ≤ 100000) : Msgs first (L ++ inObs M (first + S.length) S.length) [wdC M (first + S.length) 0] M := by
  have hp := objs_places (allS_some (allS_in h hM hb)).1
  have := msgs_from hM hp (fun y hy => List.mem_append_right _ hy) hb M.length 0 1 (by omega) (At.first hM)
  simpa [kids] using this
end Go.Proofs.YtppkgfcobnknfaaGreatDoor
/- Data, in plain Lean: a heap behind what came in. -/
namespace Go.Proofs.YtppkgfcobnknfaaGreatDoor
open Go Go.RowKit Arena
set_option maxRecDepth 100000
/-- the heap with so many words more -/
def hpMore (h : Hp) (k : Nat) : Hp := ⟨h.base, h.half, h.space, h.top + (k : Nat)⟩
theorem semi_run {n : Nat} {ws : List Int} {R : List (Nat × Nat)} {h : Hp} {l : List Int} (hg : Arena.Good n R) (hl : ws.length = n) (ht : thereB R h = true) (hfit : h.top + (l.length : Nat) ≤ h.half) : semi (setRun ws R h.base (topN h) l) R (hpMore h l.length) = semi ws R h ++ l := by
  obtain ⟨hok, h2⟩ := thereB_ok ht
  have hf := firstN_is hok
  have hwl := wordsAt_len hg hl h.base
  obtain ⟨a1, a2, a3, a4, a5, a6⟩ := hok
  have hff : firstN (hpMore h l.length) = firstN h := rfl
  have htn : (hpMore h l.length).top.toNat = h.top.toNat + l.length := by unfold hpMore; dsimp only; omega
  unfold semi
  rw [hff, htn]
  show ((wordsAt (setRun ws R h.base (topN h) l) R h.base).drop (firstN h)).take _ = _
  rw [wordsAt_run hg _ _ _ hl (by unfold topN; omega), setMany_eq _ _ _ (by unfold topN; omega)]
  generalize wordsAt ws R h.base = V at hwl ⊢
  have e1 : (V.take (topN h) ++ (l ++ V.drop (topN h + l.length))).drop (firstN h) = (V.drop (firstN h)).take h.top.toNat ++ (l ++ V.drop (topN h + l.length)) := by
    unfold topN
    rw [List.drop_append_of_le_length (by rw [List.length_take]; omega), List.drop_take, Nat.add_sub_cancel_left]
  rw [e1, ← List.append_assoc, List.take_left' (by rw [List.length_append, List.length_take, List.length_drop]; omega)]
theorem thereB_more {R : List (Nat × Nat)} {h : Hp} {k : Nat} (ht : thereB R h = true) (hfit : h.top + (k : Nat) ≤ h.half) : thereB R (hpMore h k) = true := by
  obtain ⟨⟨a1, a2, a3, a4, a5, a6⟩, h2⟩ := thereB_ok ht
  unfold thereB hpMore
  simp only [Bool.and_eq_true, decide_eq_true_eq]
  exact ⟨⟨a1, a2, a3, a4, by dsimp only; omega, hfit⟩, h2⟩
/-- what In makes of the arena's words -/
def inWs (ws : List Int) (R : List (Nat × Nat)) (h : Hp) (M : List Cl) : List Int := setRun ws R h.base (topN h) (inL M (topN h))
/-- does it come in -/
def inB' (ws : List Int) (R : List (Nat × Nat)) (h : Hp) (M : List Cl) : Bool := goodM M && (allH ws R h).isSome && decide (h.top + (wsum M : Nat) ≤ h.half)
theorem inB_parts {ws : List Int} {R : List (Nat × Nat)} {h : Hp} {M : List Cl} (hb : inB' ws R h M = true) : goodM M = true ∧ (∃ L, allH ws R h = some L) ∧ h.top + (wsum M : Nat) ≤ h.half := by
  unfold inB' at hb
  simp only [Bool.and_eq_true, decide_eq_true_eq] at hb
  obtain ⟨⟨h1, h2⟩, h3⟩ := hb
  exact ⟨h1, Option.isSome_iff_exists.1 h2, h3⟩
theorem inWs_len (ws : List Int) (R : List (Nat × Nat)) (h : Hp) (M : List Cl) : (inWs ws R h M).length = ws.length := setRun_len _ _ _ _ _
/-- behind it the heap holds the old objects and the new ones -/
theorem allH_in {n : Nat} {ws : List Int} {R : List (Nat × Nat)} {h : Hp} {M : List Cl} {L : List (Nat × Ob)} (hg : Arena.Good n R) (hl : ws.length = n) (ha : allH ws R h = some L) (hM : goodM M = true) (hfit : h.top + (wsum M : Nat) ≤ h.half) :
    allH (inWs ws R h M) R (hpMore h (wsum M)) = some (L ++ inObs M (topN h) h.top.toNat) := by
  obtain ⟨ht, hS⟩ := allH_there ha
  have hlen := inL_len (t := topN h) hM
  have hok := (thereB_ok ht).1
  have hf := firstN_is hok
  obtain ⟨a1, a2, a3, a4, a5, a6⟩ := hok
  have hsl := semi_len hg hl ht
  unfold allH
  rw [if_pos (thereB_more ht hfit)]
  have hs := semi_run (l := inL M (topN h)) hg hl ht (by rw [hlen]; exact hfit)
  rw [hlen] at hs
  unfold inWs
  rw [hs]
  have := allS_in hS hM (by rw [hsl]; omega)
  rw [hsl] at this
  exact this
/-- the value that came in is told as the message -/
theorem in_out {n : Nat} {ws : List Int} {R : List (Nat × Nat)} {h : Hp} {M : List Cl} {L : List (Nat × Ob)} (hg : Arena.Good n R) (hl : ws.length = n) (ha : allH ws R h = some L) (hM : goodM M = true) (_ : h.top + (wsum M : Nat) ≤ h.half) :
    Msgs (firstN h) (L ++ inObs M (topN h) h.top.toNat) [wdC M (topN h) 0] M := by
  obtain ⟨ht, hS⟩ := allH_there ha
  have hok := (thereB_ok ht).1
  have hf := firstN_is hok
  obtain ⟨a1, a2, a3, a4, a5, a6⟩ := hok
  have hsl := semi_len hg hl ht
  have := msgs_in hS hM (by rw [hsl]; omega)
  rw [hsl] at this
  exact this
end Go.Proofs.YtppkgfcobnknfaaGreatDoor
/- Data, in plain Lean: words laid object by object. -/
namespace Go.Proofs.YtppkgfcobnknfaaGreatDoor
open Go Go.RowKit Arena
set_option maxRecDepth 100000
theorem setRun_app (R : List (Nat × Nat)) (ba : Int) (b : List Int) : ∀ (a ws : List Int) (k : Nat), setRun (setRun ws R ba k a) R ba (k + a.length) b = setRun ws R ba k (a ++ b) := by
  intro a
  induction a with
  | nil => intro ws k; rfl
  | cons x a ih =>
    intro ws k
    rw [List.cons_append, setRun, setRun, ← ih, List.length_cons]
    congr 1
    omega
theorem layFrom_app {M : List Cl} {t : Nat} (b : List Cl) : ∀ (a : List Cl) (k : Nat), layFrom M t k (a ++ b) = layFrom M t k a ++ layFrom M t (k + a.length) b
  | [], k => rfl
  | c :: a, k => by
    have e : k + (c :: a).length = (k + 1) + a.length := by rw [List.length_cons]; omega
    rw [List.cons_append, layFrom, layFrom, layFrom_app b a (k + 1), List.append_assoc, e]
/-- the words of the objects ahead of a cell -/
def layTo (M : List Cl) (t k : Nat) : List Int := layFrom M t 0 (M.take k)
theorem layTo_zero (M : List Cl) (t : Nat) : layTo M t 0 = [] := rfl
theorem layTo_all (M : List Cl) (t : Nat) : layTo M t M.length = inL M t := by unfold layTo inL; rw [List.take_length]
theorem layTo_len {M : List Cl} {t : Nat} (h : goodM M = true) (k : Nat) : (layTo M t k).length = wsum (M.take k) := layFrom_len _ 0 (fun c hc => goodM_all h c (List.mem_of_mem_take hc))
theorem layTo_succ {M : List Cl} {t k : Nat} {c : Cl} (hc : M[k]? = some c) : layTo M t (k + 1) = layTo M t k ++ (if c.kind = 0 then [] else layO (obC M t k c)) := by
  obtain ⟨hk, e⟩ := List.getElem?_eq_some_iff.1 hc
  unfold layTo
  rw [List.take_succ_eq_append_getElem hk, layFrom_app, e, List.length_take, Nat.min_eq_left (by omega), Nat.zero_add]
  rw [layFrom, layFrom, List.append_nil]
theorem layTo_zero_kind {M : List Cl} {t k : Nat} {c : Cl} (hc : M[k]? = some c) (h0 : c.kind = 0) : layTo M t (k + 1) = layTo M t k := by rw [layTo_succ hc, if_pos h0, List.append_nil]
/-- one more object's words -/
theorem run_more {M : List Cl} {t k : Nat} {c : Cl} (hM : goodM M = true) (hc : M[k]? = some c) (h0 : c.kind ≠ 0) (ws : List Int) (R : List (Nat × Nat)) (ba : Int) :
    setRun (setRun ws R ba t (layTo M t k)) R ba (posN M t k) (layO (obC M t k c)) = setRun ws R ba t (layTo M t (k + 1)) := by
  rw [layTo_succ hc, if_neg h0, ← setRun_app, layTo_len hM]
  rfl
theorem posN_zero (M : List Cl) (t : Nat) : posN M t 0 = t := by unfold posN; simp [wsum]
theorem posN_succ {M : List Cl} {t k : Nat} {c : Cl} (hc : M[k]? = some c) : posN M t (k + 1) = posN M t k + cw c := by
  unfold posN; rw [wsum_take hc, Nat.add_assoc]
end Go.Proofs.YtppkgfcobnknfaaGreatDoor
/- data.lay: an object's words are set, one behind the other. -/
namespace Go.Proofs.YtppkgfcobnknfaaGreatDoor
open Go.RowKit Arena
set_option maxHeartbeats 8000000
set_option maxRecDepth 100000
theorem layblk {w w' : World} {g b : Nat} {o : Obj} (h : w.heap[b]? = some o) (t : Turn [g] w w') (hn : b ≠ g) : w'.heap[b]? = some o := (t.block b (Array.getElem?_eq_some_iff.1 h).1 (by simpa using hn)).trans h
/-- what lay leaves -/
def LaySaid (ws : List Int) (R : List (Nat × Nat)) (p g bm n : Nat) (ba : Int) (at_ : Nat) (l : List Int) (w : World) (e : Ending) (w' : World) : Prop :=
  e = .returned (.tuple #[]) ∧ ArenaAt w' p g bm n (setRun ws R ba at_ l) R ∧ Turn [g] w w'
theorem take_snoc {l : List Int} {k : Nat} {x : Int} (h : l[k]? = some x) : l.take (k + 1) = l.take k ++ [x] := by
  obtain ⟨hk, e⟩ := List.getElem?_eq_some_iff.1 h
  rw [List.take_succ_eq_append_getElem hk, e]
theorem dlay_row {w : World} {p g bm n : Nat} {ws : List Int} {R : List (Nat × Nat)} (H : ArenaAt w p g bm n ws R) (h : Hp) (hw : (Lit.int .i64 h.base).wf = true) (o : Ob) (hm : mayO o = true) (h2 : o.kind ≠ 2) (c : Nat) (q : Option Addr)
    (hF : RowStay w g (.slice q o.fields.length c) (o.fields.map wordC)) (at_ : Nat) (hat : at_ ≤ 100000) :
    Calls Tryz.prog 35 #[.pointer (some ⟨p, 0, none⟩), .agg #[.int .i64 h.base, .int .i64 h.half, .int .i64 h.space, .int .i64 h.top], .int .i64 at_, .agg #[.int .i64 o.kind, .int .i64 o.tag, .slice q o.fields.length c, .string o.text]] w (LaySaid ws R p g bm n h.base at_ (layO o) w) := by
  have hl : layO o = headO o :: o.fields := by unfold layO bodyO; rw [if_neg h2]
  rw [hl]
  have HH := Lib.hid H
  obtain ⟨lp, lg, lm⟩ := H.lt
  have hfl : o.fields.length ≤ 1000 := by have := mayK_bounds (show mayK o.kind o.tag o.fields.length o.text.size = true from hm); omega
  have HHd := Lib.hid (fun W => head_yes o.kind o.tag o.fields.length c q o.text W (by omega) hm)
  rw [show headK o.kind o.tag o.fields.length o.text.size = headO o from rfl] at HHd
  have HF := Lib.hid hF
  have k2 : (o.kind == 2) = false := beq_false_of_ne h2
  have k2' : (o.kind != 2) = true := by simp [h2]
  have HW := Lib.hid hw
  clear hl H hm h2 hF hw
  obtain ⟨ba, ha, sp, tp⟩ := h
  obtain ⟨kd, tg, F, tx⟩ := o
  dsimp only at *
  generalize headO ⟨kd, tg, F, tx⟩ = hd at *
  go_enter Tryz.func35, Tryz.ntmps35
  go_upto_region 1 with fail
  refine wp_alloc2 fun W hE hS b0 b1 => ?_
  obtain ⟨x0, x1, x2, x3⟩ := cells4 b0
  obtain ⟨y0, y1, y2, y3⟩ := cells4 b1
  have B0 := Lib.hid b0; have B1 := Lib.hid b1; have HE := Lib.hid hE
  have hgw : g < W.heap.size := by omega
  clear b0 b1
  go_wp2_with fail
  refine (HHd.out _).mono ?_
  rintro e w1 ⟨rfl, hx1⟩
  have hx := HE.out.trans hx1
  have c0 := (Below.block hx1 w.heap.size (by omega)).trans B0.out
  have c1 := (Below.block hx1 (w.heap.size + 1) (by omega)).trans B1.out
  have H1 := Lib.hid (HH.out.ext hx)
  have HX := Lib.hid hx
  clear x0 x1 x2 x3 y0 y1 y2 y3 B0 B1 HE hx hx1 hgw HHd
  obtain ⟨x0, x1, x2, x3⟩ := cells4 c0
  have C0 := Lib.hid c0; have C1 := Lib.hid c1
  clear c0 c1
  go_wp2_with fail
  refine (setA_said H1.out HW.out).mono ?_
  rintro e w2 ⟨rfl, h2, t2⟩
  have c0 := layblk C0.out t2 (by omega)
  have c1 := layblk C1.out t2 (by omega)
  have H2 := Lib.hid h2
  have T2 := Lib.hid (Turn.trans (Turn.of_ext HX.out) t2)
  clear x0 x1 x2 x3 t2 C0 C1 H1 HX h2 hE hS
  obtain ⟨y0, y1, y2, y3⟩ := cells4 c1
  have C0 := Lib.hid c0; have C1 := Lib.hid c1
  clear c0 c1
  go_upto_block 4 with fail
  generalize within R ba at_ = wb at *
  go_loopw [29] (fun i wr => ∃ j : Nat, j ≤ F.length ∧ i = .int .i64 j ∧ ArenaAt wr p g bm n (setRun ws R ba at_ (hd :: F.take j)) R ∧ Turn [g] w2 wr) (fun i _ => F.length - (Go.RowKit.intOf i).toNat)
  case atStart => exact ⟨0, by omega, rfl, H2.out, Turn.refl _ _⟩
  case round =>
    obtain ⟨j, hj, rfl, hA, ht⟩ := hrel
    have c0 := layblk C0.out ht (by omega)
    have c1 := layblk C1.out ht (by omega)
    have HA := Lib.hid hA
    have HT := Lib.hid (Turn.trans T2.out ht)
    have HT1 := Lib.hid ht
    clear hA ht y0 y1 y2 y3
    by_cases hlt : j < F.length
    · obtain ⟨x, hx⟩ : ∃ x, F[j]? = some x := ⟨_, List.getElem?_eq_getElem hlt⟩
      have hr := HF.out wr HT.out
      obtain ⟨q', c', hv, -, -, hcell⟩ := hr.at
      obtain ⟨b, off, rfl, hc⟩ := hcell j (wordC x) (by rw [List.getElem?_map, hx]; rfl)
      obtain ⟨rfl, -, -⟩ := Value.slice.inj hv
      have z0 := hc 0 _ rfl
      rw [Nat.add_zero, Nat.mul_one] at z0
      have i1 : (j : Int) < (F.length : Int) := by omega
      have HS := Lib.hid (take_snoc hx)
      obtain ⟨x0, x1, x2, x3⟩ := cells4 c0
      clear hr hcell hc hv hx c0 c1
      go_wp2_with fail
      refine (setA_said HA.out HW.out).mono ?_
      rintro e w3 ⟨rfl, h3, t3⟩
      have H3 := Lib.hid h3
      have T3 := Lib.hid (Turn.trans HT1.out t3)
      clear h3 t3 x0 x1 x2 x3 z0
      go_wp2_with fail
      refine ⟨⟨j + 1, by omega, by go_num, ?_, T3.out⟩, by simp [Go.RowKit.intOf]; omega⟩
      have e := setRun_snoc R ba x (hd :: F.take j) ws at_
      rw [HS.out, ← List.cons_append, e]
      have hlen : ((at_ + (hd :: F.take j).length : Nat) : Int) = (at_ : Int) + 1 + j := by simp; omega
      rw [hlen]
      exact H3.out
    · obtain rfl : j = F.length := by omega
      rw [List.take_length] at HA
      obtain ⟨y0, y1, y2, y3⟩ := cells4 c1
      clear c0 c1
      go_wp2_with fail
      go_end0
      exact ⟨rfl, HA.out, HT.out⟩
theorem pieceN_end {l : List UInt8} {j e : Nat} (he : e = min (8 * j + 8) l.length) : pieceN (l.take e) j = pieceN l j := by
  unfold pieceN
  rw [List.drop_take, List.take_take]
  congr 2
  rcases Nat.le_total (8 * j + 8) l.length with h | h
  · rw [show min 8 (e - 8 * j) = 8 by omega]
  · have h1 : (l.drop (8 * j)).length ≤ min 8 (e - 8 * j) := by rw [List.length_drop]; omega
    have h2 : (l.drop (8 * j)).length ≤ 8 := by rw [List.length_drop]; omega
    rw [List.take_of_length_le h1, List.take_of_length_le h2]
theorem pieceN_zero {l : List UInt8} {j : Nat} : pieceN (l.take (8 * j + 0)) j = 0 := by
  unfold pieceN
  rw [Nat.add_zero, List.drop_eq_nil_of_le (by rw [List.length_take]; omega)]
  rfl
theorem shl_byte {b : Nat} (hb : b < 256) {r : Nat} (hr : r < 8) : IntKind.u64.wrap (IntKind.u64.wrap (b : Int) * 2 ^ (8 * r)) = ((b * 256 ^ r : Nat) : Int) := by
  rw [wrapu_of (x := (b : Int)) (by omega) (by omega)]
  rcases (show r = 0 ∨ r = 1 ∨ r = 2 ∨ r = 3 ∨ r = 4 ∨ r = 5 ∨ r = 6 ∨ r = 7 by omega) with rfl | rfl | rfl | rfl | rfl | rfl | rfl | rfl <;> (rw [wrapu_of (by omega) (by omega)]; omega)
theorem or_piece {tx : ByteArray} {j r : Nat} (h : 8 * j + r < tx.size) (hr : r < 8) : bits .or .u64 (pieceN (tx.data.toList.take (8 * j + r)) j) (IntKind.u64.wrap (IntKind.u64.wrap ((tx[8 * j + r]'h).toNat : Int) * 2 ^ (8 * r))) = pieceN (tx.data.toList.take (8 * j + r + 1)) j := by
  have hS : tx.data.toList.length = tx.size := Array.length_toList
  have hxk := List.getElem?_eq_getElem (l := tx.data.toList) (i := 8 * j + r) (by omega)
  have hb : (tx[8 * j + r]'h) = tx.data.toList[8 * j + r]'(by omega) := rfl
  rw [hb]
  generalize tx.data.toList[8 * j + r]'(by omega) = x at hxk ⊢
  have hP := pieceN_here hxk
  rw [show (8 * j + r) / 8 = j by omega, show (8 * j + r) % 8 = r by omega] at hP
  rw [shl_byte x.toNat_lt hr, hP.1]
  obtain ⟨a, ha⟩ := Int.eq_ofNat_of_zero_le hP.2.1
  have hp2 := hP.2.2
  rw [ha] at hp2 ⊢
  exact or_shl x.toNat_lt hr (by exact_mod_cast hp2)
theorem pieces_at {l : List UInt8} {j : Nat} (h : j < (l.length + 7) / 8) : (pieces l)[j]? = some (pieceN l j) := by
  unfold pieces
  rw [List.getElem?_map, List.getElem?_range h]
  rfl
theorem pieces_len (l : List UInt8) : (pieces l).length = (l.length + 7) / 8 := by unfold pieces; simp
theorem dlay_text {w : World} {p g bm n : Nat} {ws : List Int} {R : List (Nat × Nat)} (H : ArenaAt w p g bm n ws R) (h : Hp) (hw : (Lit.int .i64 h.base).wf = true) (tx : ByteArray) (hs : tx.size ≤ 400) (q : Option Addr) (c : Nat) (at_ : Nat) (hat : at_ ≤ 100000) :
    Calls Tryz.prog 35 #[.pointer (some ⟨p, 0, none⟩), .agg #[.int .i64 h.base, .int .i64 h.half, .int .i64 h.space, .int .i64 h.top], .int .i64 at_, .agg #[.int .i64 2, .int .i64 0, .slice q 0 c, .string tx]] w (LaySaid ws R p g bm n h.base at_ (layO ⟨2, 0, [], tx⟩) w) := by
  have hm : mayK 2 0 0 tx.size = true := by unfold mayK; simp [hs]
  have hl : layO ⟨2, 0, [], tx⟩ = headK 2 0 0 tx.size :: pieces tx.data.toList := rfl
  rw [hl]
  have HH := Lib.hid H
  obtain ⟨lp, lg, lm⟩ := H.lt
  have HHd := Lib.hid (fun W => head_yes 2 0 0 c q tx W (by omega) hm)
  have HW := Lib.hid hw
  have hSz : tx.data.toList.length = tx.size := Array.length_toList
  have HSz := Lib.hid hSz
  clear hl H hm hw hSz
  obtain ⟨ba, ha, sp, tp⟩ := h
  dsimp only at *
  generalize headK 2 0 0 tx.size = hd at *
  obtain ⟨m, hmm⟩ : ∃ m : Nat, m = (tx.size + 7) / 8 := ⟨_, rfl⟩
  have HM := Lib.hid hmm
  have hm50 : m ≤ 50 := by omega
  clear hmm
  go_enter Tryz.func35, Tryz.ntmps35
  go_upto_region 1 with fail
  refine wp_alloc2 fun W hE hS b0 b1 => ?_
  obtain ⟨x0, x1, x2, x3⟩ := cells4 b0
  obtain ⟨y0, y1, y2, y3⟩ := cells4 b1
  have B0 := Lib.hid b0; have B1 := Lib.hid b1; have HE := Lib.hid hE
  have hgw : g < W.heap.size := by omega
  clear b0 b1
  go_wp2_with fail
  refine (HHd.out _).mono ?_
  rintro e w1 ⟨rfl, hx1⟩
  have hx := HE.out.trans hx1
  have c0 := (Below.block hx1 w.heap.size (by omega)).trans B0.out
  have c1 := (Below.block hx1 (w.heap.size + 1) (by omega)).trans B1.out
  have H1 := Lib.hid (HH.out.ext hx)
  have HX := Lib.hid hx
  clear x0 x1 x2 x3 y0 y1 y2 y3 B0 B1 HE hx hx1 hgw HHd
  obtain ⟨x0, x1, x2, x3⟩ := cells4 c0
  have C0 := Lib.hid c0; have C1 := Lib.hid c1
  clear c0 c1
  go_wp2_with fail
  refine (setA_said H1.out HW.out).mono ?_
  rintro e w2 ⟨rfl, h2, t2⟩
  have c0 := layblk C0.out t2 (by omega)
  have c1 := layblk C1.out t2 (by omega)
  have H2 := Lib.hid h2
  have T2 := Lib.hid (Turn.trans (Turn.of_ext HX.out) t2)
  clear x0 x1 x2 x3 t2 C0 C1 H1 HX h2 hE hS
  obtain ⟨y0, y1, y2, y3⟩ := cells4 c1
  have C0 := Lib.hid c0; have C1 := Lib.hid c1
  clear c0 c1
  generalize within R ba at_ = wb at *
  go_upto_block 4 with fail
  go_loopw [29] (fun i wr => i = .int .i64 0 ∧ wr = w2) (fun _ _ => 0)
  case atStart => exact ⟨rfl, by first | rfl | trivial⟩
  case round =>
    obtain ⟨rfl, rfl⟩ := hrel
    go_wp2_with fail
    generalize hwo : wr = wo at *
    clear hwo y0 y1 y2 y3
    go_loopw [12] (fun i wr => ∃ j : Nat, j ≤ m ∧ i = .int .i64 (8 * (j : Int)) ∧ ArenaAt wr p g bm n (setRun ws R ba at_ (hd :: (pieces tx.data.toList).take j)) R ∧ Turn [g] wo wr) (fun i _ => 8 * m - (Go.RowKit.intOf i).toNat)
    case atStart => exact ⟨0, by omega, rfl, H2.out, Turn.refl _ _⟩
    case round =>
      obtain ⟨j, hj, rfl, hA, ht⟩ := hrel
      have c0 := layblk C0.out ht (by omega)
      have c1 := layblk C1.out ht (by omega)
      have HA := Lib.hid hA
      have HT := Lib.hid (Turn.trans T2.out ht)
      have HT1 := Lib.hid ht
      clear hA ht
      obtain ⟨y0, y1, y2, y3⟩ := cells4 c1
      have CC0 := Lib.hid c0; have CC1 := Lib.hid c1
      clear c0 c1
      by_cases hlt : j < m
      · have h8 : 8 * j < tx.size := by have := HM.out; omega
        have i1 : ((8 * j : Nat) : Int) < (tx.size : Int) := by omega
        have i1' : 8 * (j : Int) < (tx.size : Int) := by omega
        obtain ⟨e, he⟩ : ∃ e, e = min (8 * j + 8) tx.size := ⟨_, rfl⟩
        have HEE := Lib.hid he
        have heb : 8 * j < e ∧ e ≤ 8 * j + 8 ∧ e ≤ tx.size := by omega
        clear he
        go_wp2_with fail
        generalize hwp : wr = wp at *
        clear hwp y0 y1 y2 y3
        go_loopw [13, 14] (fun s i wr => ∃ r : Nat, 8 * j + r ≤ e ∧ i = .int .i64 (8 * (j : Int) + (r : Int)) ∧ s = .int .u64 (pieceN (tx.data.toList.take (8 * j + r)) j) ∧ wr = wp) (fun _ i _ => e - (Go.RowKit.intOf i).toNat)
        case atStart => exact ⟨0, by omega, by simp, by rw [pieceN_zero], by first | rfl | trivial⟩
        case round =>
          obtain ⟨r, hr, rfl, rfl, rfl⟩ := hrel
          obtain ⟨y0, y1, y2, y3⟩ := cells4 CC1.out
          by_cases hlt2 : 8 * j + r < e
          · have hkl : 8 * j + r < tx.data.toList.length := by rw [HSz.out]; omega
            have hxk := List.getElem?_eq_getElem hkl
            have hlts : 8 * j + r < tx.size := by omega
            have h1 : ((8 * j + r : Nat) : Int) < (tx.size : Int) := by omega
            have h2 : ((8 * j + r : Nat) : Int) < ((8 * j : Nat) : Int) + 8 := by omega
            have h3 : 8 * (j : Int) + (r : Int) < 8 * (j : Int) + 8 := by omega
            have h4 : 8 * (j : Int) + (r : Int) < (tx.size : Int) := by omega
            have HOR := Lib.hid (or_piece hlts (by omega : r < 8))
            clear hxk hkl
            by_cases h5 : 8 * j + 8 ≤ tx.size
            · have h5' : 8 * (j : Int) + 8 ≤ (tx.size : Int) := by omega
              go_wp2_with fail
              rw [HOR.out]
              exact ⟨⟨r + 1, by omega, by rw [show 8 * (j : Int) + ((r + 1 : Nat) : Int) = 8 * (j : Int) + r + 1 by omega], rfl, by first | rfl | trivial⟩, by simp [Go.RowKit.intOf]; omega⟩
            · have h5' : ¬ 8 * (j : Int) + 8 ≤ (tx.size : Int) := by omega
              go_wp2_with fail
              rw [HOR.out]
              exact ⟨⟨r + 1, by omega, by rw [show 8 * (j : Int) + ((r + 1 : Nat) : Int) = 8 * (j : Int) + r + 1 by omega], rfl, by first | rfl | trivial⟩, by simp [Go.RowKit.intOf]; omega⟩
          · have hre : 8 * j + r = e := by omega
            have hpe : pieceN (tx.data.toList.take (8 * j + r)) j = pieceN tx.data.toList j := by rw [hre]; exact pieceN_end (by rw [HSz.out]; exact HEE.out)
            rw [hpe]
            have hpa : (pieces tx.data.toList)[j]? = some (pieceN tx.data.toList j) := pieces_at (by rw [HSz.out, ← HM.out]; exact hlt)
            have HS := Lib.hid (take_snoc hpa)
            have hpl : (pieces tx.data.toList).length = m := by rw [pieces_len, HSz.out, ← HM.out]
            have HPL := Lib.hid hpl
            obtain ⟨x0, x1, x2, x3⟩ := cells4 CC0.out
            clear hpe hpa hpl
            by_cases h5 : 8 * j + 8 ≤ tx.size
            · have h5' : 8 * (j : Int) + 8 ≤ (tx.size : Int) := by omega
              have h6 : ¬ 8 * (j : Int) + (r : Int) < 8 * (j : Int) + 8 := by have := HEE.out; omega
              have h7 : ¬ (r : Int) < 8 := by have := HEE.out; omega
              go_wp2_with fail
              refine (setA_said HA.out HW.out).mono ?_
              rintro e' w3 ⟨rfl, h3, t3⟩
              have H3 := Lib.hid h3
              have T3 := Lib.hid (Turn.trans HT1.out t3)
              clear h3 t3 x0 x1 x2 x3
              go_wp2_with fail
              refine ⟨⟨j + 1, by omega, by rw [show 8 * ((j + 1 : Nat) : Int) = 8 * (j : Int) + 8 by omega], ?_, T3.out⟩, by simp [Go.RowKit.intOf]; omega⟩
              have e1 := setRun_snoc R ba (pieceN tx.data.toList j) (hd :: (pieces tx.data.toList).take j) ws at_
              rw [HS.out, ← List.cons_append, e1]
              have hlen : ((at_ + (hd :: (pieces tx.data.toList).take j).length : Nat) : Int) = (at_ : Int) + 1 + (j : Int) := by simp [HPL.out]; omega
              rw [hlen]
              exact H3.out
            · have h5' : ¬ 8 * (j : Int) + 8 ≤ (tx.size : Int) := by omega
              have h6 : ¬ 8 * (j : Int) + (r : Int) < (tx.size : Int) := by have := HEE.out; omega
              go_wp2_with fail
              refine (setA_said HA.out HW.out).mono ?_
              rintro e' w3 ⟨rfl, h3, t3⟩
              have H3 := Lib.hid h3
              have T3 := Lib.hid (Turn.trans HT1.out t3)
              clear h3 t3 x0 x1 x2 x3
              go_wp2_with fail
              refine ⟨⟨j + 1, by omega, by rw [show 8 * ((j + 1 : Nat) : Int) = 8 * (j : Int) + 8 by omega], ?_, T3.out⟩, by simp [Go.RowKit.intOf]; omega⟩
              have e1 := setRun_snoc R ba (pieceN tx.data.toList j) (hd :: (pieces tx.data.toList).take j) ws at_
              rw [HS.out, ← List.cons_append, e1]
              have hlen : ((at_ + (hd :: (pieces tx.data.toList).take j).length : Nat) : Int) = (at_ : Int) + 1 + (j : Int) := by simp [HPL.out]; omega
              rw [hlen]
              exact H3.out
      · obtain rfl : j = m := by omega
        have i1 : ¬ 8 * (j : Int) < (tx.size : Int) := by have := HM.out; omega
        rw [List.take_of_length_le (by rw [pieces_len, HSz.out, ← HM.out]; exact Nat.le_refl _)] at HA
        go_wp2_with fail
        go_end0
        exact ⟨rfl, HA.out, HT.out⟩
end Go.Proofs.YtppkgfcobnknfaaGreatDoor
/- Small walks: a cell that may be. -/
namespace Go.Proofs.YtppkgfcobnknfaaGreatDoor
open Go.RowKit
set_option maxHeartbeats 4000000
set_option maxRecDepth 100000
theorem wordWrap_is (v : Int) (w : World) : Calls Tryz.prog 65 #[.int .i64 v] w fun e w' => e = .returned (.int .i64 (wrapW v)) ∧ w = w' := by
  go_enter Tryz.func65, Tryz.ntmps65
  go_wp2
  go_ret
  exact ⟨rfl, rfl⟩
theorem refWrap_is (v : Int) (w : World) : Calls Tryz.prog 37 #[.int .i64 v] w fun e w' => e = .returned (.int .i64 (wrapW v)) ∧ w = w' := by
  go_enter Tryz.func37, Tryz.ntmps37
  go_wp2
  go_ret
  exact ⟨rfl, rfl⟩
theorem run_equal_cell (a b c a' b' c' : Int) (s s' : ByteArray) (w : World) : (Op.equalIn 10000 51 (.agg #[.int .i64 a, .int .i64 b, .int .i64 c, .string s]) (.agg #[.int .i64 a', .int .i64 b', .int .i64 c', .string s'])).run Tryz.prog w = .ok ((a == a') && (b == b') && (c == c') && (s.toList == s'.toList)) w := by
  have hf : Tryz.prog.fieldsOf 51 = Tryz.prog.fieldsOf 51 := rfl
  rw [show (10000 : Nat) = 9999 + 1 by rfl, run_equalIn_struct w 9999 51 _ _ (by kernel_rfl) (by kernel_rfl)]
  by_cases h1 : a = a' <;> by_cases h2 : b = b' <;> by_cases h3 : c = c' <;> by_cases h4 : s.toList = s'.toList <;> simp [go_sem, h1, h2, h3, h4]
theorem bempty_of {s : ByteArray} (h : s.size = 0) : s = ByteArray.empty := ByteArray.size_eq_zero_iff.1 h
theorem bhsb (s : ByteArray) : s.toList.isEmpty = true ↔ s.size = 0 := by
  rw [ByteArray.toList_eq]; obtain ⟨⟨l⟩⟩ := s; simp [ByteArray.size]
theorem good_zero (tag n : Int) (s : ByteArray) (w : World) : Calls Tryz.prog 51 #[.agg #[.int .i64 0, .int .i64 tag, .int .i64 n, .string s]] w fun e w' => e = .returned (.bool (goodC ⟨0, tag, n, s⟩)) ∧ Ext w w' := by
  by_cases h1 : tag = 0
  · subst h1
    by_cases h2 : n = wrapW n
    · have e1 : (n == wrapW n) = true := beq_iff_eq.2 h2
      by_cases h3 : s.size = 0
      · obtain rfl := bempty_of h3
        have hg : goodC ⟨0, 0, n, ByteArray.empty⟩ = true := by unfold goodC; simp; exact h2
        rw [hg]
        clear h2 h3 hg
        go_enter Tryz.func51, Tryz.ntmps51
        go_upto_region 3 with fail
        refine wp_alloc1 fun W hE _ b0 => ?_
        obtain ⟨x0, x1, x2, x3⟩ := cells4 b0
        have r0 := fun d os => cell_regrown x0 d os
        have r1 := fun d os => cell_regrown x1 d os
        have r2 := fun d os => cell_regrown x2 d os
        have r3 := fun d os => cell_regrown x3 d os
        have cW := fun d os => quiet_same (wordWrap_is n (Go.Sort.grow (redrawn W d) os))
        have CW := Lib.hid cW
        have HE := Lib.hid hE
        clear cW x0 x1 x2 x3 b0 hE
        refine wp_region_quiet_below (by kernel_rfl) (by kernel_rfl) ?_
        repeat (first | go_big_quiet_step (exact CW.out _ _) | quiet_step (exact CW.out _ _))
        refine wpQuiet_nil ?_
        intro _ hw'
        obtain ⟨⟨dq, osq⟩, hw''⟩ := hw'
        subst hw''
        have HXQ := Lib.hid (Ext.regrown W dq osq)
        clear r0 r1 r2 r3
        go_wp2
        go_ret
        exact ⟨by rfl, HE.out.trans HXQ.out⟩
      · have hg : goodC ⟨0, 0, n, s⟩ = false := by unfold goodC; simp; intro _ h; exact h3 (by rw [h]; rfl)
        rw [hg]
        have e2 : s.toList.isEmpty = false := by
          cases hh : s.toList.isEmpty with
          | false => rfl
          | true => exact absurd (bhsb s |>.1 hh) h3
        clear h2 h3 hg
        go_enter Tryz.func51, Tryz.ntmps51
        go_upto_region 3 with fail
        refine wp_alloc1 fun W hE _ b0 => ?_
        obtain ⟨x0, x1, x2, x3⟩ := cells4 b0
        have r0 := fun d os => cell_regrown x0 d os
        have r1 := fun d os => cell_regrown x1 d os
        have r2 := fun d os => cell_regrown x2 d os
        have r3 := fun d os => cell_regrown x3 d os
        have cW := fun d os => quiet_same (wordWrap_is n (Go.Sort.grow (redrawn W d) os))
        have CW := Lib.hid cW
        have HE := Lib.hid hE
        clear cW x0 x1 x2 x3 b0 hE
        refine wp_region_quiet_below (by kernel_rfl) (by kernel_rfl) ?_
        repeat (first | go_big_quiet_step (exact CW.out _ _) | quiet_step (exact CW.out _ _))
        refine wpQuiet_nil ?_
        intro _ hw'
        obtain ⟨⟨dq, osq⟩, hw''⟩ := hw'
        subst hw''
        have HXQ := Lib.hid (Ext.regrown W dq osq)
        clear r0 r1 r2 r3
        go_wp2
        go_ret
        exact ⟨by rfl, HE.out.trans HXQ.out⟩
    · have e1 : (n == wrapW n) = false := beq_false_of_ne h2
      have hg : goodC ⟨0, 0, n, s⟩ = false := by unfold goodC; simp; intro h; exact absurd h h2
      rw [hg]
      clear h2 hg
      go_enter Tryz.func51, Tryz.ntmps51
      go_upto_region 3 with fail
      refine wp_alloc1 fun W hE _ b0 => ?_
      obtain ⟨x0, x1, x2, x3⟩ := cells4 b0
      have r0 := fun d os => cell_regrown x0 d os
      have r1 := fun d os => cell_regrown x1 d os
      have r2 := fun d os => cell_regrown x2 d os
      have r3 := fun d os => cell_regrown x3 d os
      have cW := fun d os => quiet_same (wordWrap_is n (Go.Sort.grow (redrawn W d) os))
      have CW := Lib.hid cW
      have HE := Lib.hid hE
      clear cW x0 x1 x2 x3 b0 hE
      refine wp_region_quiet_below (by kernel_rfl) (by kernel_rfl) ?_
      repeat (first | go_big_quiet_step (exact CW.out _ _) | quiet_step (exact CW.out _ _))
      refine wpQuiet_nil ?_
      intro _ hw'
      obtain ⟨⟨dq, osq⟩, hw''⟩ := hw'
      subst hw''
      have HXQ := Lib.hid (Ext.regrown W dq osq)
      clear r0 r1 r2 r3
      go_wp2
      go_ret
      exact ⟨by rfl, HE.out.trans HXQ.out⟩
  · have e1 : (tag == 0) = false := beq_false_of_ne h1
    have hg : goodC ⟨0, tag, n, s⟩ = false := by unfold goodC; simp; intro h; exact absurd h h1
    rw [hg]
    clear h1 hg
    go_enter Tryz.func51, Tryz.ntmps51
    go_upto_region 3 with fail
    refine wp_alloc1 fun W hE _ b0 => ?_
    obtain ⟨x0, x1, x2, x3⟩ := cells4 b0
    have r0 := fun d os => cell_regrown x0 d os
    have r1 := fun d os => cell_regrown x1 d os
    have r2 := fun d os => cell_regrown x2 d os
    have r3 := fun d os => cell_regrown x3 d os
    have cW := fun d os => quiet_same (wordWrap_is n (Go.Sort.grow (redrawn W d) os))
    have CW := Lib.hid cW
    have HE := Lib.hid hE
    clear cW x0 x1 x2 x3 b0 hE
    refine wp_region_quiet_below (by kernel_rfl) (by kernel_rfl) ?_
    repeat (first | go_big_quiet_step (exact CW.out _ _) | quiet_step (exact CW.out _ _))
    refine wpQuiet_nil ?_
    intro _ hw'
    obtain ⟨⟨dq, osq⟩, hw''⟩ := hw'
    subst hw''
    have HXQ := Lib.hid (Ext.regrown W dq osq)
    clear r0 r1 r2 r3
    go_wp2
    go_ret
    exact ⟨by rfl, HE.out.trans HXQ.out⟩
theorem good_one (tag n : Int) (s : ByteArray) (w : World) : Calls Tryz.prog 51 #[.agg #[.int .i64 1, .int .i64 tag, .int .i64 n, .string s]] w fun e w' => e = .returned (.bool (goodC ⟨1, tag, n, s⟩)) ∧ Ext w w' := by
  by_cases h3 : s.size = 0
  · obtain rfl := bempty_of h3
    have hg : goodC ⟨1, tag, n, ByteArray.empty⟩ = (decide (0 ≤ tag) && decide (tag ≤ 255) && decide (1 ≤ n) && decide (n ≤ 8)) := by
      unfold goodC; simp [Bool.and_assoc]
    rw [hg]
    clear h3 hg
    by_cases t1 : 0 ≤ tag
    · by_cases t2 : tag ≤ 255
      · by_cases t3 : 1 ≤ n
        · by_cases t4 : n ≤ 8
          all_goals
            go_enter Tryz.func51, Tryz.ntmps51
            go_wp2
            go_ret
            exact ⟨by simp [t1, t2, t3, t4], Ext.alloc _ _⟩
        · go_enter Tryz.func51, Tryz.ntmps51
          go_wp2
          go_ret
          exact ⟨by simp; omega, Ext.alloc _ _⟩
      · go_enter Tryz.func51, Tryz.ntmps51
        go_wp2
        go_ret
        exact ⟨by simp; omega, Ext.alloc _ _⟩
    · go_enter Tryz.func51, Tryz.ntmps51
      go_wp2
      go_ret
      exact ⟨by simp; omega, Ext.alloc _ _⟩
  · have hg : goodC ⟨1, tag, n, s⟩ = false := by unfold goodC; simp; intro h; exact absurd (by rw [h]; rfl) h3
    rw [hg]
    have e2 : s.toList.isEmpty = false := by
      cases hh : s.toList.isEmpty with
      | false => rfl
      | true => exact absurd (bhsb s |>.1 hh) h3
    clear h3 hg
    go_enter Tryz.func51, Tryz.ntmps51
    go_wp2
    go_ret
    exact ⟨rfl, Ext.alloc _ _⟩
theorem good_two (tag n : Int) (s : ByteArray) (w : World) : Calls Tryz.prog 51 #[.agg #[.int .i64 2, .int .i64 tag, .int .i64 n, .string s]] w fun e w' => e = .returned (.bool (goodC ⟨2, tag, n, s⟩)) ∧ Ext w w' := by
  by_cases h1 : tag = 0
  · subst h1
    by_cases h2 : n = 0
    · subst h2
      by_cases h3 : s.size ≤ 400
      · have hg : goodC ⟨2, 0, 0, s⟩ = true := by unfold goodC; simp; exact h3
        rw [hg]
        clear hg
        go_enter Tryz.func51, Tryz.ntmps51
        go_wp2
        go_ret
        exact ⟨by simp; omega, Ext.alloc _ _⟩
      · have hg : goodC ⟨2, 0, 0, s⟩ = false := by unfold goodC; simp; omega
        rw [hg]
        clear hg
        go_enter Tryz.func51, Tryz.ntmps51
        go_wp2
        go_ret
        exact ⟨by simp; omega, Ext.alloc _ _⟩
    · have e1 : (n == 0) = false := beq_false_of_ne h2
      have hg : goodC ⟨2, 0, n, s⟩ = false := by unfold goodC; simp; intro h; exact absurd h h2
      rw [hg]
      clear h2 hg
      go_enter Tryz.func51, Tryz.ntmps51
      go_wp2
      go_ret
      exact ⟨rfl, Ext.alloc _ _⟩
  · have e1 : (tag == 0) = false := beq_false_of_ne h1
    have hg : goodC ⟨2, tag, n, s⟩ = false := by unfold goodC; simp; intro h; exact absurd h h1
    rw [hg]
    clear h1 hg
    go_enter Tryz.func51, Tryz.ntmps51
    go_wp2
    go_ret
    exact ⟨rfl, Ext.alloc _ _⟩
theorem bgood_is (x : Cl) (w : World) : Calls Tryz.prog 51 #[.agg #[.int .i64 x.kind, .int .i64 x.tag, .int .i64 x.n, .string x.text]] w fun e w' => e = .returned (.bool (goodC x)) ∧ Ext w w' := by
  obtain ⟨k, tag, n, s⟩ := x
  by_cases h0 : k = 0
  · subst h0; exact good_zero tag n s w
  · by_cases h1 : k = 1
    · subst h1; exact good_one tag n s w
    · by_cases h2 : k = 2
      · subst h2; exact good_two tag n s w
      · have hg : goodC ⟨k, tag, n, s⟩ = false := by unfold goodC; simp only; rw [if_neg h0, if_neg h1, if_neg h2]
        rw [hg]
        have e0 : (k == 0) = false := beq_false_of_ne h0
        have e1 : (k == 1) = false := beq_false_of_ne h1
        have e2 : (k == 2) = false := beq_false_of_ne h2
        clear h0 h1 h2 hg
        go_enter Tryz.func51, Tryz.ntmps51
        go_wp2
        go_ret
        exact ⟨rfl, Ext.alloc _ _⟩
end Go.Proofs.YtppkgfcobnknfaaGreatDoor
