/- Proved here: the contracts and laws of ObjRB, Both, RigP, ObjLC, HpP, GcP, GcQ, GcR, GcS, GcT, GcB, GcA of this claim, each beneath its own remark; conditions: those that each theorem names. -/
import Derived.Test.YtgiopklnielglaaDoorM7
import Derived.Test.YtgiopklnielglaaDoorM5
import Derived.Test.YtgiopklnielglaaDoorM6
import Derived.Test.YtgiopklnielglaaDoorM2
import Derived.Deep.RegionHeld3
/- keep.Object, keep.OwnWords, keep.OwnObject. -/
namespace Go.Proofs.YtgiopklnielglaaDoor
open Go.RowKit Go.Maps
set_option maxHeartbeats 2000000
set_option maxRecDepth 100000
theorem bytes_inj {s t : ByteArray} (h : s.toList = t.toList) : s = t := by
  rw [ByteArray.toList_eq, ByteArray.toList_eq] at h
  obtain ⟨⟨l⟩⟩ := s; obtain ⟨⟨m⟩⟩ := t
  simp at h
  rw [h]
end Go.Proofs.YtgiopklnielglaaDoor
/- The two arenas side by side. -/
namespace Go.Proofs.YtgiopklnielglaaDoor
open Go.RowKit Go.Maps Arena
set_option maxHeartbeats 8000000
set_option maxRecDepth 100000
attribute [local go_sem ↓] Go.wp_at_zero Go.wp_at_succ
/-- the two arenas side by side, and how their blocks lie -/
structure Both (w0 w : World) (p g bm q gq B n : Nat) (ws : List Int) (R : List (Nat × Nat)) : Prop where
  a : ArenaAt w p g bm n ws R
  r : ∃ v, RefAt w q gq B n ws v R
  lt : p < q ∧ g < q ∧ bm < q ∧ p < gq ∧ g < gq ∧ bm < gq
  ge : w0.heap.size ≤ p ∧ w0.heap.size ≤ g ∧ w0.heap.size ≤ bm
  size : B ≤ w.heap.size
  ext : Ext w0 w
theorem Both.turnA {w0 w w' : World} {p g bm q gq B n : Nat} {ws : List Int} {R : List (Nat × Nat)} (h : Both w0 w p g bm q gq B n ws R) {bs : List Nat} (t : Turn bs w w') (hb : ∀ b ∈ bs, b = g ∨ b = bm) : (∃ v, RefAt w' q gq B n ws v R) ∧ B ≤ w'.heap.size ∧ Ext w0 w' := by
  obtain ⟨l1, l2, l3, l4, l5, l6⟩ := h.lt
  obtain ⟨g1, g2, g3⟩ := h.ge
  obtain ⟨v, hr⟩ := h.r
  refine ⟨⟨v, hr.turn t (fun hm => ?_) (fun hm => ?_) (fun b hm => ?_)⟩, Nat.le_trans h.size t.size, Below.trans h.ext (t.below h.ext.size fun b hm => ?_)⟩
  · rcases hb _ hm with h | h <;> omega
  · rcases hb _ hm with h | h <;> omega
  · have := hr.qB
    rcases hb b hm with h | h <;> omega
  · rcases hb b hm with h | h <;> omega
theorem Both.turnR {w0 w w' : World} {p g bm q gq B n : Nat} {ws : List Int} {R : List (Nat × Nat)} (h : Both w0 w p g bm q gq B n ws R) {bs : List Nat} (t : Turn bs w w') (hb : ∀ b ∈ bs, b = q ∨ b = gq) : ArenaAt w' p g bm n ws R ∧ B ≤ w'.heap.size ∧ Ext w0 w' := by
  obtain ⟨l1, l2, l3, l4, l5, l6⟩ := h.lt
  obtain ⟨g1, g2, g3⟩ := h.ge
  refine ⟨h.a.turn t (fun hm => ?_) (fun hm => ?_) (fun hm => ?_), Nat.le_trans h.size t.size, Below.trans h.ext (t.below h.ext.size fun b hm => ?_)⟩
  · rcases hb _ hm with h | h <;> omega
  · rcases hb _ hm with h | h <;> omega
  · rcases hb _ hm with h | h <;> omega
  · rcases hb b hm with h | h <;> omega
theorem Both.step {w0 w w' : World} {p g bm q gq B n : Nat} {ws : List Int} {R : List (Nat × Nat)} (h : Both w0 w p g bm q gq B n ws R) (e : Ext w w') : Both w0 w' p g bm q gq B n ws R := by
  obtain ⟨h1, h2, h3⟩ := h.turnA (Turn.of_ext (bs := []) e) (by simp)
  exact ⟨h.a.ext e, h1, h.lt, h.ge, h2, h3⟩
theorem Both.mk1 {w0 w w5 w6 : World} {p g bm q gq B n : Nat} {ws ws1 : List Int} {R R1 : List (Nat × Nat)} (h : Both w0 w p g bm q gq B n ws R) {bs cs : List Nat} (hA : ArenaAt w5 p g bm n ws1 R1) (t : Turn bs w w5) (hb : ∀ b ∈ bs, b = g ∨ b = bm)
    (hr : ∃ v, RefAt w6 q gq B n ws1 v R1) (u : Turn cs w5 w6) (hc : ∀ b ∈ cs, b = q ∨ b = gq) : Both w0 w6 p g bm q gq B n ws1 R1 := by
  obtain ⟨⟨v, hr5⟩, h2, h3⟩ := h.turnA t hb
  obtain ⟨l1, l2, l3, l4, l5, l6⟩ := h.lt
  obtain ⟨g1, g2, g3⟩ := h.ge
  refine ⟨hA.turn u (fun hm => ?_) (fun hm => ?_) (fun hm => ?_), hr, h.lt, h.ge, Nat.le_trans h2 u.size, Below.trans h3 (u.below h3.size fun b hm => ?_)⟩
  · rcases hc _ hm with h | h <;> omega
  · rcases hc _ hm with h | h <;> omega
  · rcases hc _ hm with h | h <;> omega
  · rcases hc b hm with h | h <;> omega
theorem Both.mk2 {w0 w w5 w6 : World} {p g bm q gq B n : Nat} {ws ws1 : List Int} {R R1 : List (Nat × Nat)} (h : Both w0 w p g bm q gq B n ws R) {bs cs : List Nat} (hr : ∃ v, RefAt w5 q gq B n ws1 v R1) (u : Turn cs w w5) (hc : ∀ b ∈ cs, b = q ∨ b = gq)
    (hA : ArenaAt w6 p g bm n ws1 R1) (t : Turn bs w5 w6) (hb : ∀ b ∈ bs, b = g ∨ b = bm) : Both w0 w6 p g bm q gq B n ws1 R1 := by
  obtain ⟨h1, h2, h3⟩ := h.turnR u hc
  obtain ⟨l1, l2, l3, l4, l5, l6⟩ := h.lt
  obtain ⟨g1, g2, g3⟩ := h.ge
  obtain ⟨v, hr⟩ := hr
  refine ⟨hA, ⟨v, hr.turn t (fun hm => ?_) (fun hm => ?_) (fun b hm => ?_)⟩, h.lt, h.ge, Nat.le_trans h2 t.size, Below.trans h3 (t.below h3.size fun b hm => ?_)⟩
  · rcases hb _ hm with h | h <;> omega
  · rcases hb _ hm with h | h <;> omega
  · have := hr.qB
    rcases hb b hm with h | h <;> omega
  · rcases hb b hm with h | h <;> omega
end Go.Proofs.YtgiopklnielglaaDoor
/- A region with given words: plain. -/
namespace Go.Proofs.YtgiopklnielglaaDoor
open Go.RowKit Go.Maps Arena
def rigR (m : Nat) : List (Nat × Nat) := [(0, 3), (3, m)]
def rigW (l : List Int) (j : Nat) : List Int := List.replicate 3 0 ++ (l.take j ++ List.replicate (l.length - j + 7) 0)
theorem setMany_zero (N k : Nat) : ∀ o, setMany (List.replicate N 0) o (List.replicate k 0) = List.replicate N 0 := by
  induction k with
  | zero => intro o; rfl
  | succ k ih =>
    intro o
    rw [List.replicate_succ, setMany, List.set_replicate_self]
    exact ih _
theorem rig_scan {m : Nat} (h : 1 ≤ m) : scan m 0 [(0, 3)] = 3 := by
  simp only [scan]
  rw [if_neg (by omega)]
theorem rig_ins (m : Nat) : ins (3, m) [(0, 3)] = rigR m := by simp [ins, rigR]
theorem rig_len (m : Nat) : lenAt (rigR m) 3 = m := by simp [lenAt, rigR]
theorem rig_len0 (m : Nat) : lenAt (rigR m) 0 = 3 := by simp [lenAt, rigR]
theorem rig_within {m j : Nat} (h : j < m) : within (rigR m) 3 j = true := by
  unfold within
  rw [rig_len]
  simp [h]
theorem rigW_zero (l : List Int) : rigW l 0 = List.replicate (l.length + 10) 0 := by
  unfold rigW
  rw [List.take_zero, List.nil_append, List.replicate_append_replicate]
  congr 1
  omega
theorem rigW_step {l : List Int} {m j : Nat} (hj : j < l.length) (hm : l.length ≤ m) : setWs (rigW l j) (rigR m) 3 j l[j] = rigW l (j + 1) := by
  unfold setWs
  rw [if_pos (rig_within (by omega))]
  unfold rigW
  rw [show ((3 : Int) + (j : Int)).toNat = 3 + j by omega]
  rw [List.set_append_right _ _ (by simp), List.length_replicate, show 3 + j - 3 = j by omega]
  rw [List.set_append_right _ _ (by simp; omega), List.length_take, Nat.min_eq_left (by omega), Nat.sub_self]
  rw [show l.length - j + 7 = (l.length - (j + 1) + 7) + 1 by omega, @List.replicate_succ _ _ (l.length - (j + 1) + 7), List.set_cons_zero, List.take_succ_eq_append_getElem hj, List.append_assoc]
  rfl
theorem rigW_wordsAt (l : List Int) : wordsAt (rigW l l.length) (rigR (max 1 l.length)) 3 = if l = [] then [0] else l := by
  unfold wordsAt rigW
  rw [rig_len]
  cases l with
  | nil => rfl
  | cons a l => simp
theorem rigW_len (l : List Int) (j : Nat) (hj : j ≤ l.length) : (rigW l j).length = l.length + 10 := by
  unfold rigW
  simp
  omega
theorem w64_zero : W64 0 := by unfold W64; omega
theorem rigW_mem {l : List Int} (h : ∀ x ∈ l, W64 x) (j : Nat) : ∀ x ∈ rigW l j, W64 x := by
  intro x hx
  unfold rigW at hx
  rw [List.mem_append, List.mem_append] at hx
  rcases hx with h1 | h1 | h1
  · rw [(List.mem_replicate.1 h1).2]; exact w64_zero
  · exact h x (List.mem_of_mem_take h1)
  · rw [(List.mem_replicate.1 h1).2]; exact w64_zero
end Go.Proofs.YtgiopklnielglaaDoor
/- What stays of a region's words while objects are put: plain. -/
namespace Go.Proofs.YtgiopklnielglaaDoor
open Go.RowKit Go.Maps Arena
set_option maxRecDepth 100000
theorem piece_64 (l : List UInt8) (j : Nat) : W64 (pieceN l j) := by
  unfold pieceN W64
  have h := pk_lt ((l.drop (8 * j)).take 8)
  have h8 : ((l.drop (8 * j)).take 8).length ≤ 8 := by rw [List.length_take]; omega
  have h2 : 256 ^ ((l.drop (8 * j)).take 8).length ≤ 256 ^ 8 := Nat.pow_le_pow_right (by omega) h8
  have e : (256 : Nat) ^ 8 = 18446744073709551616 := by decide
  constructor
  · omega
  · omega
theorem layO_64 {o : Ob} (hm : mayO o = true) (hF : ∀ x ∈ o.fields, W64 x) : ∀ x ∈ layO o, W64 x := by
  intro x hx
  unfold layO at hx
  rcases List.mem_cons.1 hx with rfl | hx
  · unfold mayO at hm
    obtain ⟨h1, h2, h3, h4, _, _, h5, _⟩ := mayK_bounds hm
    unfold headO headK W64
    omega
  · unfold bodyO at hx
    split at hx
    · unfold pieces at hx
      obtain ⟨j, _, rfl⟩ := List.mem_map.1 hx
      exact piece_64 _ _
    · exact hF x hx
theorem putB_may {ws : List Int} {R : List (Nat × Nat)} {h : Hp} {o : Ob} (hb : putB ws R h o = true) : mayO o = true := by
  cases hm : mayO o with
  | true => rfl
  | false =>
    unfold putB at hb
    split at hb
    · cases hb
    · simp [hm] at hb
theorem putWs_64 {ws : List Int} {R : List (Nat × Nat)} {h : Hp} {o : Ob} (hb : putB ws R h o = true) (hW : ∀ x ∈ ws, W64 x) (hF : ∀ x ∈ o.fields, W64 x) : ∀ x ∈ putWs ws R h o, W64 x := by
  intro x hx
  rcases setRun_mem hx with h1 | h1
  · exact hW x h1
  · exact layO_64 (putB_may hb) hF x h1
theorem wsOf_64 {ws : List Int} {R : List (Nat × Nat)} {ba : Int} {k : Option Int} {v : Int} (hW : ∀ x ∈ ws, W64 x) (hv : W64 v) : ∀ x ∈ wsOf ws R ba k v, W64 x := by
  intro x hx
  unfold wsOf at hx
  split at hx
  · exact hW x hx
  · rcases setWs_mem hx with h1 | rfl
    · exact hW x h1
    · exact hv
theorem setWs_take {ws : List Int} {R : List (Nat × Nat)} {a v : Int} : (setWs ws R 3 a v).take 3 = ws.take 3 := by
  unfold setWs
  split
  · rename_i hw
    unfold within at hw
    have hw := of_decide_eq_true hw
    rw [List.take_set_of_le (by omega)]
  · rfl
theorem setRun_take {R : List (Nat × Nat)} : ∀ (l ws : List Int) (k : Nat), (setRun ws R 3 k l).take 3 = ws.take 3 := by
  intro l
  induction l with
  | nil => intro ws k; rfl
  | cons v l ih => intro ws k; rw [setRun, ih, setWs_take]
theorem putWs_take {ws : List Int} {R : List (Nat × Nat)} {h : Hp} {o : Ob} (h3 : h.base = 3) : (putWs ws R h o).take 3 = ws.take 3 := by
  unfold putWs; rw [h3]; exact setRun_take _ _ _
theorem wsOf_take {ws : List Int} {R : List (Nat × Nat)} {ba : Int} {k : Option Int} {v : Int} (h3 : ba = 3) : (wsOf ws R ba k v).take 3 = ws.take 3 := by
  subst h3
  unfold wsOf
  split
  · rfl
  · exact setWs_take
theorem rigW_take (l : List Int) (j : Nat) : (rigW l j).take 3 = [0, 0, 0] := by
  unfold rigW
  rw [List.take_append_of_le_length (by simp)]
  rfl
end Go.Proofs.YtgiopklnielglaaDoor
/- Objects that are put, fields that are set: what a heap's objects are then. Plain. -/
namespace Go.Proofs.YtgiopklnielglaaDoor
open Go.RowKit Go.Maps Arena
set_option maxRecDepth 100000
theorem pk_digit : ∀ (A : List UInt8) (j : Nat), pk A / 256 ^ j % 256 = (A[j]?.map UInt8.toNat).getD 0
  | [], j => by simp [pk]
  | b :: A, 0 => by
    have := b.toNat_lt
    simp only [pk, Nat.pow_zero, Nat.div_one, List.getElem?_cons_zero, Option.map_some, Option.getD_some]
    omega
  | b :: A, j + 1 => by
    have := b.toNat_lt
    rw [List.getElem?_cons_succ, ← pk_digit A j, pk, Nat.pow_succ, Nat.mul_comm (256 ^ j) 256, ← Nat.div_div_eq_div_mul]
    congr 2
    omega
theorem bytes8_pk {A : List UInt8} (h : A.length ≤ 8) : bytes8 (pk A : Int) = A ++ List.replicate (8 - A.length) 0 := by
  apply List.ext_getElem?
  intro j
  unfold bytes8
  rw [List.getElem?_map, Int.toNat_natCast]
  by_cases hj : j < 8
  · rw [List.getElem?_range hj]
    simp only [Option.map_some]
    rw [pk_digit]
    by_cases hA : j < A.length
    · rw [List.getElem?_append_left hA, List.getElem?_eq_getElem hA]
      simp
    · rw [List.getElem?_append_right (by omega), List.getElem?_replicate, if_pos (by omega), List.getElem?_eq_none (by omega)]
      rfl
  · rw [List.getElem?_eq_none (by simp; omega), List.getElem?_eq_none (by simp; omega)]
    rfl
/-- a text's words hold its bytes, and 0 behind them -/
theorem bytes_pieces : ∀ (n : Nat) (l : List UInt8), l.length ≤ n → ∃ z, bytesOf (pieces l) = l ++ z ∧ z.all (· == 0) = true := by
  intro n
  induction n with
  | zero =>
    intro l h
    obtain rfl := List.eq_nil_of_length_eq_zero (Nat.le_zero.1 h)
    exact ⟨[], rfl, rfl⟩
  | succ n ih =>
    intro l h
    by_cases h0 : l.length = 0
    · obtain rfl := List.eq_nil_of_length_eq_zero h0
      exact ⟨[], rfl, rfl⟩
    · by_cases h8 : l.length ≤ 8
      · rw [pieces_short (by omega) h8, bytesOf_cons, bytes8_pk h8]
        exact ⟨List.replicate (8 - l.length) 0, by simp [bytesOf], by simp⟩
      · obtain ⟨z, hz, hz0⟩ := ih (l.drop 8) (by rw [List.length_drop]; omega)
        have ht : (l.take 8).length = 8 := by rw [List.length_take]; omega
        refine ⟨z, ?_, hz0⟩
        have h8e : pieces l = (pk (l.take 8) : Int) :: pieces (l.drop 8) := by
          have := pieces_cons (l := l.drop 8) ht
          rw [List.take_append_drop] at this
          exact this
        rw [h8e, bytesOf_cons, bytes8_pk (by omega), hz, ht]
        simp only [Nat.sub_self, List.replicate_zero, List.append_nil]
        rw [← List.append_assoc, List.take_append_drop]
theorem layO_len {o : Ob} (hm : mayO o = true) : (layO o).length = wordsO o := by
  have := body_len hm; unfold layO; rw [List.length_cons]; omega
theorem ob_text {kd tg : Int} {F : List Int} {t : ByteArray} (hm : mayK kd tg F.length t.size = true) (h : kd ≠ 2) : t = ByteArray.empty := by
  have h0 : t.size = 0 := by
    rcases mayK_cases hm with ⟨_, h⟩ | ⟨h1, _⟩ | ⟨_, h⟩ | ⟨_, h⟩
    · exact h.2.2.2.2
    · exact absurd h1 h
    · exact h.2.2
    · exact h.2.2.2
  obtain ⟨⟨l⟩⟩ := t
  cases l with
  | nil => rfl
  | cons a l => simp [ByteArray.size] at h0
/-- what is laid is read -/
theorem readS_lay {o : Ob} (hm : mayO o = true) (T : List Int) : readS (layO o ++ T) = some o := by
  have hbl := body_len hm
  have hmk := hm
  unfold mayO at hmk
  obtain ⟨b1, b2, b3, b4, b5, b6, b7, b8⟩ := mayK_bounds hmk
  have d1 : headO o % 256 = o.kind := by unfold headO headK; omega
  have d2 : headO o / 256 % 16777216 = o.tag := by unfold headO headK; omega
  have d3 : (headO o / 4294967296).toNat = sizeK o.kind o.fields.length o.text.size := by unfold headO headK; omega
  have hbd : bodyK o.kind (sizeK o.kind o.fields.length o.text.size) (sizeK o.kind o.fields.length o.text.size) = (bodyO o).length := by
    unfold wordsO at hbl
    have : bodyK o.kind (sizeK o.kind o.fields.length o.text.size) (sizeK o.kind o.fields.length o.text.size) = bodyK o.kind o.fields.length o.text.size := by
      unfold bodyK sizeK
      by_cases h2 : o.kind = 2
      · rw [if_pos h2, if_pos h2, if_pos h2]
      · rw [if_neg h2, if_neg h2, if_neg h2]
    omega
  unfold layO
  rw [List.cons_append]
  unfold readS
  simp only [d1, d2, d3, hbd]
  rw [if_pos ⟨b1, b2, b7, by rw [List.length_append]; omega⟩]
  rw [List.take_append_of_le_length (Nat.le_refl _), List.take_length]
  obtain ⟨kd, tg, F, t⟩ := o
  dsimp only at *
  by_cases h2 : kd = 2
  · subst h2
    have hF : F = [] := by
      rcases mayK_cases hmk with ⟨h1, _⟩ | ⟨_, _, h, _⟩ | ⟨h1, _⟩ | ⟨h1, _⟩
      · omega
      · exact List.eq_nil_of_length_eq_zero h
      · omega
      · omega
    subst hF
    have hb : bodyO ⟨2, tg, [], t⟩ = pieces t.data.toList := rfl
    have hs : sizeK 2 ([] : List Int).length t.size = t.size := rfl
    obtain ⟨z, hz, hz0⟩ := bytes_pieces _ t.data.toList (Nat.le_refl _)
    rw [if_pos rfl, hb, hs, hz]
    have htl : t.data.toList.length = t.size := by rw [Array.length_toList]; rfl
    rw [List.drop_append_of_le_length (by omega), List.drop_eq_nil_of_le (by omega), List.nil_append, List.take_append_of_le_length (by omega), List.take_of_length_le (by omega)]
    have ho : (⟨2, tg, [], ⟨t.data.toList.toArray⟩⟩ : Ob) = ⟨2, tg, [], t⟩ := by obtain ⟨⟨l⟩⟩ := t; rfl
    rw [if_pos ⟨fun _ => hz0, by rw [ho]; exact hm⟩, ho]
  · have hb : bodyO ⟨kd, tg, F, t⟩ = F := if_neg h2
    have ht := ob_text hmk h2
    subst ht
    rw [if_neg h2, hb, if_pos ⟨fun h => absurd h h2, hm⟩]
theorem readS_app {S : List Int} {o : Ob} (h : readS S = some o) (T : List Int) : readS (S ++ T) = some o := by
  cases S with
  | nil => cases h
  | cons hd r =>
    rw [List.cons_append]
    unfold readS at h ⊢
    simp only at h ⊢
    split at h
    · rename_i hc
      obtain ⟨c1, c2, c3, c4⟩ := hc
      rw [if_pos ⟨c1, c2, c3, by rw [List.length_append]; omega⟩, List.take_append_of_le_length c4]
      exact h
    · cases h
theorem objs_app : ∀ (n : Nat) (S : List Int) (a : Nat) (L : List (Nat × Ob)) (T : List Int) (M : List (Nat × Ob)), S.length ≤ n → objs S a = some L → objs T (a + S.length) = some M → objs (S ++ T) a = some (L ++ M) := by
  intro n
  induction n with
  | zero =>
    intro S a L T M hn h hT
    obtain rfl := List.eq_nil_of_length_eq_zero (Nat.le_zero.1 hn)
    rw [objs_nil] at h
    obtain rfl := Option.some.inj h
    exact hT
  | succ n ih =>
    intro S a L T M hn h hT
    by_cases hS : S = []
    · subst hS
      rw [objs_nil] at h
      obtain rfl := Option.some.inj h
      exact hT
    · rw [objs_cons hS] at h
      cases hr : readS S with
      | none => rw [hr] at h; cases h
      | some o =>
        rw [hr] at h
        simp only at h
        cases hd : objs (S.drop (wordsO o)) (a + wordsO o) with
        | none => rw [hd] at h; cases h
        | some L' =>
          rw [hd] at h
          obtain rfl := Option.some.inj h
          obtain ⟨w1, w2, _⟩ := readS_words hr
          have hl : (S.drop (wordsO o)).length = S.length - wordsO o := List.length_drop
          have := ih (S.drop (wordsO o)) (a + wordsO o) L' T M (by omega) hd (by rw [show a + wordsO o + (S.drop (wordsO o)).length = a + S.length by omega]; exact hT)
          rw [objs_cons (by simp [hS]), readS_app hr]
          simp only
          rw [List.drop_append_of_le_length w1, this]
          rfl
theorem objs_one {o : Ob} (hm : mayO o = true) (a : Nat) : objs (layO o) a = some [(a, o)] := by
  have hl := layO_len hm
  have hr := readS_lay hm []
  rw [List.append_nil] at hr
  rw [objs_cons (by unfold layO; simp), hr]
  simp only
  rw [List.drop_eq_nil_of_le (by omega), objs_nil]
  rfl
theorem fieldOK_mono {P Q : List Nat} {first : Nat} {x : Int} (hs : ∀ a ∈ P, a ∈ Q) (h : fieldOK P first x = true) : fieldOK Q first x = true := by
  unfold fieldOK at h ⊢
  simp only [Bool.or_eq_true, Bool.and_eq_true, List.any_eq_true] at h ⊢
  rcases h with h | ⟨h1, a, h2, h3⟩
  · exact .inl h
  · exact .inr ⟨h1, a, hs a h2, h3⟩
theorem fieldsOK_app {first : Nat} {L : List (Nat × Ob)} {y : Nat × Ob} (h : fieldsOK first L = true) (hy : y.2.fields.all (fieldOK (L.map (·.1)) first) = true) : fieldsOK first (L ++ [y]) = true := by
  unfold fieldsOK at h ⊢
  rw [List.all_append, Bool.and_eq_true]
  have hs : ∀ a ∈ L.map (·.1), a ∈ (L ++ [y]).map (·.1) := fun a ha => by rw [List.map_append]; exact List.mem_append_left _ ha
  refine ⟨List.all_eq_true.2 fun x hx => List.all_eq_true.2 fun f hf => fieldOK_mono hs ?_, ?_⟩
  · exact List.all_eq_true.1 (List.all_eq_true.1 h x hx) f hf
  · simp only [List.all_cons, List.all_nil, Bool.and_true]
    exact List.all_eq_true.2 fun f hf => fieldOK_mono hs (List.all_eq_true.1 hy f hf)
theorem allS_put {first : Nat} {S : List Int} {L : List (Nat × Ob)} {o : Ob} (h : allS first S = some L) (hm : mayO o = true) (hF : o.fields.all (fieldOK (L.map (·.1)) first) = true) : allS first (S ++ layO o) = some (L ++ [(S.length, o)]) := by
  obtain ⟨h1, h2⟩ := allS_some h
  have h3 := objs_app S.length S 0 L (layO o) _ (Nat.le_refl _) h1 (objs_one hm _)
  unfold allS
  rw [h3]
  simp only
  rw [Nat.zero_add, if_pos (fieldsOK_app h2 hF)]
/-! ### the words of a region -/
theorem setMany_eq : ∀ (l V : List Int) (k : Nat), k + l.length ≤ V.length → setMany V k l = V.take k ++ (l ++ V.drop (k + l.length))
  | [], V, k, h => by simp [setMany]
  | x :: l, V, k, h => by
    rw [List.length_cons] at h
    rw [setMany, setMany_eq l (V.set k x) (k + 1) (by rw [List.length_set]; omega), List.length_cons, List.drop_set_of_lt (by omega), List.take_succ_eq_append_getElem (by rw [List.length_set]; omega), List.getElem_set_self, List.take_set_of_le (Nat.le_refl _), show k + 1 + l.length = k + (l.length + 1) by omega]
    simp
theorem wordsAt_set {n : Nat} {ws : List Int} {R : List (Nat × Nat)} (_hg : Arena.Good n R) (_hl : ws.length = n) {x v : Int} {a : Nat} (ha : a < lenAt R x) : wordsAt (setWs ws R x a v) R x = (wordsAt ws R x).set a v := by
  obtain ⟨r, hr, h1, h2⟩ := lenAt_some (show lenAt R x ≠ 0 by omega)
  unfold setWs within
  rw [decide_eq_true (show (0 : Int) ≤ a ∧ (a : Int) < lenAt R x by omega), if_pos rfl]
  unfold wordsAt
  rw [show (x + (a : Int)).toNat = x.toNat + a by omega, List.drop_set, if_neg (by omega), Nat.add_sub_cancel_left, List.take_set]
theorem wordsAt_run {n : Nat} {R : List (Nat × Nat)} (hg : Arena.Good n R) {x : Int} : ∀ (l ws : List Int) (k : Nat), ws.length = n → k + l.length ≤ lenAt R x → wordsAt (setRun ws R x k l) R x = setMany (wordsAt ws R x) k l
  | [], ws, k, _, _ => rfl
  | v :: l, ws, k, hl, h => by
    rw [List.length_cons] at h
    rw [setRun, wordsAt_run hg l _ (k + 1) (by rw [setWs_len]; exact hl) (by omega), wordsAt_set hg hl (by omega)]
    rfl
theorem semi_put {n : Nat} {ws : List Int} {R : List (Nat × Nat)} {h : Hp} {o : Ob} (hg : Arena.Good n R) (hl : ws.length = n) (ht : thereB R h = true) (hm : mayO o = true) (hfit : h.top + (wordsO o : Nat) ≤ h.half) : semi (putWs ws R h o) R (hpUp h o) = semi ws R h ++ layO o := by
  obtain ⟨hok, h2⟩ := thereB_ok ht
  have hf := firstN_is hok
  have hll := layO_len hm
  have hwl := wordsAt_len hg hl h.base
  obtain ⟨a1, a2, a3, a4, a5, a6⟩ := hok
  have hff : firstN (hpUp h o) = firstN h := rfl
  have htn : (hpUp h o).top.toNat = h.top.toNat + wordsO o := by unfold hpUp; dsimp only; omega
  unfold semi
  rw [hff, htn]
  show ((wordsAt (setRun ws R h.base (topN h) (layO o)) R h.base).drop (firstN h)).take _ = _
  rw [wordsAt_run hg _ _ _ hl (by unfold topN; omega), setMany_eq _ _ _ (by unfold topN; omega)]
  generalize wordsAt ws R h.base = V at hwl ⊢
  have e1 : (V.take (topN h) ++ (layO o ++ V.drop (topN h + (layO o).length))).drop (firstN h) = (V.drop (firstN h)).take h.top.toNat ++ (layO o ++ V.drop (topN h + (layO o).length)) := by
    unfold topN
    rw [List.drop_append_of_le_length (by rw [List.length_take]; omega), List.drop_take, Nat.add_sub_cancel_left]
  rw [e1, ← List.append_assoc, List.take_left' (by rw [List.length_append, List.length_take, List.length_drop]; omega)]
theorem thereB_up {R : List (Nat × Nat)} {h : Hp} {o : Ob} (ht : thereB R h = true) (hfit : h.top + (wordsO o : Nat) ≤ h.half) : thereB R (hpUp h o) = true := by
  obtain ⟨⟨a1, a2, a3, a4, a5, a6⟩, h2⟩ := thereB_ok ht
  unfold thereB hpUp
  simp only [Bool.and_eq_true, decide_eq_true_eq]
  exact ⟨⟨a1, a2, a3, a4, by dsimp only; omega, hfit⟩, h2⟩
theorem putB_some {ws : List Int} {R : List (Nat × Nat)} {h : Hp} {o : Ob} {L : List (Nat × Ob)} (ha : allH ws R h = some L) : putB ws R h o = (mayO o && decide (h.top + (wordsO o : Nat) ≤ h.half) && o.fields.all (fieldOK (L.map (·.1)) (firstN h))) := by
  unfold putB; rw [ha]
/-- an object that is put stands behind all others -/
theorem allH_put {n : Nat} {ws : List Int} {R : List (Nat × Nat)} {h : Hp} {o : Ob} {L : List (Nat × Ob)} (hg : Arena.Good n R) (hl : ws.length = n) (ha : allH ws R h = some L) (hb : putB ws R h o = true) : allH (putWs ws R h o) R (hpUp h o) = some (L ++ [(h.top.toNat, o)]) := by
  rw [putB_some ha] at hb
  simp only [Bool.and_eq_true, decide_eq_true_eq] at hb
  obtain ⟨⟨hm, hfit⟩, hF⟩ := hb
  obtain ⟨ht, hS⟩ := allH_there ha
  unfold allH
  rw [if_pos (thereB_up ht hfit), semi_put hg hl ht hm hfit]
  have := allS_put hS hm hF
  rw [semi_len hg hl ht] at this
  exact this
/-! ### a field that is set -/
def updF (a i : Nat) (v : Int) (y : Nat × Ob) : Nat × Ob := if y.1 = a then (y.1, { y.2 with fields := y.2.fields.set i v }) else y
theorem updF_fst (a i : Nat) (v : Int) (y : Nat × Ob) : (updF a i v y).1 = y.1 := by unfold updF; split <;> rfl
theorem updF_words (a i : Nat) (v : Int) (y : Nat × Ob) : wordsO (updF a i v y).2 = wordsO y.2 := by
  unfold updF
  split
  · unfold wordsO; simp
  · rfl
theorem readS_size {hd : Int} {r : List Int} {o : Ob} (h : readS (hd :: r) = some o) : wordsO o = bodyK (hd % 256) (hd / 4294967296).toNat (hd / 4294967296).toNat + 1 := by
  by_cases h2 : hd % 256 = 2
  · unfold readS at h
    simp only [h2, if_true] at h
    split at h
    · rename_i hc
      obtain ⟨_, _, hs, hb⟩ := hc
      split at h
      · obtain rfl := Option.some.inj h
        rw [h2]
        unfold wordsO
        dsimp only
        have hl : (ByteArray.mk ((bytesOf (r.take (bodyK 2 (hd / 4294967296).toNat (hd / 4294967296).toNat))).take (hd / 4294967296).toNat).toArray).size = (hd / 4294967296).toNat := by
          unfold bodyK at hb ⊢
          simp only [if_true] at hb ⊢
          rw [ByteArray.size, List.size_toArray, List.length_take, bytesOf_len, List.length_take]; omega
        rw [hl]
        unfold bodyK
        simp only [if_true]
        omega
      · cases h
    · cases h
  · unfold readS at h
    simp only [h2, if_false, false_implies, true_and] at h
    split at h
    · rename_i hc
      obtain ⟨_, _, hs, hb⟩ := hc
      split at h
      · obtain rfl := Option.some.inj h
        unfold wordsO
        unfold bodyK at hb ⊢
        simp only [h2, if_false] at hb ⊢
        rw [List.length_take]
        omega
      · cases h
    · cases h
theorem readS_take {S : List Int} {o : Ob} (h : readS S = some o) : readS (S.take (wordsO o)) = some o := by
  cases S with
  | nil => cases h
  | cons hd r =>
    rw [readS_size h, List.take_succ_cons]
    unfold readS at h ⊢
    simp only at h ⊢
    split at h
    · rename_i hc
      obtain ⟨c1, c2, c3, c4⟩ := hc
      rw [if_pos ⟨c1, c2, c3, by rw [List.length_take]; omega⟩, List.take_take, Nat.min_self]
      exact h
    · cases h
/-- a field of the first object is set -/
theorem readS_set {S : List Int} {o : Ob} (h : readS S = some o) {i : Nat} (hi : i < o.fields.length) (v : Int) : readS (S.set (1 + i) v) = some { o with fields := o.fields.set i v } := by
  cases S with
  | nil => cases h
  | cons hd r =>
    rw [Nat.add_comm 1 i, List.set_cons_succ]
    by_cases h2 : hd % 256 = 2
    · exfalso
      unfold readS at h
      simp only [h2, if_true] at h
      split at h
      · split at h
        · obtain rfl := Option.some.inj h
          simp at hi
        · cases h
      · cases h
    · have hm := (readS_words h).2.2
      unfold readS at h ⊢
      simp only [h2, if_false, false_implies, true_and] at h ⊢
      split at h
      · rename_i hc
        obtain ⟨c1, c2, c3, c4⟩ := hc
        rw [if_pos ⟨c1, c2, c3, by rw [List.length_set]; exact c4⟩]
        split at h
        · rename_i hm2
          obtain rfl := Option.some.inj h
          rw [List.take_set]
          rw [if_pos (by unfold mayO at hm2 ⊢; dsimp only at hm2 ⊢; rw [List.length_set]; exact hm2)]
        · cases h
      · cases h
theorem objs_ge {S : List Int} {a : Nat} {L : List (Nat × Ob)} (h : objs S a = some L) : ∀ y ∈ L, a ≤ y.1 ∧ y.1 + wordsO y.2 ≤ a + S.length :=
  objs_ind (P := fun S a L => ∀ y ∈ L, a ≤ y.1 ∧ y.1 + wordsO y.2 ≤ a + S.length) (fun a y hy => by cases hy)
    (fun S a o L hS hr ih y hy => by
      have hw := (readS_words hr).1
      rcases List.mem_cons.1 hy with rfl | hy
      · dsimp only; omega
      · have := ih y hy
        rw [List.length_drop] at this
        omega) S.length (Nat.le_refl _) h
theorem objs_set (i : Nat) (v : Int) : ∀ (n : Nat) (S : List Int) (b : Nat) (L : List (Nat × Ob)) (y : Nat × Ob), S.length ≤ n → objs S b = some L → y ∈ L → i < y.2.fields.length → objs (S.set (y.1 - b + 1 + i) v) b = some (L.map (updF y.1 i v)) := by
  intro n
  induction n with
  | zero =>
    intro S b L y hn h hy
    obtain rfl := List.eq_nil_of_length_eq_zero (Nat.le_zero.1 hn)
    rw [objs_nil] at h
    obtain rfl := Option.some.inj h
    cases hy
  | succ n ih =>
    intro S b L y hn h hy hi
    by_cases hS : S = []
    · subst hS
      rw [objs_nil] at h
      obtain rfl := Option.some.inj h
      cases hy
    · have h0 := h
      rw [objs_cons hS] at h
      cases hr : readS S with
      | none => rw [hr] at h; cases h
      | some o =>
        rw [hr] at h
        simp only at h
        cases hd : objs (S.drop (wordsO o)) (b + wordsO o) with
        | none => rw [hd] at h; cases h
        | some L' =>
          rw [hd] at h
          obtain rfl := Option.some.inj h
          obtain ⟨w1, w2, hmay⟩ := readS_words hr
          have hge := objs_ge hd
          have hne : S.set (y.1 - b + 1 + i) v ≠ [] := by simp [hS]
          rw [List.map_cons]
          rcases List.mem_cons.1 hy with rfl | hy
          · dsimp only at hi ⊢
            have hfw : wordsO o = 1 + o.fields.length := fields_words hmay (by intro e; rw [e] at hi; simp at hi)
            rw [Nat.sub_self, Nat.zero_add] at hne ⊢
            rw [objs_cons hne, readS_set hr hi v]
            simp only
            have hwo : wordsO { o with fields := o.fields.set i v } = wordsO o := by unfold wordsO; simp
            rw [hwo, List.drop_set_of_lt (by omega), hd]
            simp only [Option.map_some]
            congr 1
            congr 1
            · unfold updF; rw [if_pos rfl]
            · symm
              refine (List.map_congr_left fun z hz => ?_).trans (List.map_id _)
              unfold updF
              rw [if_neg (by have := (hge z hz).1; omega)]
              rfl
          · have hyg := hge y hy
            have hse : S.set (y.1 - b + 1 + i) v = S.take (wordsO o) ++ (S.drop (wordsO o)).set (y.1 - (b + wordsO o) + 1 + i) v := by
              have e0 : S = S.take (wordsO o) ++ S.drop (wordsO o) := (List.take_append_drop _ _).symm
              have hl : (S.take (wordsO o)).length = wordsO o := by rw [List.length_take]; omega
              have e1 : (S.take (wordsO o) ++ S.drop (wordsO o)).set (y.1 - b + 1 + i) v = S.take (wordsO o) ++ (S.drop (wordsO o)).set (y.1 - (b + wordsO o) + 1 + i) v := by
                rw [List.set_append_right _ _ (by omega), hl]
                congr 2
                omega
              rw [List.take_append_drop] at e1
              exact e1
            have hl : (S.take (wordsO o)).length = wordsO o := by rw [List.length_take]; omega
            rw [objs_cons hne, hse, readS_app (readS_take hr)]
            simp only
            rw [List.drop_append_of_le_length (by omega), List.drop_of_length_le (by omega), List.nil_append, ih (S.drop (wordsO o)) (b + wordsO o) L' y (by rw [List.length_drop]; omega) hd hy hi]
            simp only [Option.map_some]
            congr 2
            unfold updF
            rw [if_neg (by dsimp only; omega)]
theorem updF_places (a i : Nat) (v : Int) (L : List (Nat × Ob)) : (L.map (updF a i v)).map (·.1) = L.map (·.1) := by
  rw [List.map_map]
  exact List.map_congr_left fun y _ => updF_fst a i v y
theorem fieldsOK_set {first a i : Nat} {v : Int} {L : List (Nat × Ob)} (h : fieldsOK first L = true) (hv : fieldOK (L.map (·.1)) first v = true) : fieldsOK first (L.map (updF a i v)) = true := by
  unfold fieldsOK at h ⊢
  rw [updF_places]
  refine List.all_eq_true.2 fun x hx => ?_
  obtain ⟨y, hy, rfl⟩ := List.mem_map.1 hx
  have h1 := List.all_eq_true.1 h y hy
  unfold updF
  split
  · refine List.all_eq_true.2 fun f hf => ?_
    rcases List.mem_or_eq_of_mem_set hf with hf | rfl
    · exact List.all_eq_true.1 h1 f hf
    · exact hv
  · exact h1
theorem semi_setWs {n : Nat} {ws : List Int} {R : List (Nat × Nat)} {h : Hp} (hg : Arena.Good n R) (hl : ws.length = n) (ht : thereB R h = true) {j : Nat} (hj : j < h.top.toNat) (v : Int) : semi (setWs ws R h.base ((firstN h : Int) + j) v) R h = (semi ws R h).set j v := by
  obtain ⟨hok, h2⟩ := thereB_ok ht
  have hf := firstN_is hok
  obtain ⟨a1, a2, a3, a4, a5, a6⟩ := hok
  unfold semi
  rw [show (firstN h : Int) + j = ((firstN h + j : Nat) : Int) by omega, wordsAt_set hg hl (by omega), List.drop_set, if_neg (by omega), Nat.add_sub_cancel_left, List.take_set]
/-- a field that is set: the objects are as they were, but that field -/
theorem allH_set {n : Nat} {ws : List Int} {R : List (Nat × Nat)} {h : Hp} {L : List (Nat × Ob)} {x i v : Int} {y : Nat × Ob} (hg : Arena.Good n R) (hl : ws.length = n) (ha : allH ws R h = some L) (hy : getL (firstN h) L x = some y) (hi : 0 ≤ i) (hi2 : i < y.2.fields.length) (hv : fieldOK (L.map (·.1)) (firstN h) v = true) :
    setAt ws R h x i v = some ((firstN h : Int) + y.1 + 1 + i) ∧ allH (wsOf ws R h.base (setAt ws R h x i v) v) R h = some (L.map (updF y.1 i.toNat v)) := by
  have hs : setAt ws R h x i v = some ((firstN h : Int) + y.1 + 1 + i) := by
    unfold setAt
    rw [ha]
    simp only
    rw [hy]
    simp only
    rw [if_pos ⟨hi, hi2, hv⟩]
  refine ⟨hs, ?_⟩
  rw [hs]
  obtain ⟨ht, hS⟩ := allH_there ha
  obtain ⟨ho, hf⟩ := allS_some hS
  have hyL := (getL_some hy).1
  have hfit := objs_ge ho y hyL
  have hmay := (objs_fields ho y hyL).1
  rw [fields_words hmay (by intro e; rw [e] at hi2; simp at hi2; omega), semi_len hg hl ht] at hfit
  unfold allH
  rw [if_pos ht]
  unfold wsOf
  simp only
  rw [show (firstN h : Int) + y.1 + 1 + i = (firstN h : Int) + ((y.1 - 0 + 1 + i.toNat : Nat) : Int) by omega, semi_setWs hg hl ht (by omega)]
  unfold allS
  rw [objs_set i.toNat v _ _ 0 L y (Nat.le_refl _) ho hyL (by omega)]
  simp only
  rw [if_pos (fieldsOK_set hf hv)]
theorem getL_upd {first : Nat} {L : List (Nat × Ob)} {x v : Int} {a i : Nat} : getL first (L.map (updF a i v)) x = (getL first L x).map (updF a i v) := by
  unfold getL
  split
  · rfl
  · rw [List.find?_map]
    congr 1
    apply congrFun
    apply congrArg
    funext y
    simp only [Function.comp_apply, updF_fst]
end Go.Proofs.YtgiopklnielglaaDoor
/- Collections, in plain Lean: what is moved, in which order, and what the words are then. -/
namespace Go.Proofs.YtgiopklnielglaaDoor
open Go.RowKit Go.Maps Arena
set_option maxRecDepth 100000
/-! ### a region's words, as one row -/
/-- the words, with others in a region -/
def regW (ws : List Int) (ba : Nat) (V : List Int) : List Int := ws.take ba ++ (V ++ ws.drop (ba + V.length))
theorem regW_len {ws V : List Int} {ba : Nat} (h : ba + V.length ≤ ws.length) : (regW ws ba V).length = ws.length := by
  unfold regW
  simp only [List.length_append, List.length_take, List.length_drop]
  omega
/-- a region that is one: where it begins, how many words -/
structure RegAt (R : List (Nat × Nat)) (n : Nat) (ba len : Nat) : Prop where
  l : lenAt R (ba : Int) = len
  pos : 0 < len
  fit : ba + len ≤ n
theorem regAt_of {n : Nat} {R : List (Nat × Nat)} (hg : Arena.Good n R) {x : Int} {len : Nat} (hl : lenAt R x = len) (h0 : 0 < len) : ∃ ba : Nat, x = (ba : Int) ∧ RegAt R n ba len := by
  obtain ⟨r, hr, h1, h2⟩ := lenAt_some (show lenAt R x ≠ 0 by omega)
  have h3 := (hg.2 r hr).2
  exact ⟨r.1, h1.symm, by rw [h1]; exact hl, h0, by omega⟩
section
variable {ws : List Int} {R : List (Nat × Nat)} {n ba len : Nat} {V : List Int}
theorem RegAt.get (hr : RegAt R n ba len) (hl : ws.length = n) (hV : V.length = len) {a : Nat} (ha : a < len) : getW (regW ws ba V) R ba (a : Int) = V.getD a 0 := by
  have hw : within R ba a = true := by unfold within; rw [hr.l]; exact decide_eq_true (by omega)
  unfold getW
  rw [if_pos hw, show ((ba : Int) + (a : Int)).toNat = ba + a by omega]
  have := hr.fit
  unfold regW
  rw [List.getD_eq_getElem?_getD, List.getD_eq_getElem?_getD, List.getElem?_append_right (by rw [List.length_take]; omega), List.length_take, Nat.min_eq_left (by omega), Nat.add_sub_cancel_left, List.getElem?_append_left (by omega)]
theorem RegAt.set (hr : RegAt R n ba len) (hl : ws.length = n) (hV : V.length = len) {a : Nat} (ha : a < len) (v : Int) : setWs (regW ws ba V) R ba (a : Int) v = regW ws ba (V.set a v) := by
  have hw : within R ba a = true := by unfold within; rw [hr.l]; exact decide_eq_true (by omega)
  have := hr.fit
  unfold setWs
  rw [if_pos hw, show ((ba : Int) + (a : Int)).toNat = ba + a by omega]
  unfold regW
  rw [List.set_append_right _ _ (by rw [List.length_take]; omega), List.length_take, Nat.min_eq_left (by omega), Nat.add_sub_cancel_left, List.set_append_left _ _ (by omega), List.length_set]
theorem RegAt.words (hr : RegAt R n ba len) (hl : ws.length = n) (hV : V.length = len) : wordsAt (regW ws ba V) R ba = V := by
  have := hr.fit
  unfold wordsAt regW
  rw [hr.l, Int.toNat_natCast, List.drop_append_of_le_length (by rw [List.length_take]; omega), List.drop_of_length_le (by rw [List.length_take]; omega), List.nil_append, List.take_append_of_le_length (by omega), List.take_of_length_le (by omega)]
theorem RegAt.self (hr : RegAt R n ba len) (hl : ws.length = n) : regW ws ba (wordsAt ws R ba) = ws := by
  have := hr.fit
  have hw : (wordsAt ws R ba).length = len := by unfold wordsAt; rw [hr.l, List.length_take, List.length_drop, Int.toNat_natCast]; omega
  unfold regW
  rw [hw]
  unfold wordsAt
  rw [hr.l, Int.toNat_natCast]
  have h1 : (ws.drop ba).take len ++ (ws.drop ba).drop len = ws.drop ba := List.take_append_drop _ _
  rw [List.drop_drop] at h1
  rw [h1, List.take_append_drop]
theorem regW_64 (hw : ∀ x ∈ ws, W64 x) (hV : ∀ x ∈ V, W64 x) : ∀ x ∈ regW ws ba V, W64 x := by
  intro x hx
  unfold regW at hx
  rcases List.mem_append.1 hx with h | h
  · exact hw x (List.mem_of_mem_take h)
  · rcases List.mem_append.1 h with h | h
    · exact hV x h
    · exact hw x (List.mem_of_mem_drop h)
end
/-! ### both semispaces -/
/-- the words of both: the one that is left, the other one -/
def mkV (sp : Nat) (A B : List Int) : List Int := if sp = 0 then A ++ B else B ++ A
section
variable {sp H : Nat} {A B : List Int}
theorem mkV_len (hA : A.length = H) (hB : B.length = H) : (mkV sp A B).length = 2 * H := by unfold mkV; split <;> rw [List.length_append] <;> omega
theorem mkV_getA (hs : sp ≤ 1) (hA : A.length = H) (hB : B.length = H) {i : Nat} (hi : i < H) : (mkV sp A B).getD (sp * H + i) 0 = A.getD i 0 := by
  have h : sp = 0 ∨ sp = 1 := by omega
  unfold mkV
  rw [List.getD_eq_getElem?_getD, List.getD_eq_getElem?_getD]
  rcases h with rfl | rfl
  · rw [if_pos rfl, Nat.zero_mul, Nat.zero_add, List.getElem?_append_left (by omega)]
  · rw [if_neg (by omega), Nat.one_mul, List.getElem?_append_right (by omega), hB, Nat.add_sub_cancel_left]
theorem mkV_getB (hs : sp ≤ 1) (hA : A.length = H) (hB : B.length = H) {i : Nat} (hi : i < H) : (mkV sp A B).getD ((1 - sp) * H + i) 0 = B.getD i 0 := by
  have h : sp = 0 ∨ sp = 1 := by omega
  unfold mkV
  rw [List.getD_eq_getElem?_getD, List.getD_eq_getElem?_getD]
  rcases h with rfl | rfl
  · rw [if_pos rfl, Nat.sub_zero, Nat.one_mul, List.getElem?_append_right (by omega), hA, Nat.add_sub_cancel_left]
  · rw [if_neg (by omega), Nat.sub_self, Nat.zero_mul, Nat.zero_add, List.getElem?_append_left (by omega)]
theorem mkV_setA (hs : sp ≤ 1) (hA : A.length = H) (hB : B.length = H) {i : Nat} (hi : i < H) (v : Int) : (mkV sp A B).set (sp * H + i) v = mkV sp (A.set i v) B := by
  have h : sp = 0 ∨ sp = 1 := by omega
  unfold mkV
  rcases h with rfl | rfl
  · rw [if_pos rfl, if_pos rfl, Nat.zero_mul, Nat.zero_add, List.set_append_left _ _ (by omega)]
  · rw [if_neg (by omega), if_neg (by omega), Nat.one_mul, List.set_append_right _ _ (by omega), hB, Nat.add_sub_cancel_left]
theorem mkV_setB (hs : sp ≤ 1) (hA : A.length = H) (hB : B.length = H) {i : Nat} (hi : i < H) (v : Int) : (mkV sp A B).set ((1 - sp) * H + i) v = mkV sp A (B.set i v) := by
  have h : sp = 0 ∨ sp = 1 := by omega
  unfold mkV
  rcases h with rfl | rfl
  · rw [if_pos rfl, if_pos rfl, Nat.sub_zero, Nat.one_mul, List.set_append_right _ _ (by omega), hA, Nat.add_sub_cancel_left]
  · rw [if_neg (by omega), if_neg (by omega), Nat.sub_self, Nat.zero_mul, Nat.zero_add, List.set_append_left _ _ (by omega)]
/-- any row of both is one -/
theorem mkV_ex (hs : sp ≤ 1) {V : List Int} (hV : V.length = 2 * H) : ∃ A B, A.length = H ∧ B.length = H ∧ V = mkV sp A B := by
  have h : sp = 0 ∨ sp = 1 := by omega
  rcases h with rfl | rfl
  · exact ⟨V.take H, V.drop H, by rw [List.length_take]; omega, by rw [List.length_drop]; omega, by unfold mkV; rw [if_pos rfl, List.take_append_drop]⟩
  · exact ⟨V.drop H, V.take H, by rw [List.length_drop]; omega, by rw [List.length_take]; omega, by unfold mkV; rw [if_neg (by omega), List.take_append_drop]⟩
theorem mkV_swap (hs : sp ≤ 1) : mkV sp A B = mkV (1 - sp) B A := by
  have h : sp = 0 ∨ sp = 1 := by omega
  unfold mkV
  rcases h with rfl | rfl <;> simp
theorem mkV_drop (hs : sp ≤ 1) (hA : A.length = H) (hB : B.length = H) {k : Nat} (hk : k ≤ H) : ((mkV sp A B).drop (sp * H)).take k = A.take k := by
  have h : sp = 0 ∨ sp = 1 := by omega
  unfold mkV
  rcases h with rfl | rfl
  · rw [if_pos rfl, Nat.zero_mul, List.drop_zero, List.take_append_of_le_length (by omega)]
  · rw [if_neg (by omega), Nat.one_mul, ← hB, List.drop_left]
theorem mkV_mem {x : Int} (h : x ∈ mkV sp A B) : x ∈ A ∨ x ∈ B := by
  unfold mkV at h
  split at h
  · exact List.mem_append.1 h
  · exact (List.mem_append.1 h).symm
end
/-! ### what is moved -/
/-- how many words they take -/
def sizeF : List (Nat × Ob) → Nat
  | [] => 0
  | y :: F => wordsO y.2 + sizeF F
theorem sizeF_app (F G : List (Nat × Ob)) : sizeF (F ++ G) = sizeF F + sizeF G := by
  induction F with
  | nil => simp [sizeF]
  | cons y F ih => simp only [List.cons_append, sizeF]; omega
/-- how many words those ahead of a place's object take -/
def offF : List (Nat × Ob) → Nat → Nat
  | [], _ => 0
  | y :: F, a => if y.1 = a then 0 else wordsO y.2 + offF F a
def inF (F : List (Nat × Ob)) (a : Nat) : Bool := F.any fun y => decide (y.1 = a)
theorem inF_true {F : List (Nat × Ob)} {a : Nat} : inF F a = true ↔ ∃ y ∈ F, y.1 = a := by unfold inF; simp
theorem inF_app (F G : List (Nat × Ob)) (a : Nat) : inF (F ++ G) a = (inF F a || inF G a) := by unfold inF; rw [List.any_append]
theorem offF_app {F : List (Nat × Ob)} {a : Nat} (h : inF F a = true) (G : List (Nat × Ob)) : offF (F ++ G) a = offF F a := by
  induction F with
  | nil => simp [inF] at h
  | cons y F ih =>
    simp only [List.cons_append, offF]
    by_cases hy : y.1 = a
    · rw [if_pos hy, if_pos hy]
    · rw [if_neg hy, if_neg hy, ih (by unfold inF at h ⊢; simpa [hy] using h)]
theorem offF_new {F : List (Nat × Ob)} {y : Nat × Ob} (h : inF F y.1 = false) (G : List (Nat × Ob)) : offF (F ++ y :: G) y.1 = sizeF F := by
  induction F with
  | nil => simp [offF, sizeF]
  | cons z F ih =>
    have hz : ¬ z.1 = y.1 := fun e => by unfold inF at h; simp [e] at h
    simp only [List.cons_append, offF, sizeF]
    rw [if_neg hz, ih (by unfold inF at h ⊢; simpa [hz] using h)]
/-- the new word of a word -/
def newW (o0 o1 : Nat) (F : List (Nat × Ob)) (x : Int) : Int := if isIntW x = true then x else ((2 * (o1 + offF F ((x / 2).toNat - o0)) : Nat) : Int)
/-- one more word's object is moved, if it was not -/
def addF (o0 : Nat) (Hs F : List (Nat × Ob)) (x : Int) : List (Nat × Ob) := match getL o0 Hs x with
  | none => F
  | some y => if inF F y.1 then F else F ++ [y]
def growF (o0 : Nat) (Hs F : List (Nat × Ob)) (xs : List Int) : List (Nat × Ob) := xs.foldl (addF o0 Hs) F
theorem addF_pre (o0 : Nat) (Hs F : List (Nat × Ob)) (x : Int) : F <+: addF o0 Hs F x := by
  unfold addF
  split
  · exact List.prefix_rfl
  · split
    · exact List.prefix_rfl
    · exact List.prefix_append _ _
theorem growF_pre (o0 : Nat) (Hs : List (Nat × Ob)) (xs : List Int) : ∀ F, F <+: growF o0 Hs F xs := by
  induction xs with
  | nil => intro F; exact List.prefix_rfl
  | cons x xs ih => intro F; exact (addF_pre o0 Hs F x).trans (ih _)
/-- from the i-th on all fields' objects are moved -/
def scanF (o0 : Nat) (Hs : List (Nat × Ob)) : Nat → Nat → List (Nat × Ob) → List (Nat × Ob)
  | 0, _, F => F
  | k + 1, i, F => match F[i]? with
    | none => F
    | some y => scanF o0 Hs k (i + 1) (growF o0 Hs F y.2.fields)
theorem scanF_pre (o0 : Nat) (Hs : List (Nat × Ob)) : ∀ k i F, F <+: scanF o0 Hs k i F := by
  intro k
  induction k with
  | zero => intro i F; exact List.prefix_rfl
  | succ k ih =>
    intro i F
    unfold scanF
    split
    · exact List.prefix_rfl
    · exact (growF_pre o0 Hs _ F).trans (ih _ _)
theorem scanF_end {o0 : Nat} {Hs : List (Nat × Ob)} {k i : Nat} {F : List (Nat × Ob)} (h : F.length ≤ i) : scanF o0 Hs k i F = F := by
  cases k with
  | zero => rfl
  | succ k => unfold scanF; rw [List.getElem?_eq_none h]
/-- all that is moved, in order -/
def liveF (o0 : Nat) (Hs : List (Nat × Ob)) (roots : List Int) : List (Nat × Ob) := scanF o0 Hs Hs.length 0 (growF o0 Hs [] roots)
/-- those that are moved are objects that are, each once -/
structure FinF (Hs F : List (Nat × Ob)) : Prop where
  sub : ∀ y ∈ F, y ∈ Hs
  nd : F.Pairwise fun a b => a.1 ≠ b.1
theorem FinF.nil (Hs : List (Nat × Ob)) : FinF Hs [] := ⟨fun y h => (by cases h), List.Pairwise.nil⟩
theorem FinF.add {o0 : Nat} {Hs F : List (Nat × Ob)} (h : FinF Hs F) (x : Int) : FinF Hs (addF o0 Hs F x) := by
  unfold addF
  split
  · exact h
  · rename_i y hy
    split
    · exact h
    · rename_i hin
      refine ⟨fun z hz => ?_, List.pairwise_append.2 ⟨h.nd, List.pairwise_singleton _ _, fun a ha b hb e => ?_⟩⟩
      · rcases List.mem_append.1 hz with hz | hz
        · exact h.sub z hz
        · rw [List.mem_singleton.1 hz]; exact (getL_some hy).1
      · rw [List.mem_singleton.1 hb] at e
        exact hin (inF_true.2 ⟨a, ha, e⟩)
theorem FinF.grow {o0 : Nat} {Hs : List (Nat × Ob)} (xs : List Int) : ∀ {F : List (Nat × Ob)}, FinF Hs F → FinF Hs (growF o0 Hs F xs) := by
  induction xs with
  | nil => intro F h; exact h
  | cons x xs ih => intro F h; exact ih (h.add x)
theorem FinF.scan {o0 : Nat} {Hs : List (Nat × Ob)} : ∀ (k i : Nat) {F : List (Nat × Ob)}, FinF Hs F → FinF Hs (scanF o0 Hs k i F) := by
  intro k
  induction k with
  | zero => intro i F h; exact h
  | succ k ih =>
    intro i F h
    unfold scanF
    split
    · exact h
    · exact ih _ (h.grow _)
theorem FinF.live (o0 : Nat) (Hs : List (Nat × Ob)) (roots : List Int) : FinF Hs (liveF o0 Hs roots) := ((FinF.nil Hs).grow roots).scan _ _
theorem FinF.pre {Hs F G : List (Nat × Ob)} (h : FinF Hs G) (hp : F <+: G) : FinF Hs F := by
  obtain ⟨T, rfl⟩ := hp
  exact ⟨fun y hy => h.sub y (List.mem_append_left _ hy), (List.pairwise_append.1 h.nd).1⟩
/-- they take no more words, and are no more, than all -/
theorem FinF.size {F : List (Nat × Ob)} : ∀ {Hs : List (Nat × Ob)}, FinF Hs F → sizeF F ≤ sizeF Hs ∧ F.length ≤ Hs.length := by
  induction F with
  | nil => intro Hs _; exact ⟨Nat.zero_le _, Nat.zero_le _⟩
  | cons y F ih =>
    intro Hs h
    obtain ⟨A, B, rfl⟩ := List.append_of_mem (h.sub y (.head _))
    have hnd := List.pairwise_cons.1 h.nd
    have h2 : FinF (A ++ B) F := ⟨fun z hz => by
      have h3 := h.sub z (.tail _ hz)
      have h4 := hnd.1 z hz
      rcases List.mem_append.1 h3 with h3 | h3
      · exact List.mem_append_left _ h3
      · rcases List.mem_cons.1 h3 with rfl | h3
        · exact absurd rfl h4
        · exact List.mem_append_right _ h3, hnd.2⟩
    have := ih h2
    rw [sizeF_app, List.length_append] at this
    rw [sizeF_app, List.length_append]
    simp only [sizeF, List.length_cons]
    omega
end Go.Proofs.YtgiopklnielglaaDoor
/- A collection's state: what both semispaces hold. Plain. -/
namespace Go.Proofs.YtgiopklnielglaaDoor
open Go.RowKit Go.Maps Arena
set_option maxRecDepth 100000
/-- the objects of a heap: apart, within the semispace -/
structure HsOK (H : Nat) (Hs : List (Nat × Ob)) : Prop where
  apart : Hs.Pairwise fun a b => a.1 + wordsO a.2 ≤ b.1
  fit : ∀ y ∈ Hs, y.1 + wordsO y.2 ≤ H
  may : ∀ y ∈ Hs, mayO y.2 = true
  size : sizeF Hs ≤ H
theorem wordsO_pos (o : Ob) : 1 ≤ wordsO o := by unfold wordsO; omega
theorem objs_apart {S : List Int} {L : List (Nat × Ob)} {a : Nat} (h : objs S a = some L) : L.Pairwise (fun x y => x.1 + wordsO x.2 ≤ y.1) ∧ (∀ y ∈ L, a ≤ y.1) ∧ sizeF L = S.length := by
  have := objs_ind (P := fun S a L => L.Pairwise (fun x y => x.1 + wordsO x.2 ≤ y.1) ∧ (∀ y ∈ L, a ≤ y.1) ∧ sizeF L = S.length) (fun a => ⟨.nil, fun y h => (by cases h), rfl⟩)
    (fun S a o L hS hr ⟨h1, h2, h3⟩ => by
      obtain ⟨w1, w2, w3⟩ := readS_words hr
      refine ⟨List.pairwise_cons.2 ⟨fun y hy => h2 y hy, h1⟩, fun y hy => ?_, ?_⟩
      · rcases List.mem_cons.1 hy with rfl | hy
        · exact Nat.le_refl _
        · have := h2 y hy; omega
      · simp only [sizeF, h3, List.length_drop]; omega) S.length (Nat.le_refl _) h
  exact this
theorem HsOK.inj {H : Nat} {Hs : List (Nat × Ob)} (h : HsOK H Hs) {x y : Nat × Ob} (hx : x ∈ Hs) (hy : y ∈ Hs) (e : x.1 = y.1) : x = y := by
  refine places_inj (h.apart.imp fun {a b} hab => ?_) hy hx e
  have := wordsO_pos a.2
  omega
theorem HsOK.far {H : Nat} {Hs : List (Nat × Ob)} (h : HsOK H Hs) {x y : Nat × Ob} (hx : x ∈ Hs) (hy : y ∈ Hs) (e : x.1 ≠ y.1) : x.1 + wordsO x.2 ≤ y.1 ∨ y.1 + wordsO y.2 ≤ x.1 := by
  obtain ⟨i, hi, rfl⟩ := List.getElem_of_mem hx
  obtain ⟨j, hj, rfl⟩ := List.getElem_of_mem hy
  rcases Nat.lt_trichotomy i j with hij | rfl | hij
  · exact .inl (List.pairwise_iff_getElem.1 h.apart i j hi hj hij)
  · exact absurd rfl e
  · exact .inr (List.pairwise_iff_getElem.1 h.apart j i hj hi hij)
/-! ### an object with other fields -/
def mapUp (f : Int → Int) (j : Nat) (o : Ob) : Ob := { o with fields := (o.fields.take j).map f ++ o.fields.drop j }
def mapO (f : Int → Int) (o : Ob) : Ob := { o with fields := o.fields.map f }
theorem mapUp_len (f : Int → Int) (j : Nat) (o : Ob) : (mapUp f j o).fields.length = o.fields.length := by
  unfold mapUp
  simp only [List.length_append, List.length_map, List.length_take, List.length_drop]
  omega
theorem mapUp_zero (f : Int → Int) (o : Ob) : mapUp f 0 o = o := by unfold mapUp; simp
theorem mapUp_all (f : Int → Int) {j : Nat} {o : Ob} (h : o.fields.length ≤ j) : mapUp f j o = mapO f o := by
  unfold mapUp mapO
  rw [List.take_of_length_le h, List.drop_eq_nil_of_le h, List.append_nil]
theorem mapO_is (f : Int → Int) (o : Ob) : mapO f o = mapUp f o.fields.length o := (mapUp_all f (Nat.le_refl _)).symm
theorem mapUp_words (f : Int → Int) (j : Nat) (o : Ob) : wordsO (mapUp f j o) = wordsO o := by
  unfold wordsO
  rw [mapUp_len]
  rfl
theorem mapUp_may (f : Int → Int) (j : Nat) (o : Ob) : mayO (mapUp f j o) = mayO o := by
  unfold mayO
  rw [mapUp_len]
  rfl
theorem mapUp_head (f : Int → Int) (j : Nat) (o : Ob) : headO (mapUp f j o) = headO o := by
  unfold headO
  rw [mapUp_len]
  rfl
theorem mapO_words (f : Int → Int) (o : Ob) : wordsO (mapO f o) = wordsO o := by rw [mapO_is, mapUp_words]
theorem mapO_may (f : Int → Int) (o : Ob) : mayO (mapO f o) = mayO o := by rw [mapO_is, mapUp_may]
theorem mapUp_get (f : Int → Int) {j : Nat} {o : Ob} {x : Int} (h : o.fields[j]? = some x) : (mapUp f j o).fields[j]? = some x := by
  have hj := (List.getElem?_eq_some_iff.1 h).1
  unfold mapUp
  dsimp only
  rw [List.getElem?_append_right (by simp; omega), List.length_map, List.length_take, Nat.min_eq_left (by omega), Nat.sub_self, List.getElem?_drop, Nat.add_zero]
  exact h
theorem mapUp_set (f : Int → Int) {j : Nat} {o : Ob} {x : Int} (h : o.fields[j]? = some x) : (mapUp f j o).fields.set j (f x) = (mapUp f (j + 1) o).fields := by
  obtain ⟨hj, rfl⟩ := List.getElem?_eq_some_iff.1 h
  unfold mapUp
  dsimp only
  rw [List.set_append_right _ _ (by simp; omega), List.length_map, List.length_take, Nat.min_eq_left (by omega), Nat.sub_self, List.drop_eq_getElem_cons hj, List.set_cons_zero, List.take_succ_eq_append_getElem hj, List.map_append]
  simp
theorem lay_get {o : Ob} (h2 : o.kind ≠ 2) {j : Nat} {x : Int} (h : o.fields[j]? = some x) : (layO o)[1 + j]? = some x := by
  unfold layO bodyO
  rw [if_neg h2, Nat.add_comm, List.getElem?_cons_succ]
  exact h
theorem lay_set (f : Int → Int) {o : Ob} (h2 : o.kind ≠ 2) {j : Nat} {x : Int} (h : o.fields[j]? = some x) : (layO (mapUp f j o)).set (1 + j) (f x) = layO (mapUp f (j + 1) o) := by
  have h3 : (mapUp f j o).kind ≠ 2 := h2
  have h4 : (mapUp f (j + 1) o).kind ≠ 2 := h2
  unfold layO bodyO
  rw [if_neg h3, if_neg h4, Nat.add_comm, List.set_cons_succ, mapUp_set f h, mapUp_head, mapUp_head]
/-- the objects as they stand: those ahead of the i-th are done, of the i-th so many fields -/
def objsAt (f : Int → Int) (i j : Nat) (F : List (Nat × Ob)) : List Ob := F.mapIdx fun k y => if k < i then mapO f y.2 else if k = i then mapUp f j y.2 else y.2
theorem objsAt_len (f : Int → Int) (i j : Nat) (F : List (Nat × Ob)) : (objsAt f i j F).length = F.length := by unfold objsAt; rw [List.length_mapIdx]
theorem objsAt_get (f : Int → Int) (i j : Nat) (F : List (Nat × Ob)) (k : Nat) : (objsAt f i j F)[k]? = F[k]?.map fun y => if k < i then mapO f y.2 else if k = i then mapUp f j y.2 else y.2 := by unfold objsAt; rw [List.getElem?_mapIdx]
theorem objsAt_app (f : Int → Int) {i j : Nat} {F : List (Nat × Ob)} (h : i < F.length) (y : Nat × Ob) : objsAt f i j (F ++ [y]) = objsAt f i j F ++ [y.2] := by
  unfold objsAt
  rw [List.mapIdx_append]
  congr 1
  simp only [List.mapIdx_cons, List.mapIdx_nil, List.cons.injEq, and_true]
  rw [if_neg (by omega), if_neg (by omega)]
theorem objsAt_zero (f : Int → Int) (F : List (Nat × Ob)) : objsAt f 0 0 F = F.map (·.2) := by
  apply List.ext_getElem?
  intro k
  rw [objsAt_get, List.getElem?_map]
  cases F[k]? with
  | none => rfl
  | some y =>
    simp only [Option.map_some, Option.some.injEq]
    rw [if_neg (by omega)]
    split
    · exact mapUp_zero _ _
    · rfl
theorem objsAt_next (f : Int → Int) {i j : Nat} {F : List (Nat × Ob)} {y : Nat × Ob} (hy : F[i]? = some y) (hj : y.2.fields.length ≤ j) : objsAt f i j F = objsAt f (i + 1) 0 F := by
  apply List.ext_getElem?
  intro k
  rw [objsAt_get, objsAt_get]
  cases hk : F[k]? with
  | none => rfl
  | some z =>
    simp only [Option.map_some, Option.some.injEq]
    by_cases h1 : k < i
    · rw [if_pos h1, if_pos (by omega)]
    · rw [if_neg h1]
      by_cases h2 : k = i
      · subst h2
        rw [hy] at hk
        obtain rfl := Option.some.inj hk
        rw [if_pos rfl, if_pos (by omega), mapUp_all f hj]
      · rw [if_neg h2, if_neg (by omega)]
        split
        · exact (mapUp_zero _ _).symm
        · rfl
theorem objsAt_set (f : Int → Int) {i j : Nat} {F : List (Nat × Ob)} {y : Nat × Ob} (hy : F[i]? = some y) : (objsAt f i j F).set i (mapUp f (j + 1) y.2) = objsAt f i (j + 1) F := by
  apply List.ext_getElem?
  intro k
  by_cases hk : i = k
  · subst hk
    rw [List.getElem?_set_self (by rw [objsAt_len]; exact (List.getElem?_eq_some_iff.1 hy).1), objsAt_get, hy]
    simp
  · rw [List.getElem?_set_ne hk, objsAt_get, objsAt_get]
    cases F[k]? with
    | none => rfl
    | some z => simp only [Option.map_some, Option.some.injEq]; rw [if_neg (show ¬ k = i by omega), if_neg (show ¬ k = i by omega)]
theorem objsAt_done (f : Int → Int) {i j : Nat} {F : List (Nat × Ob)} (h : F.length ≤ i) : objsAt f i j F = F.map fun y => mapO f y.2 := by
  apply List.ext_getElem?
  intro k
  rw [objsAt_get, List.getElem?_map]
  cases hk : F[k]? with
  | none => rfl
  | some y =>
    have := (List.getElem?_eq_some_iff.1 hk).1
    simp only [Option.map_some, Option.some.injEq]
    rw [if_pos (by omega)]
/-! ### rows of words, side by side -/
def layL (L : List Ob) : List Int := (L.map layO).flatten
def sizeL : List Ob → Nat
  | [] => 0
  | o :: L => wordsO o + sizeL L
theorem sizeL_app (L M : List Ob) : sizeL (L ++ M) = sizeL L + sizeL M := by
  induction L with
  | nil => simp [sizeL]
  | cons y F ih => simp only [List.cons_append, sizeL]; omega
theorem layL_len {L : List Ob} (h : ∀ o ∈ L, mayO o = true) : (layL L).length = sizeL L := by
  induction L with
  | nil => rfl
  | cons o L ih =>
    unfold layL at ih ⊢
    simp only [List.map_cons, List.flatten_cons, List.length_append, sizeL]
    rw [layO_len (h o (.head _)), ih (fun o ho => h o (.tail _ ho))]
theorem layL_app (L M : List Ob) : layL (L ++ M) = layL L ++ layL M := by unfold layL; rw [List.map_append, List.flatten_append]
theorem layL_get {L : List Ob} (h : ∀ o ∈ L, mayO o = true) {i : Nat} {o : Ob} (ho : L[i]? = some o) {k : Nat} (hk : k < wordsO o) : (layL L)[sizeL (L.take i) + k]? = (layO o)[k]? := by
  induction L generalizing i with
  | nil => simp at ho
  | cons p L ih =>
    have hl := layO_len (h p (.head _))
    cases i with
    | zero =>
      obtain rfl := Option.some.inj ho
      unfold layL
      simp only [List.map_cons, List.flatten_cons, List.take_zero, sizeL, Nat.zero_add]
      rw [List.getElem?_append_left (by omega)]
    | succ i =>
      have := ih (fun o ho => h o (.tail _ ho)) (i := i) (by simpa using ho)
      unfold layL at this ⊢
      simp only [List.map_cons, List.flatten_cons, List.take_succ_cons, sizeL]
      rw [List.getElem?_append_right (by omega), hl, show wordsO p + sizeL (L.take i) + k - wordsO p = sizeL (L.take i) + k by omega]
      exact this
theorem layL_set {L : List Ob} (h : ∀ o ∈ L, mayO o = true) {i : Nat} {o o' : Ob} (ho : L[i]? = some o) {k : Nat} (hk : k < wordsO o) {v : Int} (hs : (layO o).set k v = layO o') : (layL L).set (sizeL (L.take i) + k) v = layL (L.set i o') := by
  induction L generalizing i with
  | nil => simp at ho
  | cons p L ih =>
    have hl := layO_len (h p (.head _))
    cases i with
    | zero =>
      obtain rfl := Option.some.inj ho
      unfold layL
      simp only [List.map_cons, List.flatten_cons, List.take_zero, sizeL, Nat.zero_add, List.set_cons_zero]
      rw [List.set_append_left _ _ (by omega), hs]
    | succ i =>
      have := ih (fun o ho => h o (.tail _ ho)) (i := i) (by simpa using ho)
      unfold layL at this ⊢
      simp only [List.map_cons, List.flatten_cons, List.take_succ_cons, sizeL, List.set_cons_succ]
      rw [List.set_append_right _ _ (by omega), hl, show wordsO p + sizeL (L.take i) + k - wordsO p = sizeL (L.take i) + k by omega, this]
theorem objsAt_sizes (f : Int → Int) (i j : Nat) (F : List (Nat × Ob)) (k : Nat) : sizeL ((objsAt f i j F).take k) = sizeF (F.take k) := by
  induction k with
  | zero => simp [sizeL, sizeF]
  | succ k ih =>
    rw [List.take_add_one, List.take_add_one, sizeL_app, sizeF_app, ih, objsAt_get]
    cases F[k]? with
    | none => rfl
    | some y =>
      simp only [Option.map_some, Option.toList_some, sizeL, sizeF]
      split
      · rw [mapO_words]
      · split
        · rw [mapUp_words]
        · rfl
theorem objsAt_size (f : Int → Int) (i j : Nat) (F : List (Nat × Ob)) : sizeL (objsAt f i j F) = sizeF F := by
  have := objsAt_sizes f i j F F.length
  rwa [List.take_of_length_le (by rw [objsAt_len]; exact Nat.le_refl _), List.take_length] at this
theorem objsAt_may (f : Int → Int) (i j : Nat) {F : List (Nat × Ob)} (h : ∀ y ∈ F, mayO y.2 = true) : ∀ o ∈ objsAt f i j F, mayO o = true := by
  intro o ho
  obtain ⟨k, hk⟩ := List.getElem?_of_mem ho
  rw [objsAt_get] at hk
  cases hy : F[k]? with
  | none => rw [hy] at hk; cases hk
  | some y =>
    rw [hy] at hk
    simp only [Option.map_some, Option.some.injEq] at hk
    have := h y (List.mem_of_getElem? hy)
    rw [← hk]
    split
    · rw [mapO_may]; exact this
    · split
      · rw [mapUp_may]; exact this
      · exact this
end Go.Proofs.YtgiopklnielglaaDoor
/- A mover's state, and its steps. Plain. -/
namespace Go.Proofs.YtgiopklnielglaaDoor
open Go.RowKit Go.Maps Arena
set_option maxRecDepth 100000
def movedW (t : Nat) : Int := 5 + 256 * (t : Int)
/-- the semispace that is left, the other one: what was moved stands in order in the other one -/
structure MvSt (o1 H : Nat) (Hs Fin F : List (Nat × Ob)) (L : List Ob) (A B : List Int) : Prop where
  lenA : A.length = H
  hs : HsOK H Hs
  fin : FinF Hs Fin
  pre : F <+: Fin
  keep : ∀ y ∈ Hs, inF F y.1 = false → ∀ k, k < wordsO y.2 → A[y.1 + k]? = (layO y.2)[k]?
  mvd : ∀ y ∈ F, A[y.1]? = some (movedW (o1 + offF Fin y.1))
  b : B = layL L ++ List.replicate (H - sizeF F) 0
  sz : sizeL L = sizeF F
  may : ∀ o ∈ L, mayO o = true
section
variable {o1 H : Nat} {Hs Fin F : List (Nat × Ob)} {L : List Ob} {A B : List Int}
theorem MvSt.fits (h : MvSt o1 H Hs Fin F L A B) : sizeF F ≤ H := by
  have := (h.fin.pre h.pre).size.1
  have := h.hs.size
  omega
theorem MvSt.lenB (h : MvSt o1 H Hs Fin F L A B) : B.length = H := by
  rw [h.b, List.length_append, layL_len h.may, h.sz, List.length_replicate]
  have := h.fits
  omega
theorem mvSt_start (hA : A.length = H) (hH : HsOK H Hs) (hF : FinF Hs Fin) (hk : ∀ y ∈ Hs, ∀ k, k < wordsO y.2 → A[y.1 + k]? = (layO y.2)[k]?) : MvSt o1 H Hs Fin [] [] A (List.replicate H 0) :=
  ⟨hA, hH, hF, List.nil_prefix, fun y hy _ => hk y hy, fun y h => (by cases h), by simp [layL, sizeF], rfl, fun o h => (by cases h)⟩
/-- a new one fits -/
theorem MvSt.room (h : MvSt o1 H Hs Fin F L A B) {y : Nat × Ob} (hp : F ++ [y] <+: Fin) : sizeF F + wordsO y.2 ≤ H := by
  have h1 := (h.fin.pre hp).size.1
  have := h.hs.size
  rw [sizeF_app] at h1
  simp only [sizeF] at h1
  omega
/-- the other semispace while so many words of one more object were set -/
def cpB (H : Nat) (L : List Ob) (o : Ob) (i : Nat) : List Int := layL L ++ ((layO o).take i ++ List.replicate (H - sizeL L - i) 0)
theorem cpB_zero (h : MvSt o1 H Hs Fin F L A B) (o : Ob) : cpB H L o 0 = B := by
  unfold cpB
  rw [h.b, h.sz]
  simp
theorem cpB_len {o : Ob} (hL : ∀ o ∈ L, mayO o = true) (hf : sizeL L + wordsO o ≤ H) (ho : mayO o = true) {i : Nat} (hi : i ≤ wordsO o) : (cpB H L o i).length = H := by
  unfold cpB
  have := layO_len ho
  rw [List.length_append, List.length_append, layL_len hL, List.length_take, List.length_replicate]
  omega
theorem cpB_set {o : Ob} (hL : ∀ o ∈ L, mayO o = true) (hf : sizeL L + wordsO o ≤ H) (ho : mayO o = true) {i : Nat} {x : Int} (hx : (layO o)[i]? = some x) : (cpB H L o i).set (sizeL L + i) x = cpB H L o (i + 1) := by
  obtain ⟨hi, rfl⟩ := List.getElem?_eq_some_iff.1 hx
  have hl := layO_len ho
  unfold cpB
  rw [List.set_append_right _ _ (by rw [layL_len hL]; omega), layL_len hL, Nat.add_sub_cancel_left, List.set_append_right _ _ (by rw [List.length_take]; omega), List.length_take, Nat.min_eq_left (by omega), Nat.sub_self]
  congr 1
  rw [show H - sizeL L - i = (H - sizeL L - (i + 1)) + 1 by omega, List.replicate_succ, List.set_cons_zero, List.take_succ_eq_append_getElem hi, List.append_assoc]
  rfl
/-- one more object is moved -/
theorem MvSt.add (h : MvSt o1 H Hs Fin F L A B) {y : Nat × Ob} (hy : y ∈ Hs) (hn : inF F y.1 = false) (hp : F ++ [y] <+: Fin) : MvSt o1 H Hs Fin (F ++ [y]) (L ++ [y.2]) (A.set y.1 (movedW (o1 + sizeF F))) (cpB H L y.2 (wordsO y.2)) := by
  have hr := h.room hp
  have hl := layO_len (h.hs.may y hy)
  have hw := wordsO_pos y.2
  have hfit := h.hs.fit y hy
  refine ⟨by rw [List.length_set]; exact h.lenA, h.hs, h.fin, hp, fun z hz hzn k hk => ?_, fun z hz => ?_, ?_, ?_, ?_⟩
  · rw [inF_app, Bool.or_eq_false_iff] at hzn
    have hne : z.1 ≠ y.1 := fun e => by have := hzn.2; unfold inF at this; simp [e] at this
    have hfar := h.hs.far hz hy hne
    have := h.keep z hz hzn.1 k hk
    rw [List.getElem?_set_ne (by omega)]
    exact this
  · obtain ⟨T, hT⟩ := hp
    rcases List.mem_append.1 hz with hz | hz
    · have hne : z.1 ≠ y.1 := fun e => by rw [inF_true.2 ⟨z, hz, e⟩] at hn; cases hn
      rw [List.getElem?_set_ne (Ne.symm hne)]
      exact h.mvd z hz
    · obtain rfl := List.mem_singleton.1 hz
      rw [List.getElem?_set_self (by rw [h.lenA]; omega)]
      have : offF Fin z.1 = sizeF F := by
        rw [← hT, List.append_assoc, List.singleton_append]
        exact offF_new hn T
      rw [this]
  · unfold cpB
    rw [layL_app, List.append_assoc, sizeF_app, ← h.sz]
    have e1 : layL [y.2] = layO y.2 := by unfold layL; simp
    rw [e1, List.take_of_length_le (by omega)]
    simp only [sizeF, Nat.add_zero]
    rw [show H - sizeL L - wordsO y.2 = H - (sizeL L + wordsO y.2) by omega]
  · rw [sizeL_app, sizeF_app, h.sz]
    rfl
  · intro o ho
    rcases List.mem_append.1 ho with ho | ho
    · exact h.may o ho
    · rw [List.mem_singleton.1 ho]; exact h.hs.may y hy
/-- a word of what was moved -/
theorem MvSt.getB (h : MvSt o1 H Hs Fin F L A B) {i : Nat} {o : Ob} (ho : L[i]? = some o) {k : Nat} (hk : k < wordsO o) : B[sizeL (L.take i) + k]? = (layO o)[k]? := by
  have hg := layL_get h.may ho hk
  have hl := layO_len (h.may o (List.mem_of_getElem? ho))
  have : sizeL (L.take i) + k < (layL L).length := by
    rw [List.getElem?_eq_getElem (by omega : k < (layO o).length)] at hg
    exact (List.getElem?_eq_some_iff.1 hg).1
  rw [h.b, List.getElem?_append_left this, hg]
/-- a word of it is another one -/
theorem MvSt.setB (h : MvSt o1 H Hs Fin F L A B) {i : Nat} {o o' : Ob} (ho : L[i]? = some o) {k : Nat} (hk : k < wordsO o) {v : Int} (hs : (layO o).set k v = layO o') (hw : wordsO o' = wordsO o) (hm : mayO o' = true) : MvSt o1 H Hs Fin F (L.set i o') A (B.set (sizeL (L.take i) + k) v) := by
  have hg := layL_get h.may ho hk
  have hl := layO_len (h.may o (List.mem_of_getElem? ho))
  have hlt : sizeL (L.take i) + k < (layL L).length := by
    rw [List.getElem?_eq_getElem (by omega : k < (layO o).length)] at hg
    exact (List.getElem?_eq_some_iff.1 hg).1
  have hsz : ∀ (M : List Ob) (i : Nat), M[i]? = some o → sizeL (M.set i o') = sizeL M := by
    intro M
    induction M with
    | nil => intro i h; simp at h
    | cons p M ih =>
      intro i hi
      cases i with
      | zero => obtain rfl := Option.some.inj hi; simp only [List.set_cons_zero, sizeL, hw]
      | succ i => simp only [List.set_cons_succ, sizeL]; rw [ih i (by simpa using hi)]
  refine ⟨h.lenA, h.hs, h.fin, h.pre, h.keep, h.mvd, ?_, by rw [hsz L i ho]; exact h.sz, fun p hp => ?_⟩
  · rw [h.b, List.set_append_left _ _ hlt, layL_set h.may ho hk hs]
  · rcases List.mem_or_eq_of_mem_set hp with hp | rfl
    · exact h.may p hp
    · exact hm
end
/-- the place of the i-th that was moved -/
theorem offF_at {Hs F : List (Nat × Ob)} (h : FinF Hs F) {i : Nat} {y : Nat × Ob} (hy : F[i]? = some y) : offF F y.1 = sizeF (F.take i) := by
  obtain ⟨hi, rfl⟩ := List.getElem?_eq_some_iff.1 hy
  have hsplit : F = F.take i ++ F[i] :: F.drop (i + 1) := by
    conv => lhs; rw [← List.take_append_drop i F, List.drop_eq_getElem_cons hi]
  have hn : inF (F.take i) (F[i]).1 = false := by
    cases hc : inF (F.take i) (F[i]).1 with
    | false => rfl
    | true =>
      obtain ⟨z, hz, e⟩ := inF_true.1 hc
      obtain ⟨j, hj, rfl⟩ := List.getElem_of_mem hz
      rw [List.getElem_take] at e
      rw [List.length_take] at hj
      exact absurd e (List.pairwise_iff_getElem.1 h.nd j i (by omega) hi (by omega))
  have e := offF_new hn (F.drop (i + 1))
  rw [← hsplit] at e
  exact e
/-- what the other semispace holds in the end -/
def gcB (H : Nat) (f : Int → Int) (F : List (Nat × Ob)) : List Int := layL (F.map fun y => mapO f y.2) ++ List.replicate (H - sizeF F) 0
theorem MvSt.done {o1 H : Nat} {Hs F : List (Nat × Ob)} {f : Int → Int} {i j : Nat} {A B : List Int} (h : MvSt o1 H Hs F F (objsAt f i j F) A B) (hi : F.length ≤ i) : B = gcB H f F := by
  rw [h.b, objsAt_done f hi]
  rfl
/-- of a word that is a number, or an object's, the new word -/
theorem newW_of {o0 o1 : Nat} {Hs F : List (Nat × Ob)} {x : Int} {y : Nat × Ob} (hg : getL o0 Hs x = some y) : newW o0 o1 F x = ((2 * (o1 + offF F y.1) : Nat) : Int) := by
  obtain ⟨_, h1, h2, _⟩ := getL_some hg
  unfold newW
  rw [if_neg (by rw [h2]; simp), show (x / 2).toNat - o0 = y.1 by omega]
theorem newW_int {o0 o1 : Nat} {F : List (Nat × Ob)} {x : Int} (h : isIntW x = true) : newW o0 o1 F x = x := by unfold newW; rw [if_pos h]
/-- a word that may be a field: a number, or an object's -/
theorem ok_cases {o0 : Nat} {Hs : List (Nat × Ob)} {x : Int} (h : fieldOK (Hs.map (·.1)) o0 x = true) (_hx : W64 x) : isIntW x = true ∨ ∃ y, getL o0 Hs x = some y := by
  by_cases hi : isIntW x = true
  · exact .inl hi
  · right
    unfold fieldOK at h
    simp only [Bool.or_eq_true, hi, Bool.false_eq_true, false_or, Bool.and_eq_true, decide_eq_true_eq, List.any_eq_true] at h
    obtain ⟨h1, a, ha, h2⟩ := h
    obtain ⟨y, hy, rfl⟩ := List.mem_map.1 ha
    unfold getL
    rw [if_neg (by intro h; rcases h with h | h; exact hi h; omega)]
    cases hf : Hs.find? (fun z => decide (((o0 + z.1 : Nat) : Int) = x / 2)) with
    | some z => exact ⟨z, rfl⟩
    | none =>
      have := List.find?_eq_none.1 hf y hy
      simp only [decide_eq_true_eq] at this
      exact absurd h2 this
theorem addF_int {o0 : Nat} {Hs F : List (Nat × Ob)} {x : Int} (h : isIntW x = true) : addF o0 Hs F x = F := by
  unfold addF getL
  rw [if_pos (.inl h)]
theorem addF_seen {o0 : Nat} {Hs F : List (Nat × Ob)} {x : Int} {y : Nat × Ob} (hg : getL o0 Hs x = some y) (h : inF F y.1 = true) : addF o0 Hs F x = F := by
  unfold addF
  rw [hg]
  simp only
  rw [if_pos h]
theorem addF_new {o0 : Nat} {Hs F : List (Nat × Ob)} {x : Int} {y : Nat × Ob} (hg : getL o0 Hs x = some y) (h : inF F y.1 = false) : addF o0 Hs F x = F ++ [y] := by
  unfold addF
  rw [hg]
  simp only
  rw [if_neg (by rw [h]; simp)]
/-- of one that was moved, which it is -/
theorem seen_get {Hs F : List (Nat × Ob)} {H : Nat} (hH : HsOK H Hs) (hs : ∀ z ∈ F, z ∈ Hs) {y : Nat × Ob} (hy : y ∈ Hs) (h : inF F y.1 = true) : y ∈ F := by
  obtain ⟨z, hz, e⟩ := inF_true.1 h
  rw [hH.inj hy (hs z hz) e.symm]
  exact hz
/-! ### the state of what is still to come -/
/-- from here on the rest leads to just what it leads to in all -/
def Rest0 (o0 : Nat) (Hs Fin : List (Nat × Ob)) (F : List (Nat × Ob)) (xs : List Int) : Prop := scanF o0 Hs Hs.length 0 (growF o0 Hs F xs) = Fin
def Rest1 (o0 : Nat) (Hs Fin : List (Nat × Ob)) (i : Nat) (F : List (Nat × Ob)) : Prop := ∃ k, Hs.length ≤ k + i ∧ scanF o0 Hs k i F = Fin
def Rest2 (o0 : Nat) (Hs Fin : List (Nat × Ob)) (i : Nat) (F : List (Nat × Ob)) (xs : List Int) : Prop := Rest1 o0 Hs Fin (i + 1) (growF o0 Hs F xs)
section
variable {o0 : Nat} {Hs Fin F : List (Nat × Ob)} {i : Nat}
theorem rest0_step {x : Int} {xs : List Int} (h : Rest0 o0 Hs Fin F (x :: xs)) : Rest0 o0 Hs Fin (addF o0 Hs F x) xs := h
theorem rest0_pre {xs : List Int} (h : Rest0 o0 Hs Fin F xs) : F <+: Fin := h ▸ (growF_pre o0 Hs xs F).trans (scanF_pre ..)
theorem rest0_scan (h : Rest0 o0 Hs Fin F []) : Rest1 o0 Hs Fin 0 F := ⟨Hs.length, Nat.le_refl _, h⟩
theorem rest1_pre (h : Rest1 o0 Hs Fin i F) : F <+: Fin := by obtain ⟨k, _, h⟩ := h; exact h ▸ scanF_pre ..
theorem rest1_end (h : Rest1 o0 Hs Fin i F) (hi : F.length ≤ i) : F = Fin := by obtain ⟨k, _, h⟩ := h; rw [scanF_end hi] at h; exact h
theorem rest1_open (h : Rest1 o0 Hs Fin i F) (hF : F.length ≤ Hs.length) {y : Nat × Ob} (hy : F[i]? = some y) : Rest2 o0 Hs Fin i F y.2.fields := by
  obtain ⟨k, hk, h⟩ := h
  have := (List.getElem?_eq_some_iff.1 hy).1
  obtain ⟨k, rfl⟩ : ∃ k', k = k' + 1 := ⟨k - 1, by omega⟩
  unfold scanF at h
  rw [hy] at h
  exact ⟨k, by omega, h⟩
theorem rest2_step {x : Int} {xs : List Int} (h : Rest2 o0 Hs Fin i F (x :: xs)) : Rest2 o0 Hs Fin i (addF o0 Hs F x) xs := h
theorem rest2_pre {xs : List Int} (h : Rest2 o0 Hs Fin i F xs) : F <+: Fin := (growF_pre o0 Hs xs F).trans (rest1_pre h)
theorem rest2_end (h : Rest2 o0 Hs Fin i F []) : Rest1 o0 Hs Fin (i + 1) F := h
end
theorem rest0_start (o0 : Nat) (Hs : List (Nat × Ob)) (roots : List Int) : Rest0 o0 Hs (liveF o0 Hs roots) [] roots := rfl
/-- the queue's state: what is left of a row, then the fields of all behind the i-th -/
def Queue (o0 : Nat) (Hs Fin F : List (Nat × Ob)) (row : List Int) : Prop := ∃ i cur, row = cur ++ (F.drop i).flatMap (fun y => y.2.fields) ∧ i ≤ F.length ∧ Rest1 o0 Hs Fin i (growF o0 Hs F cur) ∧ ∀ x ∈ row, fieldOK (Hs.map (·.1)) o0 x = true
theorem queue_start (o0 : Nat) (Hs : List (Nat × Ob)) {roots : List Int} (h : ∀ x ∈ roots, fieldOK (Hs.map (·.1)) o0 x = true) : Queue o0 Hs (liveF o0 Hs roots) [] roots :=
  ⟨0, roots, by simp, Nat.zero_le _, rest0_scan (F := growF o0 Hs [] roots) rfl, h⟩
/-- an empty row: all were met -/
theorem queue_end {o0 : Nat} {Hs Fin F : List (Nat × Ob)} (h : Queue o0 Hs Fin F []) (hF : F.length ≤ Hs.length) : F = Fin := by
  obtain ⟨i, cur, h1, h2, h3, -⟩ := h
  obtain ⟨rfl, h4⟩ := List.append_eq_nil_iff.1 h1.symm
  have h5 : ∀ n i, F.length ≤ i + n → i ≤ F.length → (F.drop i).flatMap (fun y => y.2.fields) = [] → Rest1 o0 Hs Fin i F → F = Fin := by
    intro n
    induction n with
    | zero => intro i hn hi _ h; exact rest1_end h (by omega)
    | succ n ih =>
      intro i hn hi he h
      by_cases hlt : i < F.length
      · have hy := List.getElem?_eq_getElem hlt
        have h6 := rest1_open h hF hy
        rw [List.drop_eq_getElem_cons hlt, List.flatMap_cons] at he
        obtain ⟨e1, e2⟩ := List.append_eq_nil_iff.1 he
        rw [e1] at h6
        exact ih (i + 1) (by omega) (by omega) e2 (rest2_end h6)
      · exact rest1_end h (by omega)
  exact h5 F.length i (by omega) h2 h4 h3
/-- a row that is not empty may be taken so that a word is left of its first part -/
theorem queue_open {o0 : Nat} {Hs Fin F : List (Nat × Ob)} {x : Int} {row : List Int} (h : Queue o0 Hs Fin F (x :: row)) (hF : F.length ≤ Hs.length) : ∃ i cur, row = cur ++ (F.drop i).flatMap (fun y => y.2.fields) ∧ i ≤ F.length ∧ Rest1 o0 Hs Fin i (growF o0 Hs F (x :: cur)) ∧ ∀ z ∈ x :: row, fieldOK (Hs.map (·.1)) o0 z = true := by
  obtain ⟨i, cur, h1, h2, h3, h4⟩ := h
  have h5 : ∀ n i cur, F.length ≤ i + n → i ≤ F.length → x :: row = cur ++ (F.drop i).flatMap (fun y => y.2.fields) → Rest1 o0 Hs Fin i (growF o0 Hs F cur) → ∃ i cur, row = cur ++ (F.drop i).flatMap (fun y => y.2.fields) ∧ i ≤ F.length ∧ Rest1 o0 Hs Fin i (growF o0 Hs F (x :: cur)) := by
    intro n
    induction n with
    | zero =>
      intro i cur hn hi he h
      rw [List.drop_eq_nil_of_le (by omega)] at he
      cases cur with
      | nil => simp at he
      | cons c cur =>
        rw [List.cons_append] at he
        obtain ⟨rfl, e2⟩ := List.cons.inj he
        exact ⟨i, cur, by rw [List.drop_eq_nil_of_le (by omega)]; exact e2, hi, h⟩
    | succ n ih =>
      intro i cur hn hi he h
      cases cur with
      | cons c cur =>
        rw [List.cons_append] at he
        obtain ⟨rfl, e2⟩ := List.cons.inj he
        exact ⟨i, cur, e2, hi, h⟩
      | nil =>
        by_cases hlt : i < F.length
        · have hy := List.getElem?_eq_getElem hlt
          have h6 := rest1_open (F := F) h hF hy
          rw [List.drop_eq_getElem_cons hlt, List.flatMap_cons, List.nil_append] at he
          exact ih (i + 1) _ (by omega) (by omega) he h6
        · rw [List.drop_eq_nil_of_le (by omega)] at he
          simp at he
  obtain ⟨j, c, h6, h7, h8⟩ := h5 F.length i cur (by omega) h2 h1 h3
  exact ⟨j, c, h6, h7, h8, h4⟩
theorem queue_skip {o0 : Nat} {Hs Fin F : List (Nat × Ob)} {x : Int} {row : List Int} (h : Queue o0 Hs Fin F (x :: row)) (hF : F.length ≤ Hs.length) (ha : addF o0 Hs F x = F) : Queue o0 Hs Fin F row := by
  obtain ⟨i, cur, h1, h2, h3, h4⟩ := queue_open h hF
  refine ⟨i, cur, h1, h2, ?_, fun z hz => h4 z (.tail _ hz)⟩
  have e : growF o0 Hs F (x :: cur) = growF o0 Hs (addF o0 Hs F x) cur := rfl
  rw [e, ha] at h3
  exact h3
theorem queue_meet {o0 : Nat} {Hs Fin F : List (Nat × Ob)} {x : Int} {row : List Int} {y : Nat × Ob} (h : Queue o0 Hs Fin F (x :: row)) (hF : F.length ≤ Hs.length) (ha : addF o0 Hs F x = F ++ [y]) (hy : ∀ z ∈ y.2.fields, fieldOK (Hs.map (·.1)) o0 z = true) : Queue o0 Hs Fin (F ++ [y]) (row ++ y.2.fields) := by
  obtain ⟨i, cur, h1, h2, h3, h4⟩ := queue_open h hF
  refine ⟨i, cur, ?_, by rw [List.length_append]; omega, ?_, fun z hz => ?_⟩
  · rw [h1, List.drop_append_of_le_length h2, List.flatMap_append, List.append_assoc]
    simp
  · have e : growF o0 Hs F (x :: cur) = growF o0 Hs (addF o0 Hs F x) cur := rfl
    rw [e, ha] at h3
    exact h3
  · rcases List.mem_append.1 hz with hz | hz
    · exact h4 z (.tail _ hz)
    · exact hy z hz
theorem queue_pre {o0 : Nat} {Hs Fin F : List (Nat × Ob)} {row : List Int} (h : Queue o0 Hs Fin F row) : F <+: Fin := by
  obtain ⟨i, cur, h1, h2, h3, h4⟩ := h
  exact (growF_pre o0 Hs cur F).trans (rest1_pre h3)
end Go.Proofs.YtgiopklnielglaaDoor
/- Collections behind one another: what stands behind one is what it was, in order. Plain. -/
namespace Go.Proofs.YtgiopklnielglaaDoor
open Go.RowKit Go.Maps Arena
set_option maxRecDepth 100000
/-! ### what is moved is closed -/
def ClosedAt (o0 : Nat) (Hs F : List (Nat × Ob)) (x : Int) : Prop := ∀ z, getL o0 Hs x = some z → inF F z.1 = true
theorem inF_mono {F G : List (Nat × Ob)} (h : F <+: G) {a : Nat} (ha : inF F a = true) : inF G a = true := by
  obtain ⟨T, rfl⟩ := h
  rw [inF_app, ha]
  rfl
theorem ClosedAt.mono {o0 : Nat} {Hs F G : List (Nat × Ob)} {x : Int} (h : ClosedAt o0 Hs F x) (hp : F <+: G) : ClosedAt o0 Hs G x := fun z hz => inF_mono hp (h z hz)
theorem addF_closed (o0 : Nat) (Hs F : List (Nat × Ob)) (x : Int) : ClosedAt o0 Hs (addF o0 Hs F x) x := by
  intro z hz
  by_cases h : inF F z.1 = true
  · rw [addF_seen hz h]; exact h
  · rw [addF_new hz (by simpa using h)]
    exact inF_true.2 ⟨z, by simp, rfl⟩
theorem growF_closed (o0 : Nat) (Hs : List (Nat × Ob)) : ∀ (xs : List Int) (F : List (Nat × Ob)), ∀ x ∈ xs, ClosedAt o0 Hs (growF o0 Hs F xs) x
  | [], _, x, h => by cases h
  | y :: xs, F, x, h => by
    rcases List.mem_cons.1 h with rfl | h
    · exact (addF_closed o0 Hs F x).mono (growF_pre o0 Hs xs _)
    · exact growF_closed o0 Hs xs _ x h
theorem scanF_closed {o0 : Nat} {Hs : List (Nat × Ob)} : ∀ (k i : Nat) (F : List (Nat × Ob)), FinF Hs F → Hs.length ≤ k + i → (∀ j y, j < i → F[j]? = some y → ∀ x ∈ y.2.fields, ClosedAt o0 Hs F x) →
    ∀ y ∈ scanF o0 Hs k i F, ∀ x ∈ y.2.fields, ClosedAt o0 Hs (scanF o0 Hs k i F) x := by
  intro k
  induction k with
  | zero =>
    intro i F hF hk h y hy
    obtain ⟨j, hj⟩ := List.getElem?_of_mem hy
    have := (List.getElem?_eq_some_iff.1 hj).1
    have hl := hF.size.2
    have h1 : (scanF o0 Hs 0 i F) = F := rfl
    rw [h1] at this
    exact h j y (by omega) hj
  | succ k ih =>
    intro i F hF hk h
    unfold scanF
    split
    · rename_i hn
      intro y hy
      obtain ⟨j, hj⟩ := List.getElem?_of_mem hy
      have := (List.getElem?_eq_some_iff.1 hj).1
      have := List.getElem?_eq_none_iff.1 hn
      exact h j y (by omega) hj
    · rename_i y hy
      refine ih (i + 1) _ (hF.grow _) (by omega) fun j z hj hz x hx => ?_
      have hp := growF_pre o0 Hs y.2.fields F
      obtain ⟨T, hT⟩ := hp
      by_cases hji : j < i
      · have hjl : j < F.length := by have := (List.getElem?_eq_some_iff.1 hy).1; omega
        rw [← hT, List.getElem?_append_left hjl] at hz
        exact (h j z hji hz x hx).mono ⟨T, hT⟩
      · obtain rfl : j = i := by omega
        have hjl := (List.getElem?_eq_some_iff.1 hy).1
        rw [← hT, List.getElem?_append_left hjl, hy] at hz
        obtain rfl := Option.some.inj hz
        exact growF_closed o0 Hs _ F x hx
theorem live_closed (o0 : Nat) (Hs : List (Nat × Ob)) (roots : List Int) : (∀ x ∈ roots, ClosedAt o0 Hs (liveF o0 Hs roots) x) ∧ ∀ y ∈ liveF o0 Hs roots, ∀ x ∈ y.2.fields, ClosedAt o0 Hs (liveF o0 Hs roots) x :=
  ⟨fun x hx => (growF_closed o0 Hs roots [] x hx).mono (scanF_pre ..), scanF_closed _ _ _ ((FinF.nil Hs).grow roots) (by omega) fun j y hj => (by omega)⟩
/-- more rounds change nothing where all were done -/
theorem scanF_more {o0 : Nat} {Hs : List (Nat × Ob)} : ∀ (k i : Nat) (F : List (Nat × Ob)), (scanF o0 Hs k i F).length ≤ k + i → ∀ m, scanF o0 Hs (k + m) i F = scanF o0 Hs k i F := by
  intro k
  induction k with
  | zero =>
    intro i F h m
    have h1 : (scanF o0 Hs 0 i F) = F := rfl
    rw [h1] at h ⊢
    exact scanF_end (by omega)
  | succ k ih =>
    intro i F h m
    rw [show k + 1 + m = (k + m) + 1 by omega]
    unfold scanF at h ⊢
    cases hy : F[i]? with
    | none => rfl
    | some y =>
      rw [hy] at h
      simp only at h ⊢
      exact ih (i + 1) _ (by omega) m
/-! ### the objects behind a collection -/
/-- an object at its new place -/
def phi (f : Int → Int) (Fin : List (Nat × Ob)) (y : Nat × Ob) : Nat × Ob := (offF Fin y.1, mapO f y.2)
/-- the objects side by side from a place on -/
def putF (f : Int → Int) : Nat → List (Nat × Ob) → List (Nat × Ob)
  | _, [] => []
  | a, y :: F => (a, mapO f y.2) :: putF f (a + wordsO y.2) F
theorem putF_app (f : Int → Int) : ∀ (F G : List (Nat × Ob)) (a : Nat), putF f a (F ++ G) = putF f a F ++ putF f (a + sizeF F) G
  | [], G, a => by simp [putF, sizeF]
  | y :: F, G, a => by simp only [List.cons_append, putF, sizeF]; rw [putF_app f F G, Nat.add_assoc]
theorem putF_map (f : Int → Int) : ∀ (F G : List (Nat × Ob)), (F ++ G).Pairwise (fun a b => a.1 ≠ b.1) → putF f (sizeF F) G = G.map (phi f (F ++ G))
  | F, [], _ => rfl
  | F, y :: G, h => by
    have h1 := putF_map f (F ++ [y]) G (by rw [List.append_assoc]; exact h)
    rw [sizeF_app, List.append_assoc] at h1
    simp only [sizeF, Nat.add_zero, List.singleton_append] at h1
    have hn : inF F y.1 = false := by
      cases hc : inF F y.1 with
      | false => rfl
      | true =>
        obtain ⟨z, hz, e⟩ := inF_true.1 hc
        exact absurd e ((List.pairwise_append.1 h).2.2 z hz y (.head _))
    simp only [putF, List.map_cons, List.cons.injEq]
    refine ⟨?_, h1⟩
    unfold phi
    rw [offF_new hn]
theorem putF_is {Hs F : List (Nat × Ob)} (h : FinF Hs F) (f : Int → Int) : putF f 0 F = F.map (phi f F) := by
  have := putF_map f [] F (by simpa using h.nd)
  simpa [sizeF] using this
theorem objs_putF (f : Int → Int) : ∀ (F : List (Nat × Ob)) (a : Nat), (∀ y ∈ F, mayO y.2 = true) → objs (layL (F.map fun y => mapO f y.2)) a = some (putF f a F)
  | [], a, _ => by simp [layL, putF, objs_nil]
  | y :: F, a, h => by
    have hm : mayO (mapO f y.2) = true := by rw [mapO_may]; exact h y (.head _)
    have h1 := objs_putF f F (a + wordsO y.2) fun z hz => h z (.tail _ hz)
    have h2 := objs_app (layO (mapO f y.2)).length (layO (mapO f y.2)) a _ _ _ (Nat.le_refl _) (objs_one hm a) (by rw [layO_len hm, mapO_words]; exact h1)
    unfold layL at h2 ⊢
    simp only [List.map_cons, List.flatten_cons, putF]
    exact h2
/-- what the words are by, in what follows: where the semispaces begin, how many words, all objects, what is moved -/
structure Gc (o0 o1 H : Nat) (Hs F : List (Nat × Ob)) : Prop where
  hs : HsOK H Hs
  fin : FinF Hs F
  cl : ∀ y ∈ F, ∀ x ∈ y.2.fields, ClosedAt o0 Hs F x
  ok : ∀ y ∈ Hs, ∀ x ∈ y.2.fields, W64 x ∧ fieldOK (Hs.map (·.1)) o0 x = true
  small : o0 + H ≤ 4000 ∧ o1 + H ≤ 4000
section
variable {o0 o1 H : Nat} {Hs F : List (Nat × Ob)}
theorem offF_lt {F : List (Nat × Ob)} {y : Nat × Ob} (h : y ∈ F) : offF F y.1 + 1 ≤ sizeF F := by
  induction F with
  | nil => cases h
  | cons z F ih =>
    simp only [offF, sizeF]
    have := wordsO_pos z.2
    split
    · omega
    · rename_i hz
      rcases List.mem_cons.1 h with rfl | h
      · exact absurd rfl hz
      · have := ih h; omega
theorem offF_inj {F : List (Nat × Ob)} {a b : Nat} (ha : inF F a = true) (hb : inF F b = true) (e : offF F a = offF F b) : a = b := by
  induction F with
  | nil => simp [inF] at ha
  | cons z F ih =>
    have := wordsO_pos z.2
    simp only [offF] at e
    split at e <;> split at e
    · omega
    · omega
    · omega
    · rename_i h1 h2
      exact ih (by unfold inF at ha ⊢; simpa [h1] using ha) (by unfold inF at hb ⊢; simpa [h2] using hb) (by omega)
theorem Gc.size (g : Gc o0 o1 H Hs F) : sizeF F ≤ H := by have := g.fin.size.1; have := g.hs.size; omega
theorem Gc.new_of (g : Gc o0 o1 H Hs F) {x : Int} {y : Nat × Ob} (hg : getL o0 Hs x = some y) (hy : y ∈ F) : newW o0 o1 F x = ((2 * (o1 + offF F y.1) : Nat) : Int) ∧ W64 (newW o0 o1 F x) ∧ isIntW (newW o0 o1 F x) = false := by
  have h1 := newW_of (o1 := o1) (F := F) hg
  have h2 := offF_lt hy
  have := g.size
  have := g.small
  rw [h1]
  unfold W64 isIntW
  exact ⟨rfl, by omega, decide_eq_false (by omega)⟩
theorem Gc.mem (g : Gc o0 o1 H Hs F) {x : Int} {y : Nat × Ob} (hg : getL o0 Hs x = some y) (hc : ClosedAt o0 Hs F x) : y ∈ F := seen_get g.hs g.fin.sub (getL_some hg).1 (hc y hg)
theorem Gc.newInt (g : Gc o0 o1 H Hs F) {x : Int} (hx : W64 x) (hok : fieldOK (Hs.map (·.1)) o0 x = true) (hc : ClosedAt o0 Hs F x) : isIntW (newW o0 o1 F x) = isIntW x ∧ W64 (newW o0 o1 F x) := by
  rcases ok_cases hok hx with h | ⟨y, hy⟩
  · rw [newW_int h]; exact ⟨rfl, hx⟩
  · obtain ⟨_, h2, h3⟩ := g.new_of hy (g.mem hy hc)
    exact ⟨by rw [h3, (getL_some hy).2.2.1], h2⟩
/-- the objects at their new places -/
def newHs (o0 o1 : Nat) (F : List (Nat × Ob)) : List (Nat × Ob) := F.map (phi (newW o0 o1 F) F)
/-- the object of a new word -/
theorem Gc.get_new (g : Gc o0 o1 H Hs F) {x : Int} {y : Nat × Ob} (hg : getL o0 Hs x = some y) (hy : y ∈ F) : getL o1 (newHs o0 o1 F) (newW o0 o1 F x) = some (phi (newW o0 o1 F) F y) := by
  obtain ⟨h1, h2, h3⟩ := g.new_of hg hy
  have h4 := offF_lt hy
  have := g.size
  have := g.small
  unfold getL
  rw [if_neg (by rw [h3]; intro h; rcases h with h | h; cases h; rw [h1] at h; omega), h1]
  have hin : inF F y.1 = true := inF_true.2 ⟨y, hy, rfl⟩
  cases hf : (newHs o0 o1 F).find? (fun z => decide (((o1 + z.1 : Nat) : Int) = ((2 * (o1 + offF F y.1) : Nat) : Int) / 2)) with
  | none =>
    have := List.find?_eq_none.1 hf _ (List.mem_map.2 ⟨y, hy, rfl⟩)
    simp only [decide_eq_true_eq] at this
    unfold phi at this
    dsimp only at this
    omega
  | some z =>
    have hz := List.mem_of_find?_eq_some hf
    have hz2 := List.find?_some hf
    simp only [decide_eq_true_eq] at hz2
    obtain ⟨u, hu, rfl⟩ := List.mem_map.1 hz
    unfold phi at hz2
    dsimp only at hz2
    have he := offF_inj (inF_true.2 ⟨u, hu, rfl⟩) hin (by omega)
    rw [g.hs.inj (g.fin.sub u hu) (g.fin.sub y hy) he]
/-- what is grown behind it is what was grown -/
theorem Gc.grow_new (g : Gc o0 o1 H Hs F) : ∀ (xs : List Int) (G : List (Nat × Ob)), (∀ y ∈ G, y ∈ F) → (∀ x ∈ xs, W64 x ∧ fieldOK (Hs.map (·.1)) o0 x = true ∧ ClosedAt o0 Hs F x) →
    growF o1 (newHs o0 o1 F) (G.map (phi (newW o0 o1 F) F)) (xs.map (newW o0 o1 F)) = (growF o0 Hs G xs).map (phi (newW o0 o1 F) F) ∧ ∀ y ∈ growF o0 Hs G xs, y ∈ F
  | [], G, hG, _ => ⟨rfl, hG⟩
  | x :: xs, G, hG, h => by
    obtain ⟨hx, hok, hc⟩ := h x (.head _)
    have hstep : addF o1 (newHs o0 o1 F) (G.map (phi (newW o0 o1 F) F)) (newW o0 o1 F x) = (addF o0 Hs G x).map (phi (newW o0 o1 F) F) ∧ ∀ y ∈ addF o0 Hs G x, y ∈ F := by
      rcases ok_cases hok hx with hi | ⟨y, hy⟩
      · rw [newW_int hi, addF_int hi, addF_int hi]; exact ⟨rfl, hG⟩
      · have hyF := g.mem hy hc
        have hget := g.get_new hy hyF
        have hin : inF (G.map (phi (newW o0 o1 F) F)) (phi (newW o0 o1 F) F y).1 = inF G y.1 := by
          rw [Bool.eq_iff_iff, inF_true, inF_true]
          constructor
          · rintro ⟨z, hz, e⟩
            obtain ⟨u, hu, rfl⟩ := List.mem_map.1 hz
            exact ⟨u, hu, offF_inj (inF_true.2 ⟨u, hG u hu, rfl⟩) (inF_true.2 ⟨y, hyF, rfl⟩) e⟩
          · rintro ⟨z, hz, e⟩
            exact ⟨_, List.mem_map.2 ⟨z, hz, rfl⟩, by unfold phi; dsimp only; rw [e]⟩
        cases hb : inF G y.1 with
        | true =>
          rw [addF_seen hy hb, addF_seen hget (by rw [hin, hb])]
          exact ⟨rfl, hG⟩
        | false =>
          rw [addF_new hy hb, addF_new hget (by rw [hin, hb]), List.map_append]
          exact ⟨rfl, fun z hz => by rcases List.mem_append.1 hz with hz | hz; exact hG z hz; rw [List.mem_singleton.1 hz]; exact hyF⟩
    have h2 := g.grow_new xs _ hstep.2 fun z hz => h z (.tail _ hz)
    refine ⟨?_, h2.2⟩
    have e : growF o1 (newHs o0 o1 F) (G.map (phi (newW o0 o1 F) F)) ((x :: xs).map (newW o0 o1 F)) = growF o1 (newHs o0 o1 F) (addF o1 (newHs o0 o1 F) (G.map (phi (newW o0 o1 F) F)) (newW o0 o1 F x)) (xs.map (newW o0 o1 F)) := rfl
    rw [e, hstep.1]
    exact h2.1
theorem Gc.scan_new (g : Gc o0 o1 H Hs F) : ∀ (k i : Nat) (G : List (Nat × Ob)), (∀ y ∈ G, y ∈ F) → scanF o1 (newHs o0 o1 F) k i (G.map (phi (newW o0 o1 F) F)) = (scanF o0 Hs k i G).map (phi (newW o0 o1 F) F)
  | 0, _, _, _ => rfl
  | k + 1, i, G, hG => by
    unfold scanF
    rw [List.getElem?_map]
    cases hy : G[i]? with
    | none => rfl
    | some y =>
      simp only [Option.map_some]
      have hyF := hG y (List.mem_of_getElem? hy)
      have h1 := g.grow_new y.2.fields G hG fun x hx => ⟨(g.ok y (g.fin.sub y hyF) x hx).1, (g.ok y (g.fin.sub y hyF) x hx).2, g.cl y hyF x hx⟩
      have h2 := g.scan_new k (i + 1) _ h1.2
      rw [← h2, ← h1.1]
      rfl
theorem newHs_len (o0 o1 : Nat) (F : List (Nat × Ob)) : (newHs o0 o1 F).length = F.length := by unfold newHs; rw [List.length_map]
end
/-- behind a collection all that stands is live, in this order -/
theorem live_new {o0 o1 H : Nat} {Hs : List (Nat × Ob)} {roots : List Int} (g : Gc o0 o1 H Hs (liveF o0 Hs roots)) (hr : ∀ x ∈ roots, W64 x ∧ fieldOK (Hs.map (·.1)) o0 x = true) :
    liveF o1 (newHs o0 o1 (liveF o0 Hs roots)) (roots.map (newW o0 o1 (liveF o0 Hs roots))) = newHs o0 o1 (liveF o0 Hs roots) := by
  have hc := live_closed o0 Hs roots
  have hd : scanF o0 Hs Hs.length 0 (growF o0 Hs [] roots) = liveF o0 Hs roots := rfl
  generalize liveF o0 Hs roots = F at *
  have h1 := g.grow_new roots [] (fun y h => (by cases h)) fun x hx => ⟨(hr x hx).1, (hr x hx).2, hc.1 x hx⟩
  rw [List.map_nil] at h1
  have h2 := g.scan_new Hs.length 0 _ h1.2
  rw [hd, ← h1.1] at h2
  have hl := g.fin.size.2
  have hn : (newHs o0 o1 F).length = F.length := newHs_len o0 o1 F
  obtain ⟨m, hm⟩ : ∃ m, Hs.length = (newHs o0 o1 F).length + m := ⟨Hs.length - F.length, by omega⟩
  have hfin := ((FinF.nil (newHs o0 o1 F)).grow (o0 := o1) (roots.map (newW o0 o1 F))).scan (o0 := o1) (newHs o0 o1 F).length 0
  have h4 := scanF_more (newHs o0 o1 F).length 0 _ (by have := hfin.size.2; omega) m
  rw [← hm, h2] at h4
  exact h4.symm
end Go.Proofs.YtgiopklnielglaaDoor
/- A heap that is collected: its words, its objects. Plain. -/
namespace Go.Proofs.YtgiopklnielglaaDoor
open Go.RowKit Go.Maps Arena
set_option maxRecDepth 100000
def otherN (h : Hp) : Nat := ((1 - h.space) * h.half).toNat
/-- may the heap be, and its roots: its objects -/
def mayH (ws : List Int) (R : List (Nat × Nat)) (h : Hp) (roots : List Int) : Option (List (Nat × Ob)) := match allH ws R h with
  | none => none
  | some Hs => if roots.all (fieldOK (Hs.map (·.1)) (firstN h)) then some Hs else none
theorem mayH_some {ws : List Int} {R : List (Nat × Nat)} {h : Hp} {roots : List Int} {Hs : List (Nat × Ob)} (hm : mayH ws R h roots = some Hs) : allH ws R h = some Hs ∧ ∀ x ∈ roots, fieldOK (Hs.map (·.1)) (firstN h) x = true := by
  unfold mayH at hm
  cases ha : allH ws R h with
  | none => rw [ha] at hm; cases hm
  | some L =>
    rw [ha] at hm
    simp only at hm
    split at hm
    · obtain rfl := Option.some.inj hm
      rename_i hr
      exact ⟨rfl, List.all_eq_true.1 hr⟩
    · cases hm
theorem allH_ok {n : Nat} {ws : List Int} {R : List (Nat × Nat)} {h : Hp} {Hs : List (Nat × Ob)} (hg : Arena.Good n R) (hl : ws.length = n) (ha : allH ws R h = some Hs) : HsOK h.half.toNat Hs := by
  obtain ⟨ht, hS⟩ := allH_there ha
  obtain ⟨ho, _⟩ := allS_some hS
  obtain ⟨⟨a1, a2, a3, a4, a5, a6⟩, _⟩ := thereB_ok ht
  obtain ⟨h1, h2, h3⟩ := objs_apart ho
  have hsl := semi_len hg hl ht
  refine ⟨h1, fun y hy => ?_, fun y hy => (objs_fields ho y hy).1, by omega⟩
  have := objs_fit ho y hy
  omega
theorem allH_f64 {ws : List Int} {R : List (Nat × Nat)} {h : Hp} {Hs : List (Nat × Ob)} (hW : ∀ x ∈ ws, W64 x) (ha : allH ws R h = some Hs) : ∀ y ∈ Hs, ∀ x ∈ y.2.fields, W64 x ∧ fieldOK (Hs.map (·.1)) (firstN h) x = true := by
  obtain ⟨_, hS⟩ := allH_there ha
  obtain ⟨ho, hf⟩ := allS_some hS
  intro y hy x hx
  exact ⟨hW x (semi_mem ((objs_fields ho y hy).2 x hx)), List.all_eq_true.1 (List.all_eq_true.1 hf y hy) x hx⟩
/-- the numbers of a heap that may be -/
structure HpN (h : Hp) (ba H sp : Nat) (n : Nat) (R : List (Nat × Nat)) : Prop where
  base : h.base = (ba : Int)
  half : h.half = (H : Int)
  space : h.space = (sp : Int)
  one : sp ≤ 1
  lo : 8 ≤ H
  hi : H ≤ 2000
  reg : RegAt R n ba (2 * H)
  top : 0 ≤ h.top ∧ h.top ≤ h.half
theorem hpN_of {n : Nat} {R : List (Nat × Nat)} {h : Hp} (hg : Arena.Good n R) (ht : thereB R h = true) : ∃ ba H sp, HpN h ba H sp n R := by
  obtain ⟨⟨a1, a2, a3, a4, a5, a6⟩, h2⟩ := thereB_ok ht
  obtain ⟨H, hH⟩ := Int.eq_ofNat_of_zero_le (show 0 ≤ h.half by omega)
  obtain ⟨sp, hsp⟩ := Int.eq_ofNat_of_zero_le a3
  obtain ⟨ba, hba, hr⟩ := regAt_of hg (x := h.base) (len := 2 * H) (by omega) (by omega)
  exact ⟨ba, H, sp, hba, hH, hsp, by omega, by omega, by omega, hr, a5, a6⟩
theorem HpN.first {h : Hp} {ba H sp n : Nat} {R : List (Nat × Nat)} (N : HpN h ba H sp n R) : firstN h = sp * H := by
  unfold firstN
  rw [N.space, N.half, ← Int.natCast_mul]
  exact Int.toNat_natCast _
theorem HpN.other {h : Hp} {ba H sp n : Nat} {R : List (Nat × Nat)} (N : HpN h ba H sp n R) : otherN h = (1 - sp) * H := by
  unfold otherN
  rw [N.space, N.half, show (1 - (sp : Int)) = ((1 - sp : Nat) : Int) by have := N.one; omega, ← Int.natCast_mul]
  exact Int.toNat_natCast _
theorem sp_le {sp H : Nat} (h : sp ≤ 1) : sp * H ≤ H := by
  have : sp = 0 ∨ sp = 1 := by omega
  rcases this with rfl | rfl <;> omega
theorem HpN.small {h : Hp} {ba H sp n : Nat} {R : List (Nat × Nat)} (N : HpN h ba H sp n R) : firstN h + H ≤ 4000 ∧ otherN h + H ≤ 4000 ∧ firstN h ≤ 2000 ∧ otherN h ≤ 2000 := by
  rw [N.first, N.other]
  have h1 := sp_le (H := H) N.one
  have h2 := sp_le (sp := 1 - sp) (H := H) (by omega)
  have := N.hi
  omega
/-- the region's words: both semispaces -/
theorem HpN.split {h : Hp} {ba H sp n : Nat} {R : List (Nat × Nat)} (N : HpN h ba H sp n R) {ws : List Int} (hl : ws.length = n) : ∃ A B, A.length = H ∧ B.length = H ∧ ws = regW ws ba (mkV sp A B) ∧ semi ws R h = A.take h.top.toNat ∧ wordsAt ws R h.base = mkV sp A B := by
  have hw := N.reg.self hl
  have hwl : (wordsAt ws R ba).length = 2 * H := by unfold wordsAt; rw [N.reg.l, List.length_take, List.length_drop, Int.toNat_natCast]; have := N.reg.fit; omega
  obtain ⟨A, B, hA, hB, hV⟩ := mkV_ex N.one hwl
  refine ⟨A, B, hA, hB, by rw [← hV]; exact hw.symm, ?_, by rw [N.base]; exact hV⟩
  unfold semi
  rw [N.base, N.first, hV]
  exact mkV_drop N.one hA hB (by have := N.top; have := N.half; omega)
/-- what is read stands there as it is laid -/
theorem lay_of_read {S : List Int} {o : Ob} (hW : ∀ x ∈ S, W64 x) (h : readS S = some o) : S.take (wordsO o) = layO o := by
  cases S with
  | nil => cases h
  | cons hd r =>
    have h0 := hW hd (.head _)
    obtain ⟨sz, hsz⟩ := Int.eq_ofNat_of_zero_le (show 0 ≤ hd / 4294967296 from by have := h0.1; omega)
    rw [readS_ref h0 (fun x hx => hW x (.tail _ hx)) hsz] at h
    split at h
    · rename_i hc
      obtain rfl := Option.some.inj h
      exact hc.2.2.2.symm
    · cases h
theorem objs_lay {S : List Int} {a : Nat} {L : List (Nat × Ob)} (hW : ∀ x ∈ S, W64 x) (h : objs S a = some L) : ∀ y ∈ L, a ≤ y.1 ∧ (S.drop (y.1 - a)).take (wordsO y.2) = layO y.2 := by
  have := objs_ind (P := fun S a L => (∀ x ∈ S, W64 x) → ∀ y ∈ L, a ≤ y.1 ∧ (S.drop (y.1 - a)).take (wordsO y.2) = layO y.2) (fun a _ y h => (by cases h))
    (fun S a o L _ hr ih hS y hy => by
      rcases List.mem_cons.1 hy with rfl | hy
      · refine ⟨Nat.le_refl _, ?_⟩
        rw [Nat.sub_self, List.drop_zero]
        exact lay_of_read hS hr
      · obtain ⟨h1, h2⟩ := ih (fun x hx => hS x (List.mem_of_mem_drop hx)) y hy
        refine ⟨by omega, ?_⟩
        rw [List.drop_drop, show wordsO o + (y.1 - (a + wordsO o)) = y.1 - a by omega] at h2
        exact h2) S.length (Nat.le_refl _) h
  exact this hW
/-- each object's words, where it stands -/
theorem allH_words {n : Nat} {ws : List Int} {R : List (Nat × Nat)} {h : Hp} {Hs : List (Nat × Ob)} {A : List Int} (hg : Arena.Good n R) (hl : ws.length = n) (hW : ∀ x ∈ ws, W64 x) (ha : allH ws R h = some Hs) (hA : semi ws R h = A.take h.top.toNat) : ∀ y ∈ Hs, ∀ k, k < wordsO y.2 → A[y.1 + k]? = (layO y.2)[k]? := by
  obtain ⟨ht, hS⟩ := allH_there ha
  obtain ⟨ho, _⟩ := allS_some hS
  intro y hy k hk
  obtain ⟨_, h2⟩ := objs_lay (fun x hx => hW x (semi_mem hx)) ho y hy
  have hfit := objs_fit ho y hy
  rw [semi_len hg hl ht] at hfit
  rw [Nat.sub_zero, hA] at h2
  rw [← h2, List.getElem?_take, if_pos hk, List.getElem?_drop, List.getElem?_take, if_pos (by omega)]
/-! ### what a collection makes -/
def collH (h : Hp) (F : List (Nat × Ob)) : Hp := ⟨h.base, h.half, 1 - h.space, (sizeF F : Nat)⟩
def collV (h : Hp) (F : List (Nat × Ob)) : List Int := mkV h.space.toNat (List.replicate h.half.toNat 0) (gcB h.half.toNat (newW (firstN h) (otherN h) F) F)
def collWs (ws : List Int) (h : Hp) (F : List (Nat × Ob)) : List Int := regW ws h.base.toNat (collV h F)
theorem HpN.coll {h : Hp} {ba H sp n : Nat} {R : List (Nat × Nat)} (N : HpN h ba H sp n R) (F : List (Nat × Ob)) : collV h F = mkV sp (List.replicate H 0) (gcB H (newW (sp * H) ((1 - sp) * H) F) F) := by
  unfold collV
  rw [N.first, N.other, N.space, N.half, Int.toNat_natCast, Int.toNat_natCast]
theorem HpN.collWs {h : Hp} {ba H sp n : Nat} {R : List (Nat × Nat)} (N : HpN h ba H sp n R) (ws : List Int) (F : List (Nat × Ob)) : collWs ws h F = regW ws ba (mkV sp (List.replicate H 0) (gcB H (newW (sp * H) ((1 - sp) * H) F) F)) := by
  unfold Go.Proofs.YtgiopklnielglaaDoor.collWs
  rw [N.coll, N.base, Int.toNat_natCast]
/-- all that a collection of a heap that may be leans on -/
theorem gc_of {n : Nat} {ws : List Int} {R : List (Nat × Nat)} {h : Hp} {Hs : List (Nat × Ob)} (hg : Arena.Good n R) (hl : ws.length = n) (hW : ∀ x ∈ ws, W64 x) (ha : allH ws R h = some Hs) {ba H sp : Nat} (N : HpN h ba H sp n R) (roots : List Int) : Gc (firstN h) (otherN h) H Hs (liveF (firstN h) Hs roots) := by
  have h1 := allH_ok hg hl ha
  rw [N.half, Int.toNat_natCast] at h1
  exact ⟨h1, FinF.live _ _ _, (live_closed _ _ _).2, allH_f64 hW ha, N.small.1, N.small.2.1⟩
theorem gcB_len {o0 o1 H : Nat} {Hs F : List (Nat × Ob)} (g : Gc o0 o1 H Hs F) (f : Int → Int) : (gcB H f F).length = H := by
  unfold gcB
  have hm : ∀ o ∈ F.map (fun y => mapO f y.2), mayO o = true := fun o ho => by
    obtain ⟨y, hy, rfl⟩ := List.mem_map.1 ho
    rw [mapO_may]
    exact g.hs.may y (g.fin.sub y hy)
  have hs : ∀ F : List (Nat × Ob), sizeL (F.map fun y => mapO f y.2) = sizeF F := by
    intro F
    induction F with
    | nil => rfl
    | cons y F ih => simp only [List.map_cons, sizeL, sizeF, mapO_words, ih]
  rw [List.length_append, layL_len hm, hs, List.length_replicate]
  have := g.size
  omega
theorem layL_size {o0 o1 H : Nat} {Hs F : List (Nat × Ob)} (g : Gc o0 o1 H Hs F) (f : Int → Int) : (layL (F.map fun y => mapO f y.2)).length = sizeF F := by
  have := gcB_len g f
  unfold gcB at this
  rw [List.length_append, List.length_replicate] at this
  have := g.size
  omega
/-- the objects behind a collection -/
theorem coll_all {n : Nat} {ws : List Int} {R : List (Nat × Nat)} {h : Hp} {Hs : List (Nat × Ob)} {roots : List Int} (hg : Arena.Good n R) (hl : ws.length = n) (hW : ∀ x ∈ ws, W64 x) (ha : allH ws R h = some Hs) :
    allH (collWs ws h (liveF (firstN h) Hs roots)) R (collH h (liveF (firstN h) Hs roots)) = some (newHs (firstN h) (otherN h) (liveF (firstN h) Hs roots)) := by
  obtain ⟨ht, hS⟩ := allH_there ha
  obtain ⟨ba, H, sp, N⟩ := hpN_of hg ht
  have g := gc_of hg hl hW ha N roots
  generalize liveF (firstN h) Hs roots = F at g ⊢
  obtain ⟨⟨a1, a2, a3, a4, a5, a6⟩, h2⟩ := thereB_ok ht
  have hsz := g.size
  have hgl := gcB_len g (newW (sp * H) ((1 - sp) * H) F)
  have ht' : thereB R (collH h F) = true := by
    unfold thereB collH
    simp only [Bool.and_eq_true, decide_eq_true_eq]
    refine ⟨⟨a1, a2, by dsimp only; omega, by dsimp only; omega, by dsimp only; omega, by dsimp only; rw [N.half]; omega⟩, h2⟩
  unfold allH
  rw [if_pos ht']
  have hfo : firstN (collH h F) = otherN h := rfl
  have hsemi : semi (collWs ws h F) R (collH h F) = layL (F.map fun y => mapO (newW (firstN h) (otherN h) F) y.2) := by
    unfold semi
    rw [hfo, N.other, show (collH h F).base = (ba : Int) from N.base, N.collWs, N.reg.words hl (mkV_len (by simp) hgl), mkV_swap N.one, show (collH h F).top.toNat = sizeF F from Int.toNat_natCast _, mkV_drop (by have := N.one; omega) hgl (by simp) hsz]
    unfold gcB
    rw [List.take_append_of_le_length (by rw [layL_size g]; exact Nat.le_refl _), List.take_of_length_le (by rw [layL_size g]; exact Nat.le_refl _), ← N.first, ← N.other]
  rw [hsemi, hfo]
  unfold allS
  rw [objs_putF _ F 0 fun y hy => g.hs.may y (g.fin.sub y hy)]
  simp only
  rw [putF_is g.fin]
  have hf : fieldsOK (otherN h) (F.map (phi (newW (firstN h) (otherN h) F) F)) = true := by
    unfold fieldsOK
    refine List.all_eq_true.2 fun z hz => List.all_eq_true.2 fun v hv => ?_
    obtain ⟨y, hy, rfl⟩ := List.mem_map.1 hz
    obtain ⟨x, hx, rfl⟩ := List.mem_map.1 hv
    have hok := g.ok y (g.fin.sub y hy) x hx
    rcases ok_cases hok.2 hok.1 with hi | ⟨u, hu⟩
    · rw [newW_int hi]; unfold fieldOK; rw [hi]; rfl
    · have huF := g.mem hu (g.cl y hy x hx)
      obtain ⟨e1, e2, e3⟩ := g.new_of hu huF
      have e4 := offF_lt huF
      have := g.small
      unfold fieldOK
      rw [e1]
      simp only [Bool.or_eq_true, Bool.and_eq_true, decide_eq_true_eq, List.any_eq_true]
      refine .inr ⟨by omega, offF F u.1, ?_, by omega⟩
      exact List.mem_map.2 ⟨_, List.mem_map.2 ⟨u, huF, rfl⟩, rfl⟩
  rw [if_pos hf]
  rfl
theorem gcB_64 {o0 o1 H : Nat} {Hs F : List (Nat × Ob)} (g : Gc o0 o1 H Hs F) : ∀ x ∈ gcB H (newW o0 o1 F) F, W64 x := by
  intro x hx
  unfold gcB at hx
  rcases List.mem_append.1 hx with hx | hx
  · unfold layL at hx
    obtain ⟨l, hl, hx⟩ := List.mem_flatten.1 hx
    obtain ⟨o, ho, rfl⟩ := List.mem_map.1 hl
    obtain ⟨y, hy, rfl⟩ := List.mem_map.1 ho
    refine layO_64 (by rw [mapO_may]; exact g.hs.may y (g.fin.sub y hy)) (fun v hv => ?_) x hx
    obtain ⟨u, hu, rfl⟩ := List.mem_map.1 hv
    have hok := g.ok y (g.fin.sub y hy) u hu
    exact (g.newInt hok.1 hok.2 (g.cl y hy u hu)).2
  · rw [(List.mem_replicate.1 hx).2]; exact w64_zero
theorem collWs_len {n : Nat} {ws : List Int} {R : List (Nat × Nat)} {h : Hp} {Hs : List (Nat × Ob)} {roots : List Int} (hg : Arena.Good n R) (hl : ws.length = n) (hW : ∀ x ∈ ws, W64 x) (ha : allH ws R h = some Hs) : (collWs ws h (liveF (firstN h) Hs roots)).length = n ∧ ∀ x ∈ collWs ws h (liveF (firstN h) Hs roots), W64 x := by
  obtain ⟨ht, hS⟩ := allH_there ha
  obtain ⟨ba, H, sp, N⟩ := hpN_of hg ht
  have g := gc_of hg hl hW ha N roots
  generalize liveF (firstN h) Hs roots = F at g ⊢
  have hgl := gcB_len g (newW (sp * H) ((1 - sp) * H) F)
  rw [N.collWs]
  refine ⟨?_, regW_64 hW fun x hx => ?_⟩
  · rw [regW_len (by rw [mkV_len (H := H) (by simp) hgl]; have := N.reg.fit; omega)]; exact hl
  · rcases mkV_mem hx with hx | hx
    · rw [(List.mem_replicate.1 hx).2]; exact w64_zero
    · have h3 := gcB_64 g
      rw [N.first, N.other] at h3
      exact h3 x hx
end Go.Proofs.YtgiopklnielglaaDoor
/- Both semispaces of a region in an arena: a word of them is got, is set. -/
namespace Go.Proofs.YtgiopklnielglaaDoor
open Go.RowKit Go.Maps Arena
set_option maxHeartbeats 4000000
set_option maxRecDepth 100000
/-- an arena whose region holds both semispaces -/
structure Sp (w : World) (p g bm n : Nat) (ws : List Int) (R : List (Nat × Nat)) (ba H sp : Nat) (A B : List Int) : Prop where
  a : ArenaAt w p g bm n (regW ws ba (mkV sp A B)) R
  lw : ws.length = n
  reg : RegAt R n ba (2 * H)
  one : sp ≤ 1
  lA : A.length = H
  lB : B.length = H
  hi : H ≤ 2000
  wf : (Lit.int .i64 (ba : Int)).wf = true
section
variable {w : World} {p g bm n : Nat} {ws : List Int} {R : List (Nat × Nat)} {ba H sp : Nat} {A B : List Int}
theorem Sp.ext (h : Sp w p g bm n ws R ba H sp A B) {w' : World} (e : Ext w w') : Sp w' p g bm n ws R ba H sp A B := ⟨h.a.ext e, h.lw, h.reg, h.one, h.lA, h.lB, h.hi, h.wf⟩
theorem Sp.lV (h : Sp w p g bm n ws R ba H sp A B) : (mkV sp A B).length = 2 * H := mkV_len h.lA h.lB
theorem Sp.getA (h : Sp w p g bm n ws R ba H sp A B) {i : Nat} {x : Int} (hx : A[i]? = some x) : getW (regW ws ba (mkV sp A B)) R ba ((sp * H + i : Nat) : Int) = x := by
  have hi : i < H := by have := (List.getElem?_eq_some_iff.1 hx).1; have := h.lA; omega
  have hs := sp_le (H := H) h.one
  rw [h.reg.get h.lw h.lV (by omega), mkV_getA h.one h.lA h.lB hi, List.getD_eq_getElem?_getD, hx]
  rfl
theorem Sp.getB (h : Sp w p g bm n ws R ba H sp A B) {i : Nat} {x : Int} (hx : B[i]? = some x) : getW (regW ws ba (mkV sp A B)) R ba (((1 - sp) * H + i : Nat) : Int) = x := by
  have hi : i < H := by have := (List.getElem?_eq_some_iff.1 hx).1; have := h.lB; omega
  have hs := sp_le (sp := 1 - sp) (H := H) (by omega)
  rw [h.reg.get h.lw h.lV (by omega), mkV_getB h.one h.lA h.lB hi, List.getD_eq_getElem?_getD, hx]
  rfl
theorem Sp.within (h : Sp w p g bm n ws R ba H sp A B) {a : Nat} (ha : a < 2 * H) : within R ba (a : Int) = true := by
  unfold Go.Proofs.YtgiopklnielglaaDoor.within
  rw [h.reg.l]
  exact decide_eq_true (by omega)
theorem Sp.setA (h : Sp w p g bm n ws R ba H sp A B) {i : Nat} (hi : i < H) (v : Int) : Calls Tryd.prog 25 #[.pointer (some ⟨p, 0, none⟩), .int .i64 ba, .int .i64 ((sp * H + i : Nat) : Int), .int .u64 v] w fun e w' => e = .returned (.bool true) ∧ Sp w' p g bm n ws R ba H sp (A.set i v) B ∧ Turn [g] w w' := by
  have hs := sp_le (H := H) h.one
  refine (setA_said (a := ((sp * H + i : Nat) : Int)) (v := v) h.a h.wf).mono ?_
  rintro e w' ⟨rfl, h1, h2⟩
  rw [h.within (by omega)]
  rw [h.reg.set h.lw h.lV (by omega), mkV_setA h.one h.lA h.lB hi] at h1
  exact ⟨rfl, ⟨h1, h.lw, h.reg, h.one, by rw [List.length_set]; exact h.lA, h.lB, h.hi, h.wf⟩, h2⟩
theorem Sp.setB (h : Sp w p g bm n ws R ba H sp A B) {i : Nat} (hi : i < H) (v : Int) : Calls Tryd.prog 25 #[.pointer (some ⟨p, 0, none⟩), .int .i64 ba, .int .i64 (((1 - sp) * H + i : Nat) : Int), .int .u64 v] w fun e w' => e = .returned (.bool true) ∧ Sp w' p g bm n ws R ba H sp A (B.set i v) ∧ Turn [g] w w' := by
  have hs := sp_le (sp := 1 - sp) (H := H) (by omega)
  refine (setA_said (a := (((1 - sp) * H + i : Nat) : Int)) (v := v) h.a h.wf).mono ?_
  rintro e w' ⟨rfl, h1, h2⟩
  rw [h.within (by omega)]
  rw [h.reg.set h.lw h.lV (by omega), mkV_setB h.one h.lA h.lB hi] at h1
  exact ⟨rfl, ⟨h1, h.lw, h.reg, h.one, h.lA, by rw [List.length_set]; exact h.lB, h.hi, h.wf⟩, h2⟩
/-- the other semispace is the one that is left, and the other way round -/
theorem Sp.swap (h : Sp w p g bm n ws R ba H sp A B) : Sp w p g bm n ws R ba H (1 - sp) B A :=
  ⟨by rw [← mkV_swap h.one]; exact h.a, h.lw, h.reg, by omega, h.lB, h.lA, h.hi, h.wf⟩
end
end Go.Proofs.YtgiopklnielglaaDoor
/- gc.kind, gc.words, a mover's get. -/
namespace Go.Proofs.YtgiopklnielglaaDoor
open Go.RowKit Go.Maps Arena
set_option maxHeartbeats 4000000
set_option maxRecDepth 100000
/-- what a head tells of words -/
def hdW (x : Int) : Nat := if x % 256 = 2 then 1 + ((x / 4294967296).toNat + 7) / 8 else 1 + (x / 4294967296).toNat
theorem hdW_head {o : Ob} (hm : mayO o = true) : hdW (headO o) = wordsO o ∧ headO o % 256 = o.kind ∧ W64 (headO o) := by
  unfold mayO at hm
  obtain ⟨b1, b2, b3, b4, b5, b6, b7, b8⟩ := mayK_bounds hm
  have d1 : headO o % 256 = o.kind := by unfold headO headK; omega
  have d3 : (headO o / 4294967296).toNat = sizeK o.kind o.fields.length o.text.size := by unfold headO headK; omega
  refine ⟨?_, d1, by unfold W64 headO headK; omega⟩
  unfold hdW
  rw [d1, d3]
  unfold wordsO bodyK sizeK
  split <;> rfl
end Go.Proofs.YtgiopklnielglaaDoor
