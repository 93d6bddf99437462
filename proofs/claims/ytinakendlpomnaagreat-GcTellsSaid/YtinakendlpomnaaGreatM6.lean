/- Proved here: the contracts and laws of ObjZF, ObjZG, ObjZH, ObjZI, ObjRA, ObjRB, Both, RigP, ObjLC, HpP, GcP, GcQ of this claim, each beneath its own remark; conditions: those that each theorem names. -/
import Derived.Test.YtinakendlpomnaaGreatM5
import Derived.Test.YtinakendlpomnaaGreatM2
import Derived.Test.YtinakendlpomnaaGreatM3
import Derived.Deep.RegionHeld3
/- A heap's functions (the reference's): Get. -/
namespace Go.Proofs.YtinakendlpomnaaGreat
open Go.RowKit Go.Maps Arena
set_option maxHeartbeats 4000000
set_option maxRecDepth 100000
theorem getL_field {first : Nat} {L : List (Nat × Ob)} {x : Int} (hi : isIntW x = false) : (getL first L x).isSome = fieldOK (L.map (·.1)) first x := by
  unfold getL fieldOK
  rw [hi, List.any_map]
  by_cases hb : 4294967296 ≤ x / 2
  · rw [if_pos (.inr hb), decide_eq_false (by omega)]; rfl
  · rw [if_neg (by simp; omega), decide_eq_true (by omega), Bool.eq_iff_iff, List.find?_isSome]
    simp
theorem places_len {L : List (Nat × Ob)} (h : L.Pairwise (fun x y => x.1 < y.1)) {n : Nat} (hn : ∀ z ∈ L, z.1 < n) : L.length ≤ n := by
  have key : ∀ (L : List (Nat × Ob)) (b : Nat), L.Pairwise (fun x y => x.1 < y.1) → (∀ z ∈ L, b ≤ z.1 ∧ z.1 < n) → L.length + b ≤ n ∨ L = [] := by
    intro L
    induction L with
    | nil => intro b _ _; exact .inr rfl
    | cons a L ih =>
      intro b hp hb
      obtain ⟨h1, h2⟩ := List.pairwise_cons.1 hp
      have ha := hb a (.head _)
      rcases ih (a.1 + 1) h2 (fun z hz => ⟨h1 z hz, (hb z (.tail _ hz)).2⟩) with h3 | h3
      · left; rw [List.length_cons]; omega
      · subst h3; left; simp; omega
  rcases key L 0 h (fun z hz => ⟨Nat.zero_le _, hn z hz⟩) with h1 | h1
  · omega
  · subst h1; simp
theorem allH_len {n : Nat} {ws : List Int} {R : List (Nat × Nat)} {h : Hp} (hg : Arena.Good n R) (hl : ws.length = n) {L : List (Nat × Ob)} (hL : allH ws R h = some L) : L.length ≤ 2000 := by
  obtain ⟨ht, hS⟩ := allH_there hL
  have hobj := (allS_some hS).1
  have h2 := objs_fit hobj
  have h3 := semi_len hg hl ht
  have hok := (thereB_ok ht).1
  obtain ⟨_, a2, _, _, a5, a6⟩ := hok
  have h5 : ∀ z ∈ L, z.1 < (semi ws R h).length := by
    intro z hz
    have := h2 z hz
    have h6 : 1 ≤ wordsO z.2 := by unfold wordsO; omega
    omega
  have h4 := places_len (objs_places hobj) h5
  omega
end Go.Proofs.YtinakendlpomnaaGreat
/- A heap's functions (the reference's): Get, where there is an object. -/
namespace Go.Proofs.YtinakendlpomnaaGreat
open Go.RowKit Go.Maps Arena
set_option maxHeartbeats 4000000
set_option maxRecDepth 100000
theorem words_rows {w : World} {q gq B n : Nat} {ws : List Int} {vR : Value} {R : List (Nat × Nat)} (H : RefAt w q gq B n ws vR R) {i : Nat} (hi : i < R.length) {m : Nat} (hm : m ≤ R[i].2) :
    RowsP w (.slice (some ⟨gq, R[i].1, none⟩) m (n - R[i].1)) 1 (((wordsAt ws R R[i].1).take m).map wordC) := by
  have hbr := H.good.2 R[i] (List.getElem_mem hi)
  have hn := H.least
  have hlr := lenAt_mem H.good (List.getElem_mem hi)
  have hwl := wordsAt_len H.good H.len (R[i].1 : Int)
  have hl : ((wordsAt ws R R[i].1).take m).length = m := by rw [List.length_take, hwl, hlr]; omega
  refine ⟨wordC_rows _, .inr ⟨gq, R[i].1, n - R[i].1, by rw [List.length_map, hl], by rw [List.length_map, hl]; omega, by unfold maxLen; omega, fun j u hu => ?_⟩⟩
  rw [wordC_flat, List.getElem?_map] at hu
  obtain ⟨x, hx, rfl⟩ := Option.map_eq_some_iff.1 hu
  have hjl := (List.getElem?_eq_some_iff.1 hx).1
  rw [hl] at hjl
  rw [List.getElem?_take_of_lt hjl] at hx
  unfold wordsAt at hx
  rw [hlr, List.getElem?_take_of_lt (by omega), List.getElem?_drop] at hx
  rw [(H.word (i := R[i].1 + j) (by omega)).1, List.getD_eq_getElem?_getD]
  have e : ((R[i].1 : Nat) : Int).toNat = R[i].1 := Int.toNat_natCast _
  rw [e] at hx
  rw [hx]
  rfl
end Go.Proofs.YtinakendlpomnaaGreat
/- A heap's functions (the reference's): Set. -/
namespace Go.Proofs.YtinakendlpomnaaGreat
open Go.RowKit Go.Maps Arena
set_option maxHeartbeats 4000000
set_option maxRecDepth 100000
end Go.Proofs.YtinakendlpomnaaGreat
/- A heap's functions (the reference's): Put. -/
namespace Go.Proofs.YtinakendlpomnaaGreat
open Go.RowKit Go.Maps Arena
set_option maxHeartbeats 4000000
set_option maxRecDepth 100000
theorem blocks3w {P : Program} {c : Code} {Q : Exit → Act → World → Prop} {a : Act} {w : World} {o0 o1 o2 : Obj} (h : ∀ W : World, Ext w W → W.heap.size = w.heap.size + 1 + 1 + 1 → W.heap[w.heap.size]? = some o0 → W.heap[w.heap.size + 1]? = some o1 → W.heap[w.heap.size + 1 + 1]? = some o2 → Code.wp P c Q a W) : Code.wp P c Q a (((w.alloc o0).alloc o1).alloc o2) := by
  obtain ⟨e, s, b0, b1, b2⟩ := blocks3 w o0 o1 o2
  exact h _ e s b0 b1 b2
theorem RefAt.turn_new {w W W' : World} {q gq B n : Nat} {ws ws' : List Int} {vR : Value} {R : List (Nat × Nat)} {bs : List Nat} (H : RefAt W q gq B n ws' vR R) (H0 : RefAt w q gq B n ws vR R) (t : Turn bs W W') (hb : ∀ b ∈ bs, w.heap.size ≤ b) : RefAt W' q gq B n ws' vR R := by
  obtain ⟨lq, lg⟩ := H.lt
  obtain ⟨l0, l1⟩ := H0.lt
  refine ⟨by rw [t.block q lq (fun h => by have := hb q h; omega)]; exact H.row, by rw [t.block gq lg (fun h => by have := hb gq h; omega)]; exact H.words, H.len, ?_, H.good, H.ne, H.qB, H.gB, H.least⟩
  obtain ⟨h1, h2⟩ := H.regs
  refine ⟨h1, ?_⟩
  rcases h2 with h2 | ⟨g, cap, cur, e1, e2, e3, e4⟩
  · exact .inl h2
  · refine .inr ⟨g, cap, cur, e1, e2, ?_, e4⟩
    have hg : g < w.heap.size := by
      rcases H0.regs.2 with ⟨f1, _⟩ | ⟨g', cap', cur', f1, _, f3, _⟩
      · rw [f1] at e1; cases e1
      · rw [f1] at e1
        obtain ⟨e5, _, _⟩ := Value.slice.inj e1
        obtain ⟨rfl, _⟩ := Addr.mk.inj (Option.some.inj e5)
        exact (Array.getElem?_eq_some_iff.1 f3).1
    rw [t.block g (Array.getElem?_eq_some_iff.1 e3).1 (fun h => by have := hb g h; omega)]
    exact e3
theorem post_fill6 {P : Program} {f : Func} {Q : Ending → World → Prop} {x : Exit} {a : Act} {w : World} {b : Nat} {x0 x1 x2 x3 x4 x5 y0 y1 y2 y3 y4 y5 : Value} {T : TypeId} (h0 : w.heap[b]? = some (.cells #[x0, x1, x2, x3, x4, x5] T (0, 0)))
    (h : ∀ W : World, W.heap[b]? = some (.cells #[y0, y1, y2, y3, y4, y5] T (0, 0)) → Turn [b] w W → W.heap.size = w.heap.size → bodyPost P f Q x a W) : bodyPost P f Q x a ((((((w.setCell ⟨b, 0, none⟩ y0).setCell ⟨b, 1, none⟩ y1).setCell ⟨b, 2, none⟩ y2).setCell ⟨b, 3, none⟩ y3).setCell ⟨b, 4, none⟩ y4).setCell ⟨b, 5, none⟩ y5) :=
  h _ (fill6 h0 _ _ _ _ _ _).1 (fill6 h0 _ _ _ _ _ _).2.1 (fill6 h0 _ _ _ _ _ _).2.2
/-- a done put's value -/
def doneV (h : Hp) (x : Int) (ok : Bool) : Value := .agg #[.int .i64 h.base, .int .i64 h.half, .int .i64 h.space, .int .i64 h.top, .int .u64 x, .bool ok]
def RPutSaid (ws : List Int) (R : List (Nat × Nat)) (q gq B n : Nat) (vR : Value) (h : Hp) (o : Ob) (w : World) (e : Ending) (w' : World) : Prop :=
  e = .returned (if putB ws R h o then doneV (hpUp h o) ((2 * topN h : Nat) : Int) true else doneV ⟨0, 0, 0, 0⟩ 0 false) ∧ RefAt w' q gq B n (if putB ws R h o then putWs ws R h o else ws) vR R ∧ Turn [gq] w w'
theorem rput_no {ws : List Int} {R : List (Nat × Nat)} {q gq B n : Nat} {vR : Value} {h : Hp} {o : Ob} {w : World} {e : Ending} {w' : World} (hb : putB ws R h o = false) (H : RefAt w q gq B n ws vR R) (he : e = .returned (doneV ⟨0, 0, 0, 0⟩ 0 false)) (hx : Ext w w') : RPutSaid ws R q gq B n vR h o w e w' := by
  unfold RPutSaid
  rw [hb]
  exact ⟨he, H.ext hx, Turn.of_ext hx⟩
end Go.Proofs.YtinakendlpomnaaGreat
/- keep.Ints, keep.Object, LongObject. -/
namespace Go.Proofs.YtinakendlpomnaaGreat
open Go.RowKit Go.Maps
set_option maxHeartbeats 2000000
set_option maxRecDepth 100000
theorem info_i64 : (Tryz.prog.info? 3).map (fun i => (i.zero, i.size, i.bytes)) = some (some (.int .i64 0), 1, 8) := by kernel_rfl
/-- a slice that reads as words, wherever it lies -/
def NumSl (w : World) (v : Value) (l : List Int) : Prop := ∃ q c, v = .slice q l.length c ∧ l.length ≤ c ∧ c ≤ maxLen ∧ ∀ (i : Nat) (x : Int), l[i]? = some x → ∃ b off, q = some ⟨b, off, none⟩ ∧ w.cell? ⟨b, off + i, none⟩ = some (.int .i64 x)
theorem NumSl.ext {w w' : World} {v : Value} {l : List Int} (h : NumSl w v l) (e : Ext w w') : NumSl w' v l := by
  obtain ⟨q, c, hv, h1, h2, hc⟩ := h
  exact ⟨q, c, hv, h1, h2, fun i x hx => by obtain ⟨b, off, hq, hcc⟩ := hc i x hx; exact ⟨b, off, hq, e.cell hcc⟩⟩
theorem NumSl.of_row {w : World} {base : Nat} {v : Value} {l : List Int} (h : w.ownsRow base 3 1 v l.length (l.map fun x => Value.int .i64 x)) : NumSl w v l := by
  rcases h.2 with ⟨h1, h2⟩ | ⟨g, cap, cur, h1, hb, hg, h2, h3, h4, h5⟩
  · refine ⟨none, 0, by rw [h1, h2], by omega, Nat.zero_le _, fun i x hx => ?_⟩
    have := (List.getElem?_eq_some_iff.1 hx).1
    omega
  · refine ⟨_, cap, h1, h2, h3, fun i x hx => ⟨g, 0, rfl, ?_⟩⟩
    subst h1
    have hi : i < l.length := (List.getElem?_eq_some_iff.1 hx).1
    rw [Nat.zero_add, World.ownsRow.cellAt h i (by omega), List.getElem?_map, hx]
    rfl
end Go.Proofs.YtinakendlpomnaaGreat
/- keep.Object, keep.OwnWords, keep.OwnObject. -/
namespace Go.Proofs.YtinakendlpomnaaGreat
open Go.RowKit Go.Maps
set_option maxHeartbeats 2000000
set_option maxRecDepth 100000
theorem bytes_inj {s t : ByteArray} (h : s.toList = t.toList) : s = t := by
  rw [ByteArray.toList_eq, ByteArray.toList_eq] at h
  obtain ⟨⟨l⟩⟩ := s; obtain ⟨⟨m⟩⟩ := t
  simp at h
  rw [h]
end Go.Proofs.YtinakendlpomnaaGreat
/- The two arenas side by side. -/
namespace Go.Proofs.YtinakendlpomnaaGreat
open Go.RowKit Go.Maps Arena
set_option maxHeartbeats 8000000
set_option maxRecDepth 100000
attribute [local go_sem ↓] Go.wp_at_zero Go.wp_at_succ
/-- the two arenas side by side, and how their blocks lie -/
structure Both (w0 w : World) (p g bm q gq B n : Nat) (ws : List Int) (R : List (Nat × Nat)) : Prop where
  a : ArenaAt w p g bm n ws R
  r : ∃ v, RefAt w q gq B n ws v R
  lt : p < q ∧ g < q ∧ bm < q ∧ p < gq ∧ g < gq ∧ bm < gq
  ge : w0.heap.size ≤ p ∧ w0.heap.size ≤ g ∧ w0.heap.size ≤ bm
  size : B ≤ w.heap.size
  ext : Ext w0 w
theorem Both.turnA {w0 w w' : World} {p g bm q gq B n : Nat} {ws : List Int} {R : List (Nat × Nat)} (h : Both w0 w p g bm q gq B n ws R) {bs : List Nat} (t : Turn bs w w') (hb : ∀ b ∈ bs, b = g ∨ b = bm) : (∃ v, RefAt w' q gq B n ws v R) ∧ B ≤ w'.heap.size ∧ Ext w0 w' := by
  obtain ⟨l1, l2, l3, l4, l5, l6⟩ := h.lt
  obtain ⟨g1, g2, g3⟩ := h.ge
  obtain ⟨v, hr⟩ := h.r
  refine ⟨⟨v, hr.turn t (fun hm => ?_) (fun hm => ?_) (fun b hm => ?_)⟩, Nat.le_trans h.size t.size, Below.trans h.ext (t.below h.ext.size fun b hm => ?_)⟩
  · rcases hb _ hm with h | h <;> omega
  · rcases hb _ hm with h | h <;> omega
  · have := hr.qB
    rcases hb b hm with h | h <;> omega
  · rcases hb b hm with h | h <;> omega
theorem Both.turnR {w0 w w' : World} {p g bm q gq B n : Nat} {ws : List Int} {R : List (Nat × Nat)} (h : Both w0 w p g bm q gq B n ws R) {bs : List Nat} (t : Turn bs w w') (hb : ∀ b ∈ bs, b = q ∨ b = gq) : ArenaAt w' p g bm n ws R ∧ B ≤ w'.heap.size ∧ Ext w0 w' := by
  obtain ⟨l1, l2, l3, l4, l5, l6⟩ := h.lt
  obtain ⟨g1, g2, g3⟩ := h.ge
  refine ⟨h.a.turn t (fun hm => ?_) (fun hm => ?_) (fun hm => ?_), Nat.le_trans h.size t.size, Below.trans h.ext (t.below h.ext.size fun b hm => ?_)⟩
  · rcases hb _ hm with h | h <;> omega
  · rcases hb _ hm with h | h <;> omega
  · rcases hb _ hm with h | h <;> omega
  · rcases hb b hm with h | h <;> omega
theorem Both.step {w0 w w' : World} {p g bm q gq B n : Nat} {ws : List Int} {R : List (Nat × Nat)} (h : Both w0 w p g bm q gq B n ws R) (e : Ext w w') : Both w0 w' p g bm q gq B n ws R := by
  obtain ⟨h1, h2, h3⟩ := h.turnA (Turn.of_ext (bs := []) e) (by simp)
  exact ⟨h.a.ext e, h1, h.lt, h.ge, h2, h3⟩
theorem Both.mk1 {w0 w w5 w6 : World} {p g bm q gq B n : Nat} {ws ws1 : List Int} {R R1 : List (Nat × Nat)} (h : Both w0 w p g bm q gq B n ws R) {bs cs : List Nat} (hA : ArenaAt w5 p g bm n ws1 R1) (t : Turn bs w w5) (hb : ∀ b ∈ bs, b = g ∨ b = bm)
    (hr : ∃ v, RefAt w6 q gq B n ws1 v R1) (u : Turn cs w5 w6) (hc : ∀ b ∈ cs, b = q ∨ b = gq) : Both w0 w6 p g bm q gq B n ws1 R1 := by
  obtain ⟨⟨v, hr5⟩, h2, h3⟩ := h.turnA t hb
  obtain ⟨l1, l2, l3, l4, l5, l6⟩ := h.lt
  obtain ⟨g1, g2, g3⟩ := h.ge
  refine ⟨hA.turn u (fun hm => ?_) (fun hm => ?_) (fun hm => ?_), hr, h.lt, h.ge, Nat.le_trans h2 u.size, Below.trans h3 (u.below h3.size fun b hm => ?_)⟩
  · rcases hc _ hm with h | h <;> omega
  · rcases hc _ hm with h | h <;> omega
  · rcases hc _ hm with h | h <;> omega
  · rcases hc b hm with h | h <;> omega
theorem Both.mk2 {w0 w w5 w6 : World} {p g bm q gq B n : Nat} {ws ws1 : List Int} {R R1 : List (Nat × Nat)} (h : Both w0 w p g bm q gq B n ws R) {bs cs : List Nat} (hr : ∃ v, RefAt w5 q gq B n ws1 v R1) (u : Turn cs w w5) (hc : ∀ b ∈ cs, b = q ∨ b = gq)
    (hA : ArenaAt w6 p g bm n ws1 R1) (t : Turn bs w5 w6) (hb : ∀ b ∈ bs, b = g ∨ b = bm) : Both w0 w6 p g bm q gq B n ws1 R1 := by
  obtain ⟨h1, h2, h3⟩ := h.turnR u hc
  obtain ⟨l1, l2, l3, l4, l5, l6⟩ := h.lt
  obtain ⟨g1, g2, g3⟩ := h.ge
  obtain ⟨v, hr⟩ := hr
  refine ⟨hA, ⟨v, hr.turn t (fun hm => ?_) (fun hm => ?_) (fun b hm => ?_)⟩, h.lt, h.ge, Nat.le_trans h2 t.size, Below.trans h3 (t.below h3.size fun b hm => ?_)⟩
  · rcases hb _ hm with h | h <;> omega
  · rcases hb _ hm with h | h <;> omega
  · have := hr.qB
    rcases hb b hm with h | h <;> omega
  · rcases hb b hm with h | h <;> omega
end Go.Proofs.YtinakendlpomnaaGreat
/- A region with given words: plain. -/
namespace Go.Proofs.YtinakendlpomnaaGreat
open Go.RowKit Go.Maps Arena
def rigR (m : Nat) : List (Nat × Nat) := [(0, 3), (3, m)]
def rigW (l : List Int) (j : Nat) : List Int := List.replicate 3 0 ++ (l.take j ++ List.replicate (l.length - j + 7) 0)
theorem setMany_zero (N k : Nat) : ∀ o, setMany (List.replicate N 0) o (List.replicate k 0) = List.replicate N 0 := by
  induction k with
  | zero => intro o; rfl
  | succ k ih =>
    intro o
    rw [List.replicate_succ, setMany, List.set_replicate_self]
    exact ih _
theorem rig_scan {m : Nat} (h : 1 ≤ m) : scan m 0 [(0, 3)] = 3 := by
  simp only [scan]
  rw [if_neg (by omega)]
theorem rig_ins (m : Nat) : ins (3, m) [(0, 3)] = rigR m := by simp [ins, rigR]
theorem rig_len (m : Nat) : lenAt (rigR m) 3 = m := by simp [lenAt, rigR]
theorem rig_len0 (m : Nat) : lenAt (rigR m) 0 = 3 := by simp [lenAt, rigR]
theorem rig_within {m j : Nat} (h : j < m) : within (rigR m) 3 j = true := by
  unfold within
  rw [rig_len]
  simp [h]
theorem rigW_zero (l : List Int) : rigW l 0 = List.replicate (l.length + 10) 0 := by
  unfold rigW
  rw [List.take_zero, List.nil_append, List.replicate_append_replicate]
  congr 1
  omega
theorem rigW_step {l : List Int} {m j : Nat} (hj : j < l.length) (hm : l.length ≤ m) : setWs (rigW l j) (rigR m) 3 j l[j] = rigW l (j + 1) := by
  unfold setWs
  rw [if_pos (rig_within (by omega))]
  unfold rigW
  rw [show ((3 : Int) + (j : Int)).toNat = 3 + j by omega]
  rw [List.set_append_right _ _ (by simp), List.length_replicate, show 3 + j - 3 = j by omega]
  rw [List.set_append_right _ _ (by simp; omega), List.length_take, Nat.min_eq_left (by omega), Nat.sub_self]
  rw [show l.length - j + 7 = (l.length - (j + 1) + 7) + 1 by omega, @List.replicate_succ _ _ (l.length - (j + 1) + 7), List.set_cons_zero, List.take_succ_eq_append_getElem hj, List.append_assoc]
  rfl
theorem rigW_wordsAt (l : List Int) : wordsAt (rigW l l.length) (rigR (max 1 l.length)) 3 = if l = [] then [0] else l := by
  unfold wordsAt rigW
  rw [rig_len]
  cases l with
  | nil => rfl
  | cons a l => simp
theorem rigW_len (l : List Int) (j : Nat) (hj : j ≤ l.length) : (rigW l j).length = l.length + 10 := by
  unfold rigW
  simp
  omega
theorem w64_zero : W64 0 := by unfold W64; omega
theorem rigW_mem {l : List Int} (h : ∀ x ∈ l, W64 x) (j : Nat) : ∀ x ∈ rigW l j, W64 x := by
  intro x hx
  unfold rigW at hx
  rw [List.mem_append, List.mem_append] at hx
  rcases hx with h1 | h1 | h1
  · rw [(List.mem_replicate.1 h1).2]; exact w64_zero
  · exact h x (List.mem_of_mem_take h1)
  · rw [(List.mem_replicate.1 h1).2]; exact w64_zero
end Go.Proofs.YtinakendlpomnaaGreat
/- What stays of a region's words while objects are put: plain. -/
namespace Go.Proofs.YtinakendlpomnaaGreat
open Go.RowKit Go.Maps Arena
set_option maxRecDepth 100000
theorem piece_64 (l : List UInt8) (j : Nat) : W64 (pieceN l j) := by
  unfold pieceN W64
  have h := pk_lt ((l.drop (8 * j)).take 8)
  have h8 : ((l.drop (8 * j)).take 8).length ≤ 8 := by rw [List.length_take]; omega
  have h2 : 256 ^ ((l.drop (8 * j)).take 8).length ≤ 256 ^ 8 := Nat.pow_le_pow_right (by omega) h8
  have e : (256 : Nat) ^ 8 = 18446744073709551616 := by decide
  constructor
  · omega
  · omega
theorem layO_64 {o : Ob} (hm : mayO o = true) (hF : ∀ x ∈ o.fields, W64 x) : ∀ x ∈ layO o, W64 x := by
  intro x hx
  unfold layO at hx
  rcases List.mem_cons.1 hx with rfl | hx
  · unfold mayO at hm
    obtain ⟨h1, h2, h3, h4, _, _, h5, _⟩ := mayK_bounds hm
    unfold headO headK W64
    omega
  · unfold bodyO at hx
    split at hx
    · unfold pieces at hx
      obtain ⟨j, _, rfl⟩ := List.mem_map.1 hx
      exact piece_64 _ _
    · exact hF x hx
theorem putB_may {ws : List Int} {R : List (Nat × Nat)} {h : Hp} {o : Ob} (hb : putB ws R h o = true) : mayO o = true := by
  cases hm : mayO o with
  | true => rfl
  | false =>
    unfold putB at hb
    split at hb
    · cases hb
    · simp [hm] at hb
theorem putWs_64 {ws : List Int} {R : List (Nat × Nat)} {h : Hp} {o : Ob} (hb : putB ws R h o = true) (hW : ∀ x ∈ ws, W64 x) (hF : ∀ x ∈ o.fields, W64 x) : ∀ x ∈ putWs ws R h o, W64 x := by
  intro x hx
  rcases setRun_mem hx with h1 | h1
  · exact hW x h1
  · exact layO_64 (putB_may hb) hF x h1
theorem wsOf_64 {ws : List Int} {R : List (Nat × Nat)} {ba : Int} {k : Option Int} {v : Int} (hW : ∀ x ∈ ws, W64 x) (hv : W64 v) : ∀ x ∈ wsOf ws R ba k v, W64 x := by
  intro x hx
  unfold wsOf at hx
  split at hx
  · exact hW x hx
  · rcases setWs_mem hx with h1 | rfl
    · exact hW x h1
    · exact hv
theorem setWs_take {ws : List Int} {R : List (Nat × Nat)} {a v : Int} : (setWs ws R 3 a v).take 3 = ws.take 3 := by
  unfold setWs
  split
  · rename_i hw
    unfold within at hw
    have hw := of_decide_eq_true hw
    rw [List.take_set_of_le (by omega)]
  · rfl
theorem setRun_take {R : List (Nat × Nat)} : ∀ (l ws : List Int) (k : Nat), (setRun ws R 3 k l).take 3 = ws.take 3 := by
  intro l
  induction l with
  | nil => intro ws k; rfl
  | cons v l ih => intro ws k; rw [setRun, ih, setWs_take]
theorem putWs_take {ws : List Int} {R : List (Nat × Nat)} {h : Hp} {o : Ob} (h3 : h.base = 3) : (putWs ws R h o).take 3 = ws.take 3 := by
  unfold putWs; rw [h3]; exact setRun_take _ _ _
theorem wsOf_take {ws : List Int} {R : List (Nat × Nat)} {ba : Int} {k : Option Int} {v : Int} (h3 : ba = 3) : (wsOf ws R ba k v).take 3 = ws.take 3 := by
  subst h3
  unfold wsOf
  split
  · rfl
  · exact setWs_take
theorem rigW_take (l : List Int) (j : Nat) : (rigW l j).take 3 = [0, 0, 0] := by
  unfold rigW
  rw [List.take_append_of_le_length (by simp)]
  rfl
end Go.Proofs.YtinakendlpomnaaGreat
/- Objects that are put, fields that are set: what a heap's objects are then. Plain. -/
namespace Go.Proofs.YtinakendlpomnaaGreat
open Go.RowKit Go.Maps Arena
set_option maxRecDepth 100000
theorem pk_digit : ∀ (A : List UInt8) (j : Nat), pk A / 256 ^ j % 256 = (A[j]?.map UInt8.toNat).getD 0
  | [], j => by simp [pk]
  | b :: A, 0 => by
    have := b.toNat_lt
    simp only [pk, Nat.pow_zero, Nat.div_one, List.getElem?_cons_zero, Option.map_some, Option.getD_some]
    omega
  | b :: A, j + 1 => by
    have := b.toNat_lt
    rw [List.getElem?_cons_succ, ← pk_digit A j, pk, Nat.pow_succ, Nat.mul_comm (256 ^ j) 256, ← Nat.div_div_eq_div_mul]
    congr 2
    omega
theorem bytes8_pk {A : List UInt8} (h : A.length ≤ 8) : bytes8 (pk A : Int) = A ++ List.replicate (8 - A.length) 0 := by
  apply List.ext_getElem?
  intro j
  unfold bytes8
  rw [List.getElem?_map, Int.toNat_natCast]
  by_cases hj : j < 8
  · rw [List.getElem?_range hj]
    simp only [Option.map_some]
    rw [pk_digit]
    by_cases hA : j < A.length
    · rw [List.getElem?_append_left hA, List.getElem?_eq_getElem hA]
      simp
    · rw [List.getElem?_append_right (by omega), List.getElem?_replicate, if_pos (by omega), List.getElem?_eq_none (by omega)]
      rfl
  · rw [List.getElem?_eq_none (by simp; omega), List.getElem?_eq_none (by simp; omega)]
    rfl
/-- a text's words hold its bytes, and 0 behind them -/
theorem bytes_pieces : ∀ (n : Nat) (l : List UInt8), l.length ≤ n → ∃ z, bytesOf (pieces l) = l ++ z ∧ z.all (· == 0) = true := by
  intro n
  induction n with
  | zero =>
    intro l h
    obtain rfl := List.eq_nil_of_length_eq_zero (Nat.le_zero.1 h)
    exact ⟨[], rfl, rfl⟩
  | succ n ih =>
    intro l h
    by_cases h0 : l.length = 0
    · obtain rfl := List.eq_nil_of_length_eq_zero h0
      exact ⟨[], rfl, rfl⟩
    · by_cases h8 : l.length ≤ 8
      · rw [pieces_short (by omega) h8, bytesOf_cons, bytes8_pk h8]
        exact ⟨List.replicate (8 - l.length) 0, by simp [bytesOf], by simp⟩
      · obtain ⟨z, hz, hz0⟩ := ih (l.drop 8) (by rw [List.length_drop]; omega)
        have ht : (l.take 8).length = 8 := by rw [List.length_take]; omega
        refine ⟨z, ?_, hz0⟩
        have h8e : pieces l = (pk (l.take 8) : Int) :: pieces (l.drop 8) := by
          have := pieces_cons (l := l.drop 8) ht
          rw [List.take_append_drop] at this
          exact this
        rw [h8e, bytesOf_cons, bytes8_pk (by omega), hz, ht]
        simp only [Nat.sub_self, List.replicate_zero, List.append_nil]
        rw [← List.append_assoc, List.take_append_drop]
theorem layO_len {o : Ob} (hm : mayO o = true) : (layO o).length = wordsO o := by
  have := body_len hm; unfold layO; rw [List.length_cons]; omega
theorem ob_text {kd tg : Int} {F : List Int} {t : ByteArray} (hm : mayK kd tg F.length t.size = true) (h : kd ≠ 2) : t = ByteArray.empty := by
  have h0 : t.size = 0 := by
    rcases mayK_cases hm with ⟨_, h⟩ | ⟨h1, _⟩ | ⟨_, h⟩ | ⟨_, h⟩
    · exact h.2.2.2.2
    · exact absurd h1 h
    · exact h.2.2
    · exact h.2.2.2
  obtain ⟨⟨l⟩⟩ := t
  cases l with
  | nil => rfl
  | cons a l => simp [ByteArray.size] at h0
/-- what is laid is read -/
theorem readS_lay {o : Ob} (hm : mayO o = true) (T : List Int) : readS (layO o ++ T) = some o := by
  have hbl := body_len hm
  have hmk := hm
  unfold mayO at hmk
  obtain ⟨b1, b2, b3, b4, b5, b6, b7, b8⟩ := mayK_bounds hmk
  have d1 : headO o % 256 = o.kind := by unfold headO headK; omega
  have d2 : headO o / 256 % 16777216 = o.tag := by unfold headO headK; omega
  have d3 : (headO o / 4294967296).toNat = sizeK o.kind o.fields.length o.text.size := by unfold headO headK; omega
  have hbd : bodyK o.kind (sizeK o.kind o.fields.length o.text.size) (sizeK o.kind o.fields.length o.text.size) = (bodyO o).length := by
    unfold wordsO at hbl
    have : bodyK o.kind (sizeK o.kind o.fields.length o.text.size) (sizeK o.kind o.fields.length o.text.size) = bodyK o.kind o.fields.length o.text.size := by
      unfold bodyK sizeK
      by_cases h2 : o.kind = 2
      · rw [if_pos h2, if_pos h2, if_pos h2]
      · rw [if_neg h2, if_neg h2, if_neg h2]
    omega
  unfold layO
  rw [List.cons_append]
  unfold readS
  simp only [d1, d2, d3, hbd]
  rw [if_pos ⟨b1, b2, b7, by rw [List.length_append]; omega⟩]
  rw [List.take_append_of_le_length (Nat.le_refl _), List.take_length]
  obtain ⟨kd, tg, F, t⟩ := o
  dsimp only at *
  by_cases h2 : kd = 2
  · subst h2
    have hF : F = [] := by
      rcases mayK_cases hmk with ⟨h1, _⟩ | ⟨_, _, h, _⟩ | ⟨h1, _⟩ | ⟨h1, _⟩
      · omega
      · exact List.eq_nil_of_length_eq_zero h
      · omega
      · omega
    subst hF
    have hb : bodyO ⟨2, tg, [], t⟩ = pieces t.data.toList := rfl
    have hs : sizeK 2 ([] : List Int).length t.size = t.size := rfl
    obtain ⟨z, hz, hz0⟩ := bytes_pieces _ t.data.toList (Nat.le_refl _)
    rw [if_pos rfl, hb, hs, hz]
    have htl : t.data.toList.length = t.size := by rw [Array.length_toList]; rfl
    rw [List.drop_append_of_le_length (by omega), List.drop_eq_nil_of_le (by omega), List.nil_append, List.take_append_of_le_length (by omega), List.take_of_length_le (by omega)]
    have ho : (⟨2, tg, [], ⟨t.data.toList.toArray⟩⟩ : Ob) = ⟨2, tg, [], t⟩ := by obtain ⟨⟨l⟩⟩ := t; rfl
    rw [if_pos ⟨fun _ => hz0, by rw [ho]; exact hm⟩, ho]
  · have hb : bodyO ⟨kd, tg, F, t⟩ = F := if_neg h2
    have ht := ob_text hmk h2
    subst ht
    rw [if_neg h2, hb, if_pos ⟨fun h => absurd h h2, hm⟩]
theorem readS_app {S : List Int} {o : Ob} (h : readS S = some o) (T : List Int) : readS (S ++ T) = some o := by
  cases S with
  | nil => cases h
  | cons hd r =>
    rw [List.cons_append]
    unfold readS at h ⊢
    simp only at h ⊢
    split at h
    · rename_i hc
      obtain ⟨c1, c2, c3, c4⟩ := hc
      rw [if_pos ⟨c1, c2, c3, by rw [List.length_append]; omega⟩, List.take_append_of_le_length c4]
      exact h
    · cases h
theorem objs_app : ∀ (n : Nat) (S : List Int) (a : Nat) (L : List (Nat × Ob)) (T : List Int) (M : List (Nat × Ob)), S.length ≤ n → objs S a = some L → objs T (a + S.length) = some M → objs (S ++ T) a = some (L ++ M) := by
  intro n
  induction n with
  | zero =>
    intro S a L T M hn h hT
    obtain rfl := List.eq_nil_of_length_eq_zero (Nat.le_zero.1 hn)
    rw [objs_nil] at h
    obtain rfl := Option.some.inj h
    exact hT
  | succ n ih =>
    intro S a L T M hn h hT
    by_cases hS : S = []
    · subst hS
      rw [objs_nil] at h
      obtain rfl := Option.some.inj h
      exact hT
    · rw [objs_cons hS] at h
      cases hr : readS S with
      | none => rw [hr] at h; cases h
      | some o =>
        rw [hr] at h
        simp only at h
        cases hd : objs (S.drop (wordsO o)) (a + wordsO o) with
        | none => rw [hd] at h; cases h
        | some L' =>
          rw [hd] at h
          obtain rfl := Option.some.inj h
          obtain ⟨w1, w2, _⟩ := readS_words hr
          have hl : (S.drop (wordsO o)).length = S.length - wordsO o := List.length_drop
          have := ih (S.drop (wordsO o)) (a + wordsO o) L' T M (by omega) hd (by rw [show a + wordsO o + (S.drop (wordsO o)).length = a + S.length by omega]; exact hT)
          rw [objs_cons (by simp [hS]), readS_app hr]
          simp only
          rw [List.drop_append_of_le_length w1, this]
          rfl
theorem objs_one {o : Ob} (hm : mayO o = true) (a : Nat) : objs (layO o) a = some [(a, o)] := by
  have hl := layO_len hm
  have hr := readS_lay hm []
  rw [List.append_nil] at hr
  rw [objs_cons (by unfold layO; simp), hr]
  simp only
  rw [List.drop_eq_nil_of_le (by omega), objs_nil]
  rfl
theorem fieldOK_mono {P Q : List Nat} {first : Nat} {x : Int} (hs : ∀ a ∈ P, a ∈ Q) (h : fieldOK P first x = true) : fieldOK Q first x = true := by
  unfold fieldOK at h ⊢
  simp only [Bool.or_eq_true, Bool.and_eq_true, List.any_eq_true] at h ⊢
  rcases h with h | ⟨h1, a, h2, h3⟩
  · exact .inl h
  · exact .inr ⟨h1, a, hs a h2, h3⟩
theorem fieldsOK_app {first : Nat} {L : List (Nat × Ob)} {y : Nat × Ob} (h : fieldsOK first L = true) (hy : y.2.fields.all (fieldOK (L.map (·.1)) first) = true) : fieldsOK first (L ++ [y]) = true := by
  unfold fieldsOK at h ⊢
  rw [List.all_append, Bool.and_eq_true]
  have hs : ∀ a ∈ L.map (·.1), a ∈ (L ++ [y]).map (·.1) := fun a ha => by rw [List.map_append]; exact List.mem_append_left _ ha
  refine ⟨List.all_eq_true.2 fun x hx => List.all_eq_true.2 fun f hf => fieldOK_mono hs ?_, ?_⟩
  · exact List.all_eq_true.1 (List.all_eq_true.1 h x hx) f hf
  · simp only [List.all_cons, List.all_nil, Bool.and_true]
    exact List.all_eq_true.2 fun f hf => fieldOK_mono hs (List.all_eq_true.1 hy f hf)
theorem allS_put {first : Nat} {S : List Int} {L : List (Nat × Ob)} {o : Ob} (h : allS first S = some L) (hm : mayO o = true) (hF : o.fields.all (fieldOK (L.map (·.1)) first) = true) : allS first (S ++ layO o) = some (L ++ [(S.length, o)]) := by
  obtain ⟨h1, h2⟩ := allS_some h
  have h3 := objs_app S.length S 0 L (layO o) _ (Nat.le_refl _) h1 (objs_one hm _)
  unfold allS
  rw [h3]
  simp only
  rw [Nat.zero_add, if_pos (fieldsOK_app h2 hF)]
/-! ### the words of a region -/
theorem setMany_eq : ∀ (l V : List Int) (k : Nat), k + l.length ≤ V.length → setMany V k l = V.take k ++ (l ++ V.drop (k + l.length))
  | [], V, k, h => by simp [setMany]
  | x :: l, V, k, h => by
    rw [List.length_cons] at h
    rw [setMany, setMany_eq l (V.set k x) (k + 1) (by rw [List.length_set]; omega), List.length_cons, List.drop_set_of_lt (by omega), List.take_succ_eq_append_getElem (by rw [List.length_set]; omega), List.getElem_set_self, List.take_set_of_le (Nat.le_refl _), show k + 1 + l.length = k + (l.length + 1) by omega]
    simp
theorem wordsAt_set {n : Nat} {ws : List Int} {R : List (Nat × Nat)} (_hg : Arena.Good n R) (_hl : ws.length = n) {x v : Int} {a : Nat} (ha : a < lenAt R x) : wordsAt (setWs ws R x a v) R x = (wordsAt ws R x).set a v := by
  obtain ⟨r, hr, h1, h2⟩ := lenAt_some (show lenAt R x ≠ 0 by omega)
  unfold setWs within
  rw [decide_eq_true (show (0 : Int) ≤ a ∧ (a : Int) < lenAt R x by omega), if_pos rfl]
  unfold wordsAt
  rw [show (x + (a : Int)).toNat = x.toNat + a by omega, List.drop_set, if_neg (by omega), Nat.add_sub_cancel_left, List.take_set]
theorem wordsAt_run {n : Nat} {R : List (Nat × Nat)} (hg : Arena.Good n R) {x : Int} : ∀ (l ws : List Int) (k : Nat), ws.length = n → k + l.length ≤ lenAt R x → wordsAt (setRun ws R x k l) R x = setMany (wordsAt ws R x) k l
  | [], ws, k, _, _ => rfl
  | v :: l, ws, k, hl, h => by
    rw [List.length_cons] at h
    rw [setRun, wordsAt_run hg l _ (k + 1) (by rw [setWs_len]; exact hl) (by omega), wordsAt_set hg hl (by omega)]
    rfl
theorem semi_put {n : Nat} {ws : List Int} {R : List (Nat × Nat)} {h : Hp} {o : Ob} (hg : Arena.Good n R) (hl : ws.length = n) (ht : thereB R h = true) (hm : mayO o = true) (hfit : h.top + (wordsO o : Nat) ≤ h.half) : semi (putWs ws R h o) R (hpUp h o) = semi ws R h ++ layO o := by
  obtain ⟨hok, h2⟩ := thereB_ok ht
  have hf := firstN_is hok
  have hll := layO_len hm
  have hwl := wordsAt_len hg hl h.base
  obtain ⟨a1, a2, a3, a4, a5, a6⟩ := hok
  have hff : firstN (hpUp h o) = firstN h := rfl
  have htn : (hpUp h o).top.toNat = h.top.toNat + wordsO o := by unfold hpUp; dsimp only; omega
  unfold semi
  rw [hff, htn]
  show ((wordsAt (setRun ws R h.base (topN h) (layO o)) R h.base).drop (firstN h)).take _ = _
  rw [wordsAt_run hg _ _ _ hl (by unfold topN; omega), setMany_eq _ _ _ (by unfold topN; omega)]
  generalize wordsAt ws R h.base = V at hwl ⊢
  have e1 : (V.take (topN h) ++ (layO o ++ V.drop (topN h + (layO o).length))).drop (firstN h) = (V.drop (firstN h)).take h.top.toNat ++ (layO o ++ V.drop (topN h + (layO o).length)) := by
    unfold topN
    rw [List.drop_append_of_le_length (by rw [List.length_take]; omega), List.drop_take, Nat.add_sub_cancel_left]
  rw [e1, ← List.append_assoc, List.take_left' (by rw [List.length_append, List.length_take, List.length_drop]; omega)]
theorem thereB_up {R : List (Nat × Nat)} {h : Hp} {o : Ob} (ht : thereB R h = true) (hfit : h.top + (wordsO o : Nat) ≤ h.half) : thereB R (hpUp h o) = true := by
  obtain ⟨⟨a1, a2, a3, a4, a5, a6⟩, h2⟩ := thereB_ok ht
  unfold thereB hpUp
  simp only [Bool.and_eq_true, decide_eq_true_eq]
  exact ⟨⟨a1, a2, a3, a4, by dsimp only; omega, hfit⟩, h2⟩
theorem putB_some {ws : List Int} {R : List (Nat × Nat)} {h : Hp} {o : Ob} {L : List (Nat × Ob)} (ha : allH ws R h = some L) : putB ws R h o = (mayO o && decide (h.top + (wordsO o : Nat) ≤ h.half) && o.fields.all (fieldOK (L.map (·.1)) (firstN h))) := by
  unfold putB; rw [ha]
/-- an object that is put stands behind all others -/
theorem allH_put {n : Nat} {ws : List Int} {R : List (Nat × Nat)} {h : Hp} {o : Ob} {L : List (Nat × Ob)} (hg : Arena.Good n R) (hl : ws.length = n) (ha : allH ws R h = some L) (hb : putB ws R h o = true) : allH (putWs ws R h o) R (hpUp h o) = some (L ++ [(h.top.toNat, o)]) := by
  rw [putB_some ha] at hb
  simp only [Bool.and_eq_true, decide_eq_true_eq] at hb
  obtain ⟨⟨hm, hfit⟩, hF⟩ := hb
  obtain ⟨ht, hS⟩ := allH_there ha
  unfold allH
  rw [if_pos (thereB_up ht hfit), semi_put hg hl ht hm hfit]
  have := allS_put hS hm hF
  rw [semi_len hg hl ht] at this
  exact this
/-! ### a field that is set -/
def updF (a i : Nat) (v : Int) (y : Nat × Ob) : Nat × Ob := if y.1 = a then (y.1, { y.2 with fields := y.2.fields.set i v }) else y
theorem updF_fst (a i : Nat) (v : Int) (y : Nat × Ob) : (updF a i v y).1 = y.1 := by unfold updF; split <;> rfl
theorem updF_words (a i : Nat) (v : Int) (y : Nat × Ob) : wordsO (updF a i v y).2 = wordsO y.2 := by
  unfold updF
  split
  · unfold wordsO; simp
  · rfl
theorem readS_size {hd : Int} {r : List Int} {o : Ob} (h : readS (hd :: r) = some o) : wordsO o = bodyK (hd % 256) (hd / 4294967296).toNat (hd / 4294967296).toNat + 1 := by
  by_cases h2 : hd % 256 = 2
  · unfold readS at h
    simp only [h2, if_true] at h
    split at h
    · rename_i hc
      obtain ⟨_, _, hs, hb⟩ := hc
      split at h
      · obtain rfl := Option.some.inj h
        rw [h2]
        unfold wordsO
        dsimp only
        have hl : (ByteArray.mk ((bytesOf (r.take (bodyK 2 (hd / 4294967296).toNat (hd / 4294967296).toNat))).take (hd / 4294967296).toNat).toArray).size = (hd / 4294967296).toNat := by
          unfold bodyK at hb ⊢
          simp only [if_true] at hb ⊢
          rw [ByteArray.size, List.size_toArray, List.length_take, bytesOf_len, List.length_take]; omega
        rw [hl]
        unfold bodyK
        simp only [if_true]
        omega
      · cases h
    · cases h
  · unfold readS at h
    simp only [h2, if_false, false_implies, true_and] at h
    split at h
    · rename_i hc
      obtain ⟨_, _, hs, hb⟩ := hc
      split at h
      · obtain rfl := Option.some.inj h
        unfold wordsO
        unfold bodyK at hb ⊢
        simp only [h2, if_false] at hb ⊢
        rw [List.length_take]
        omega
      · cases h
    · cases h
theorem readS_take {S : List Int} {o : Ob} (h : readS S = some o) : readS (S.take (wordsO o)) = some o := by
  cases S with
  | nil => cases h
  | cons hd r =>
    rw [readS_size h, List.take_succ_cons]
    unfold readS at h ⊢
    simp only at h ⊢
    split at h
    · rename_i hc
      obtain ⟨c1, c2, c3, c4⟩ := hc
      rw [if_pos ⟨c1, c2, c3, by rw [List.length_take]; omega⟩, List.take_take, Nat.min_self]
      exact h
    · cases h
/-- a field of the first object is set -/
theorem readS_set {S : List Int} {o : Ob} (h : readS S = some o) {i : Nat} (hi : i < o.fields.length) (v : Int) : readS (S.set (1 + i) v) = some { o with fields := o.fields.set i v } := by
  cases S with
  | nil => cases h
  | cons hd r =>
    rw [Nat.add_comm 1 i, List.set_cons_succ]
    by_cases h2 : hd % 256 = 2
    · exfalso
      unfold readS at h
      simp only [h2, if_true] at h
      split at h
      · split at h
        · obtain rfl := Option.some.inj h
          simp at hi
        · cases h
      · cases h
    · have hm := (readS_words h).2.2
      unfold readS at h ⊢
      simp only [h2, if_false, false_implies, true_and] at h ⊢
      split at h
      · rename_i hc
        obtain ⟨c1, c2, c3, c4⟩ := hc
        rw [if_pos ⟨c1, c2, c3, by rw [List.length_set]; exact c4⟩]
        split at h
        · rename_i hm2
          obtain rfl := Option.some.inj h
          rw [List.take_set]
          rw [if_pos (by unfold mayO at hm2 ⊢; dsimp only at hm2 ⊢; rw [List.length_set]; exact hm2)]
        · cases h
      · cases h
theorem objs_ge {S : List Int} {a : Nat} {L : List (Nat × Ob)} (h : objs S a = some L) : ∀ y ∈ L, a ≤ y.1 ∧ y.1 + wordsO y.2 ≤ a + S.length :=
  objs_ind (P := fun S a L => ∀ y ∈ L, a ≤ y.1 ∧ y.1 + wordsO y.2 ≤ a + S.length) (fun a y hy => by cases hy)
    (fun S a o L hS hr ih y hy => by
      have hw := (readS_words hr).1
      rcases List.mem_cons.1 hy with rfl | hy
      · dsimp only; omega
      · have := ih y hy
        rw [List.length_drop] at this
        omega) S.length (Nat.le_refl _) h
theorem objs_set (i : Nat) (v : Int) : ∀ (n : Nat) (S : List Int) (b : Nat) (L : List (Nat × Ob)) (y : Nat × Ob), S.length ≤ n → objs S b = some L → y ∈ L → i < y.2.fields.length → objs (S.set (y.1 - b + 1 + i) v) b = some (L.map (updF y.1 i v)) := by
  intro n
  induction n with
  | zero =>
    intro S b L y hn h hy
    obtain rfl := List.eq_nil_of_length_eq_zero (Nat.le_zero.1 hn)
    rw [objs_nil] at h
    obtain rfl := Option.some.inj h
    cases hy
  | succ n ih =>
    intro S b L y hn h hy hi
    by_cases hS : S = []
    · subst hS
      rw [objs_nil] at h
      obtain rfl := Option.some.inj h
      cases hy
    · have h0 := h
      rw [objs_cons hS] at h
      cases hr : readS S with
      | none => rw [hr] at h; cases h
      | some o =>
        rw [hr] at h
        simp only at h
        cases hd : objs (S.drop (wordsO o)) (b + wordsO o) with
        | none => rw [hd] at h; cases h
        | some L' =>
          rw [hd] at h
          obtain rfl := Option.some.inj h
          obtain ⟨w1, w2, hmay⟩ := readS_words hr
          have hge := objs_ge hd
          have hne : S.set (y.1 - b + 1 + i) v ≠ [] := by simp [hS]
          rw [List.map_cons]
          rcases List.mem_cons.1 hy with rfl | hy
          · dsimp only at hi ⊢
            have hfw : wordsO o = 1 + o.fields.length := fields_words hmay (by intro e; rw [e] at hi; simp at hi)
            rw [Nat.sub_self, Nat.zero_add] at hne ⊢
            rw [objs_cons hne, readS_set hr hi v]
            simp only
            have hwo : wordsO { o with fields := o.fields.set i v } = wordsO o := by unfold wordsO; simp
            rw [hwo, List.drop_set_of_lt (by omega), hd]
            simp only [Option.map_some]
            congr 1
            congr 1
            · unfold updF; rw [if_pos rfl]
            · symm
              refine (List.map_congr_left fun z hz => ?_).trans (List.map_id _)
              unfold updF
              rw [if_neg (by have := (hge z hz).1; omega)]
              rfl
          · have hyg := hge y hy
            have hse : S.set (y.1 - b + 1 + i) v = S.take (wordsO o) ++ (S.drop (wordsO o)).set (y.1 - (b + wordsO o) + 1 + i) v := by
              have e0 : S = S.take (wordsO o) ++ S.drop (wordsO o) := (List.take_append_drop _ _).symm
              have hl : (S.take (wordsO o)).length = wordsO o := by rw [List.length_take]; omega
              have e1 : (S.take (wordsO o) ++ S.drop (wordsO o)).set (y.1 - b + 1 + i) v = S.take (wordsO o) ++ (S.drop (wordsO o)).set (y.1 - (b + wordsO o) + 1 + i) v := by
                rw [List.set_append_right _ _ (by omega), hl]
                congr 2
                omega
              rw [List.take_append_drop] at e1
              exact e1
            have hl : (S.take (wordsO o)).length = wordsO o := by rw [List.length_take]; omega
            rw [objs_cons hne, hse, readS_app (readS_take hr)]
            simp only
            rw [List.drop_append_of_le_length (by omega), List.drop_of_length_le (by omega), List.nil_append, ih (S.drop (wordsO o)) (b + wordsO o) L' y (by rw [List.length_drop]; omega) hd hy hi]
            simp only [Option.map_some]
            congr 2
            unfold updF
            rw [if_neg (by dsimp only; omega)]
theorem updF_places (a i : Nat) (v : Int) (L : List (Nat × Ob)) : (L.map (updF a i v)).map (·.1) = L.map (·.1) := by
  rw [List.map_map]
  exact List.map_congr_left fun y _ => updF_fst a i v y
theorem fieldsOK_set {first a i : Nat} {v : Int} {L : List (Nat × Ob)} (h : fieldsOK first L = true) (hv : fieldOK (L.map (·.1)) first v = true) : fieldsOK first (L.map (updF a i v)) = true := by
  unfold fieldsOK at h ⊢
  rw [updF_places]
  refine List.all_eq_true.2 fun x hx => ?_
  obtain ⟨y, hy, rfl⟩ := List.mem_map.1 hx
  have h1 := List.all_eq_true.1 h y hy
  unfold updF
  split
  · refine List.all_eq_true.2 fun f hf => ?_
    rcases List.mem_or_eq_of_mem_set hf with hf | rfl
    · exact List.all_eq_true.1 h1 f hf
    · exact hv
  · exact h1
theorem semi_setWs {n : Nat} {ws : List Int} {R : List (Nat × Nat)} {h : Hp} (hg : Arena.Good n R) (hl : ws.length = n) (ht : thereB R h = true) {j : Nat} (hj : j < h.top.toNat) (v : Int) : semi (setWs ws R h.base ((firstN h : Int) + j) v) R h = (semi ws R h).set j v := by
  obtain ⟨hok, h2⟩ := thereB_ok ht
  have hf := firstN_is hok
  obtain ⟨a1, a2, a3, a4, a5, a6⟩ := hok
  unfold semi
  rw [show (firstN h : Int) + j = ((firstN h + j : Nat) : Int) by omega, wordsAt_set hg hl (by omega), List.drop_set, if_neg (by omega), Nat.add_sub_cancel_left, List.take_set]
/-- a field that is set: the objects are as they were, but that field -/
theorem allH_set {n : Nat} {ws : List Int} {R : List (Nat × Nat)} {h : Hp} {L : List (Nat × Ob)} {x i v : Int} {y : Nat × Ob} (hg : Arena.Good n R) (hl : ws.length = n) (ha : allH ws R h = some L) (hy : getL (firstN h) L x = some y) (hi : 0 ≤ i) (hi2 : i < y.2.fields.length) (hv : fieldOK (L.map (·.1)) (firstN h) v = true) :
    setAt ws R h x i v = some ((firstN h : Int) + y.1 + 1 + i) ∧ allH (wsOf ws R h.base (setAt ws R h x i v) v) R h = some (L.map (updF y.1 i.toNat v)) := by
  have hs : setAt ws R h x i v = some ((firstN h : Int) + y.1 + 1 + i) := by
    unfold setAt
    rw [ha]
    simp only
    rw [hy]
    simp only
    rw [if_pos ⟨hi, hi2, hv⟩]
  refine ⟨hs, ?_⟩
  rw [hs]
  obtain ⟨ht, hS⟩ := allH_there ha
  obtain ⟨ho, hf⟩ := allS_some hS
  have hyL := (getL_some hy).1
  have hfit := objs_ge ho y hyL
  have hmay := (objs_fields ho y hyL).1
  rw [fields_words hmay (by intro e; rw [e] at hi2; simp at hi2; omega), semi_len hg hl ht] at hfit
  unfold allH
  rw [if_pos ht]
  unfold wsOf
  simp only
  rw [show (firstN h : Int) + y.1 + 1 + i = (firstN h : Int) + ((y.1 - 0 + 1 + i.toNat : Nat) : Int) by omega, semi_setWs hg hl ht (by omega)]
  unfold allS
  rw [objs_set i.toNat v _ _ 0 L y (Nat.le_refl _) ho hyL (by omega)]
  simp only
  rw [if_pos (fieldsOK_set hf hv)]
theorem getL_upd {first : Nat} {L : List (Nat × Ob)} {x v : Int} {a i : Nat} : getL first (L.map (updF a i v)) x = (getL first L x).map (updF a i v) := by
  unfold getL
  split
  · rfl
  · rw [List.find?_map]
    congr 1
    apply congrFun
    apply congrArg
    funext y
    simp only [Function.comp_apply, updF_fst]
end Go.Proofs.YtinakendlpomnaaGreat
/- Collections, in plain Lean: what is moved, in which order, and what the words are then. -/
namespace Go.Proofs.YtinakendlpomnaaGreat
open Go.RowKit Go.Maps Arena
set_option maxRecDepth 100000
/-! ### a region's words, as one row -/
/-- the words, with others in a region -/
def regW (ws : List Int) (ba : Nat) (V : List Int) : List Int := ws.take ba ++ (V ++ ws.drop (ba + V.length))
theorem regW_len {ws V : List Int} {ba : Nat} (h : ba + V.length ≤ ws.length) : (regW ws ba V).length = ws.length := by
  unfold regW
  simp only [List.length_append, List.length_take, List.length_drop]
  omega
/-- a region that is one: where it begins, how many words -/
structure RegAt (R : List (Nat × Nat)) (n : Nat) (ba len : Nat) : Prop where
  l : lenAt R (ba : Int) = len
  pos : 0 < len
  fit : ba + len ≤ n
theorem regAt_of {n : Nat} {R : List (Nat × Nat)} (hg : Arena.Good n R) {x : Int} {len : Nat} (hl : lenAt R x = len) (h0 : 0 < len) : ∃ ba : Nat, x = (ba : Int) ∧ RegAt R n ba len := by
  obtain ⟨r, hr, h1, h2⟩ := lenAt_some (show lenAt R x ≠ 0 by omega)
  have h3 := (hg.2 r hr).2
  exact ⟨r.1, h1.symm, by rw [h1]; exact hl, h0, by omega⟩
section
variable {ws : List Int} {R : List (Nat × Nat)} {n ba len : Nat} {V : List Int}
theorem RegAt.get (hr : RegAt R n ba len) (hl : ws.length = n) (hV : V.length = len) {a : Nat} (ha : a < len) : getW (regW ws ba V) R ba (a : Int) = V.getD a 0 := by
  have hw : within R ba a = true := by unfold within; rw [hr.l]; exact decide_eq_true (by omega)
  unfold getW
  rw [if_pos hw, show ((ba : Int) + (a : Int)).toNat = ba + a by omega]
  have := hr.fit
  unfold regW
  rw [List.getD_eq_getElem?_getD, List.getD_eq_getElem?_getD, List.getElem?_append_right (by rw [List.length_take]; omega), List.length_take, Nat.min_eq_left (by omega), Nat.add_sub_cancel_left, List.getElem?_append_left (by omega)]
theorem RegAt.set (hr : RegAt R n ba len) (hl : ws.length = n) (hV : V.length = len) {a : Nat} (ha : a < len) (v : Int) : setWs (regW ws ba V) R ba (a : Int) v = regW ws ba (V.set a v) := by
  have hw : within R ba a = true := by unfold within; rw [hr.l]; exact decide_eq_true (by omega)
  have := hr.fit
  unfold setWs
  rw [if_pos hw, show ((ba : Int) + (a : Int)).toNat = ba + a by omega]
  unfold regW
  rw [List.set_append_right _ _ (by rw [List.length_take]; omega), List.length_take, Nat.min_eq_left (by omega), Nat.add_sub_cancel_left, List.set_append_left _ _ (by omega), List.length_set]
theorem RegAt.words (hr : RegAt R n ba len) (hl : ws.length = n) (hV : V.length = len) : wordsAt (regW ws ba V) R ba = V := by
  have := hr.fit
  unfold wordsAt regW
  rw [hr.l, Int.toNat_natCast, List.drop_append_of_le_length (by rw [List.length_take]; omega), List.drop_of_length_le (by rw [List.length_take]; omega), List.nil_append, List.take_append_of_le_length (by omega), List.take_of_length_le (by omega)]
theorem RegAt.self (hr : RegAt R n ba len) (hl : ws.length = n) : regW ws ba (wordsAt ws R ba) = ws := by
  have := hr.fit
  have hw : (wordsAt ws R ba).length = len := by unfold wordsAt; rw [hr.l, List.length_take, List.length_drop, Int.toNat_natCast]; omega
  unfold regW
  rw [hw]
  unfold wordsAt
  rw [hr.l, Int.toNat_natCast]
  have h1 : (ws.drop ba).take len ++ (ws.drop ba).drop len = ws.drop ba := List.take_append_drop _ _
  rw [List.drop_drop] at h1
  rw [h1, List.take_append_drop]
theorem regW_64 (hw : ∀ x ∈ ws, W64 x) (hV : ∀ x ∈ V, W64 x) : ∀ x ∈ regW ws ba V, W64 x := by
  intro x hx
  unfold regW at hx
  rcases List.mem_append.1 hx with h | h
  · exact hw x (List.mem_of_mem_take h)
  · rcases List.mem_append.1 h with h | h
    · exact hV x h
    · exact hw x (List.mem_of_mem_drop h)
end
/-! ### both semispaces -/
/-- the words of both: the one that is left, the other one -/
def mkV (sp : Nat) (A B : List Int) : List Int := if sp = 0 then A ++ B else B ++ A
section
variable {sp H : Nat} {A B : List Int}
theorem mkV_len (hA : A.length = H) (hB : B.length = H) : (mkV sp A B).length = 2 * H := by unfold mkV; split <;> rw [List.length_append] <;> omega
theorem mkV_getA (hs : sp ≤ 1) (hA : A.length = H) (hB : B.length = H) {i : Nat} (hi : i < H) : (mkV sp A B).getD (sp * H + i) 0 = A.getD i 0 := by
  have h : sp = 0 ∨ sp = 1 := by omega
  unfold mkV
  rw [List.getD_eq_getElem?_getD, List.getD_eq_getElem?_getD]
  rcases h with rfl | rfl
  · rw [if_pos rfl, Nat.zero_mul, Nat.zero_add, List.getElem?_append_left (by omega)]
  · rw [if_neg (by omega), Nat.one_mul, List.getElem?_append_right (by omega), hB, Nat.add_sub_cancel_left]
theorem mkV_getB (hs : sp ≤ 1) (hA : A.length = H) (hB : B.length = H) {i : Nat} (hi : i < H) : (mkV sp A B).getD ((1 - sp) * H + i) 0 = B.getD i 0 := by
  have h : sp = 0 ∨ sp = 1 := by omega
  unfold mkV
  rw [List.getD_eq_getElem?_getD, List.getD_eq_getElem?_getD]
  rcases h with rfl | rfl
  · rw [if_pos rfl, Nat.sub_zero, Nat.one_mul, List.getElem?_append_right (by omega), hA, Nat.add_sub_cancel_left]
  · rw [if_neg (by omega), Nat.sub_self, Nat.zero_mul, Nat.zero_add, List.getElem?_append_left (by omega)]
theorem mkV_setA (hs : sp ≤ 1) (hA : A.length = H) (hB : B.length = H) {i : Nat} (hi : i < H) (v : Int) : (mkV sp A B).set (sp * H + i) v = mkV sp (A.set i v) B := by
  have h : sp = 0 ∨ sp = 1 := by omega
  unfold mkV
  rcases h with rfl | rfl
  · rw [if_pos rfl, if_pos rfl, Nat.zero_mul, Nat.zero_add, List.set_append_left _ _ (by omega)]
  · rw [if_neg (by omega), if_neg (by omega), Nat.one_mul, List.set_append_right _ _ (by omega), hB, Nat.add_sub_cancel_left]
theorem mkV_setB (hs : sp ≤ 1) (hA : A.length = H) (hB : B.length = H) {i : Nat} (hi : i < H) (v : Int) : (mkV sp A B).set ((1 - sp) * H + i) v = mkV sp A (B.set i v) := by
  have h : sp = 0 ∨ sp = 1 := by omega
  unfold mkV
  rcases h with rfl | rfl
  · rw [if_pos rfl, if_pos rfl, Nat.sub_zero, Nat.one_mul, List.set_append_right _ _ (by omega), hA, Nat.add_sub_cancel_left]
  · rw [if_neg (by omega), if_neg (by omega), Nat.sub_self, Nat.zero_mul, Nat.zero_add, List.set_append_left _ _ (by omega)]
/-- any row of both is one -/
theorem mkV_ex (hs : sp ≤ 1) {V : List Int} (hV : V.length = 2 * H) : ∃ A B, A.length = H ∧ B.length = H ∧ V = mkV sp A B := by
  have h : sp = 0 ∨ sp = 1 := by omega
  rcases h with rfl | rfl
  · exact ⟨V.take H, V.drop H, by rw [List.length_take]; omega, by rw [List.length_drop]; omega, by unfold mkV; rw [if_pos rfl, List.take_append_drop]⟩
  · exact ⟨V.drop H, V.take H, by rw [List.length_drop]; omega, by rw [List.length_take]; omega, by unfold mkV; rw [if_neg (by omega), List.take_append_drop]⟩
theorem mkV_swap (hs : sp ≤ 1) : mkV sp A B = mkV (1 - sp) B A := by
  have h : sp = 0 ∨ sp = 1 := by omega
  unfold mkV
  rcases h with rfl | rfl <;> simp
theorem mkV_drop (hs : sp ≤ 1) (hA : A.length = H) (hB : B.length = H) {k : Nat} (hk : k ≤ H) : ((mkV sp A B).drop (sp * H)).take k = A.take k := by
  have h : sp = 0 ∨ sp = 1 := by omega
  unfold mkV
  rcases h with rfl | rfl
  · rw [if_pos rfl, Nat.zero_mul, List.drop_zero, List.take_append_of_le_length (by omega)]
  · rw [if_neg (by omega), Nat.one_mul, ← hB, List.drop_left]
theorem mkV_mem {x : Int} (h : x ∈ mkV sp A B) : x ∈ A ∨ x ∈ B := by
  unfold mkV at h
  split at h
  · exact List.mem_append.1 h
  · exact (List.mem_append.1 h).symm
end
/-! ### what is moved -/
/-- how many words they take -/
def sizeF : List (Nat × Ob) → Nat
  | [] => 0
  | y :: F => wordsO y.2 + sizeF F
theorem sizeF_app (F G : List (Nat × Ob)) : sizeF (F ++ G) = sizeF F + sizeF G := by
  induction F with
  | nil => simp [sizeF]
  | cons y F ih => simp only [List.cons_append, sizeF]; omega
/-- how many words those ahead of a place's object take -/
def offF : List (Nat × Ob) → Nat → Nat
  | [], _ => 0
  | y :: F, a => if y.1 = a then 0 else wordsO y.2 + offF F a
def inF (F : List (Nat × Ob)) (a : Nat) : Bool := F.any fun y => decide (y.1 = a)
theorem inF_true {F : List (Nat × Ob)} {a : Nat} : inF F a = true ↔ ∃ y ∈ F, y.1 = a := by unfold inF; simp
theorem inF_app (F G : List (Nat × Ob)) (a : Nat) : inF (F ++ G) a = (inF F a || inF G a) := by unfold inF; rw [List.any_append]
theorem offF_app {F : List (Nat × Ob)} {a : Nat} (h : inF F a = true) (G : List (Nat × Ob)) : offF (F ++ G) a = offF F a := by
  induction F with
  | nil => simp [inF] at h
  | cons y F ih =>
    simp only [List.cons_append, offF]
    by_cases hy : y.1 = a
    · rw [if_pos hy, if_pos hy]
    · rw [if_neg hy, if_neg hy, ih (by unfold inF at h ⊢; simpa [hy] using h)]
theorem offF_new {F : List (Nat × Ob)} {y : Nat × Ob} (h : inF F y.1 = false) (G : List (Nat × Ob)) : offF (F ++ y :: G) y.1 = sizeF F := by
  induction F with
  | nil => simp [offF, sizeF]
  | cons z F ih =>
    have hz : ¬ z.1 = y.1 := fun e => by unfold inF at h; simp [e] at h
    simp only [List.cons_append, offF, sizeF]
    rw [if_neg hz, ih (by unfold inF at h ⊢; simpa [hz] using h)]
/-- the new word of a word -/
def newW (o0 o1 : Nat) (F : List (Nat × Ob)) (x : Int) : Int := if isIntW x = true then x else ((2 * (o1 + offF F ((x / 2).toNat - o0)) : Nat) : Int)
/-- one more word's object is moved, if it was not -/
def addF (o0 : Nat) (Hs F : List (Nat × Ob)) (x : Int) : List (Nat × Ob) := match getL o0 Hs x with
  | none => F
  | some y => if inF F y.1 then F else F ++ [y]
def growF (o0 : Nat) (Hs F : List (Nat × Ob)) (xs : List Int) : List (Nat × Ob) := xs.foldl (addF o0 Hs) F
theorem addF_pre (o0 : Nat) (Hs F : List (Nat × Ob)) (x : Int) : F <+: addF o0 Hs F x := by
  unfold addF
  split
  · exact List.prefix_rfl
  · split
    · exact List.prefix_rfl
    · exact List.prefix_append _ _
theorem growF_pre (o0 : Nat) (Hs : List (Nat × Ob)) (xs : List Int) : ∀ F, F <+: growF o0 Hs F xs := by
  induction xs with
  | nil => intro F; exact List.prefix_rfl
  | cons x xs ih => intro F; exact (addF_pre o0 Hs F x).trans (ih _)
/-- from the i-th on all fields' objects are moved -/
def scanF (o0 : Nat) (Hs : List (Nat × Ob)) : Nat → Nat → List (Nat × Ob) → List (Nat × Ob)
  | 0, _, F => F
  | k + 1, i, F => match F[i]? with
    | none => F
    | some y => scanF o0 Hs k (i + 1) (growF o0 Hs F y.2.fields)
theorem scanF_pre (o0 : Nat) (Hs : List (Nat × Ob)) : ∀ k i F, F <+: scanF o0 Hs k i F := by
  intro k
  induction k with
  | zero => intro i F; exact List.prefix_rfl
  | succ k ih =>
    intro i F
    unfold scanF
    split
    · exact List.prefix_rfl
    · exact (growF_pre o0 Hs _ F).trans (ih _ _)
theorem scanF_end {o0 : Nat} {Hs : List (Nat × Ob)} {k i : Nat} {F : List (Nat × Ob)} (h : F.length ≤ i) : scanF o0 Hs k i F = F := by
  cases k with
  | zero => rfl
  | succ k => unfold scanF; rw [List.getElem?_eq_none h]
/-- all that is moved, in order -/
def liveF (o0 : Nat) (Hs : List (Nat × Ob)) (roots : List Int) : List (Nat × Ob) := scanF o0 Hs Hs.length 0 (growF o0 Hs [] roots)
/-- those that are moved are objects that are, each once -/
structure FinF (Hs F : List (Nat × Ob)) : Prop where
  sub : ∀ y ∈ F, y ∈ Hs
  nd : F.Pairwise fun a b => a.1 ≠ b.1
theorem FinF.nil (Hs : List (Nat × Ob)) : FinF Hs [] := ⟨fun y h => (by cases h), List.Pairwise.nil⟩
theorem FinF.add {o0 : Nat} {Hs F : List (Nat × Ob)} (h : FinF Hs F) (x : Int) : FinF Hs (addF o0 Hs F x) := by
  unfold addF
  split
  · exact h
  · rename_i y hy
    split
    · exact h
    · rename_i hin
      refine ⟨fun z hz => ?_, List.pairwise_append.2 ⟨h.nd, List.pairwise_singleton _ _, fun a ha b hb e => ?_⟩⟩
      · rcases List.mem_append.1 hz with hz | hz
        · exact h.sub z hz
        · rw [List.mem_singleton.1 hz]; exact (getL_some hy).1
      · rw [List.mem_singleton.1 hb] at e
        exact hin (inF_true.2 ⟨a, ha, e⟩)
theorem FinF.grow {o0 : Nat} {Hs : List (Nat × Ob)} (xs : List Int) : ∀ {F : List (Nat × Ob)}, FinF Hs F → FinF Hs (growF o0 Hs F xs) := by
  induction xs with
  | nil => intro F h; exact h
  | cons x xs ih => intro F h; exact ih (h.add x)
theorem FinF.scan {o0 : Nat} {Hs : List (Nat × Ob)} : ∀ (k i : Nat) {F : List (Nat × Ob)}, FinF Hs F → FinF Hs (scanF o0 Hs k i F) := by
  intro k
  induction k with
  | zero => intro i F h; exact h
  | succ k ih =>
    intro i F h
    unfold scanF
    split
    · exact h
    · exact ih _ (h.grow _)
theorem FinF.live (o0 : Nat) (Hs : List (Nat × Ob)) (roots : List Int) : FinF Hs (liveF o0 Hs roots) := ((FinF.nil Hs).grow roots).scan _ _
theorem FinF.pre {Hs F G : List (Nat × Ob)} (h : FinF Hs G) (hp : F <+: G) : FinF Hs F := by
  obtain ⟨T, rfl⟩ := hp
  exact ⟨fun y hy => h.sub y (List.mem_append_left _ hy), (List.pairwise_append.1 h.nd).1⟩
/-- they take no more words, and are no more, than all -/
theorem FinF.size {F : List (Nat × Ob)} : ∀ {Hs : List (Nat × Ob)}, FinF Hs F → sizeF F ≤ sizeF Hs ∧ F.length ≤ Hs.length := by
  induction F with
  | nil => intro Hs _; exact ⟨Nat.zero_le _, Nat.zero_le _⟩
  | cons y F ih =>
    intro Hs h
    obtain ⟨A, B, rfl⟩ := List.append_of_mem (h.sub y (.head _))
    have hnd := List.pairwise_cons.1 h.nd
    have h2 : FinF (A ++ B) F := ⟨fun z hz => by
      have h3 := h.sub z (.tail _ hz)
      have h4 := hnd.1 z hz
      rcases List.mem_append.1 h3 with h3 | h3
      · exact List.mem_append_left _ h3
      · rcases List.mem_cons.1 h3 with rfl | h3
        · exact absurd rfl h4
        · exact List.mem_append_right _ h3, hnd.2⟩
    have := ih h2
    rw [sizeF_app, List.length_append] at this
    rw [sizeF_app, List.length_append]
    simp only [sizeF, List.length_cons]
    omega
end Go.Proofs.YtinakendlpomnaaGreat
/- A collection's state: what both semispaces hold. Plain. -/
namespace Go.Proofs.YtinakendlpomnaaGreat
open Go.RowKit Go.Maps Arena
set_option maxRecDepth 100000
/-- the objects of a heap: apart, within the semispace -/
structure HsOK (H : Nat) (Hs : List (Nat × Ob)) : Prop where
  apart : Hs.Pairwise fun a b => a.1 + wordsO a.2 ≤ b.1
  fit : ∀ y ∈ Hs, y.1 + wordsO y.2 ≤ H
  may : ∀ y ∈ Hs, mayO y.2 = true
  size : sizeF Hs ≤ H
theorem wordsO_pos (o : Ob) : 1 ≤ wordsO o := by unfold wordsO; omega
theorem objs_apart {S : List Int} {L : List (Nat × Ob)} {a : Nat} (h : objs S a = some L) : L.Pairwise (fun x y => x.1 + wordsO x.2 ≤ y.1) ∧ (∀ y ∈ L, a ≤ y.1) ∧ sizeF L = S.length := by
  have := objs_ind (P := fun S a L => L.Pairwise (fun x y => x.1 + wordsO x.2 ≤ y.1) ∧ (∀ y ∈ L, a ≤ y.1) ∧ sizeF L = S.length) (fun a => ⟨.nil, fun y h => (by cases h), rfl⟩)
    (fun S a o L hS hr ⟨h1, h2, h3⟩ => by
      obtain ⟨w1, w2, w3⟩ := readS_words hr
      refine ⟨List.pairwise_cons.2 ⟨fun y hy => h2 y hy, h1⟩, fun y hy => ?_, ?_⟩
      · rcases List.mem_cons.1 hy with rfl | hy
        · exact Nat.le_refl _
        · have := h2 y hy; omega
      · simp only [sizeF, h3, List.length_drop]; omega) S.length (Nat.le_refl _) h
  exact this
theorem HsOK.inj {H : Nat} {Hs : List (Nat × Ob)} (h : HsOK H Hs) {x y : Nat × Ob} (hx : x ∈ Hs) (hy : y ∈ Hs) (e : x.1 = y.1) : x = y := by
  refine places_inj (h.apart.imp fun {a b} hab => ?_) hy hx e
  have := wordsO_pos a.2
  omega
theorem HsOK.far {H : Nat} {Hs : List (Nat × Ob)} (h : HsOK H Hs) {x y : Nat × Ob} (hx : x ∈ Hs) (hy : y ∈ Hs) (e : x.1 ≠ y.1) : x.1 + wordsO x.2 ≤ y.1 ∨ y.1 + wordsO y.2 ≤ x.1 := by
  obtain ⟨i, hi, rfl⟩ := List.getElem_of_mem hx
  obtain ⟨j, hj, rfl⟩ := List.getElem_of_mem hy
  rcases Nat.lt_trichotomy i j with hij | rfl | hij
  · exact .inl (List.pairwise_iff_getElem.1 h.apart i j hi hj hij)
  · exact absurd rfl e
  · exact .inr (List.pairwise_iff_getElem.1 h.apart j i hj hi hij)
/-! ### an object with other fields -/
def mapUp (f : Int → Int) (j : Nat) (o : Ob) : Ob := { o with fields := (o.fields.take j).map f ++ o.fields.drop j }
def mapO (f : Int → Int) (o : Ob) : Ob := { o with fields := o.fields.map f }
theorem mapUp_len (f : Int → Int) (j : Nat) (o : Ob) : (mapUp f j o).fields.length = o.fields.length := by
  unfold mapUp
  simp only [List.length_append, List.length_map, List.length_take, List.length_drop]
  omega
theorem mapUp_zero (f : Int → Int) (o : Ob) : mapUp f 0 o = o := by unfold mapUp; simp
theorem mapUp_all (f : Int → Int) {j : Nat} {o : Ob} (h : o.fields.length ≤ j) : mapUp f j o = mapO f o := by
  unfold mapUp mapO
  rw [List.take_of_length_le h, List.drop_eq_nil_of_le h, List.append_nil]
theorem mapO_is (f : Int → Int) (o : Ob) : mapO f o = mapUp f o.fields.length o := (mapUp_all f (Nat.le_refl _)).symm
theorem mapUp_words (f : Int → Int) (j : Nat) (o : Ob) : wordsO (mapUp f j o) = wordsO o := by
  unfold wordsO
  rw [mapUp_len]
  rfl
theorem mapUp_may (f : Int → Int) (j : Nat) (o : Ob) : mayO (mapUp f j o) = mayO o := by
  unfold mayO
  rw [mapUp_len]
  rfl
theorem mapUp_head (f : Int → Int) (j : Nat) (o : Ob) : headO (mapUp f j o) = headO o := by
  unfold headO
  rw [mapUp_len]
  rfl
theorem mapO_words (f : Int → Int) (o : Ob) : wordsO (mapO f o) = wordsO o := by rw [mapO_is, mapUp_words]
theorem mapO_may (f : Int → Int) (o : Ob) : mayO (mapO f o) = mayO o := by rw [mapO_is, mapUp_may]
theorem mapUp_get (f : Int → Int) {j : Nat} {o : Ob} {x : Int} (h : o.fields[j]? = some x) : (mapUp f j o).fields[j]? = some x := by
  have hj := (List.getElem?_eq_some_iff.1 h).1
  unfold mapUp
  dsimp only
  rw [List.getElem?_append_right (by simp; omega), List.length_map, List.length_take, Nat.min_eq_left (by omega), Nat.sub_self, List.getElem?_drop, Nat.add_zero]
  exact h
theorem mapUp_set (f : Int → Int) {j : Nat} {o : Ob} {x : Int} (h : o.fields[j]? = some x) : (mapUp f j o).fields.set j (f x) = (mapUp f (j + 1) o).fields := by
  obtain ⟨hj, rfl⟩ := List.getElem?_eq_some_iff.1 h
  unfold mapUp
  dsimp only
  rw [List.set_append_right _ _ (by simp; omega), List.length_map, List.length_take, Nat.min_eq_left (by omega), Nat.sub_self, List.drop_eq_getElem_cons hj, List.set_cons_zero, List.take_succ_eq_append_getElem hj, List.map_append]
  simp
theorem lay_get {o : Ob} (h2 : o.kind ≠ 2) {j : Nat} {x : Int} (h : o.fields[j]? = some x) : (layO o)[1 + j]? = some x := by
  unfold layO bodyO
  rw [if_neg h2, Nat.add_comm, List.getElem?_cons_succ]
  exact h
theorem lay_set (f : Int → Int) {o : Ob} (h2 : o.kind ≠ 2) {j : Nat} {x : Int} (h : o.fields[j]? = some x) : (layO (mapUp f j o)).set (1 + j) (f x) = layO (mapUp f (j + 1) o) := by
  have h3 : (mapUp f j o).kind ≠ 2 := h2
  have h4 : (mapUp f (j + 1) o).kind ≠ 2 := h2
  unfold layO bodyO
  rw [if_neg h3, if_neg h4, Nat.add_comm, List.set_cons_succ, mapUp_set f h, mapUp_head, mapUp_head]
/-- the objects as they stand: those ahead of the i-th are done, of the i-th so many fields -/
def objsAt (f : Int → Int) (i j : Nat) (F : List (Nat × Ob)) : List Ob := F.mapIdx fun k y => if k < i then mapO f y.2 else if k = i then mapUp f j y.2 else y.2
theorem objsAt_len (f : Int → Int) (i j : Nat) (F : List (Nat × Ob)) : (objsAt f i j F).length = F.length := by unfold objsAt; rw [List.length_mapIdx]
theorem objsAt_get (f : Int → Int) (i j : Nat) (F : List (Nat × Ob)) (k : Nat) : (objsAt f i j F)[k]? = F[k]?.map fun y => if k < i then mapO f y.2 else if k = i then mapUp f j y.2 else y.2 := by unfold objsAt; rw [List.getElem?_mapIdx]
theorem objsAt_app (f : Int → Int) {i j : Nat} {F : List (Nat × Ob)} (h : i < F.length) (y : Nat × Ob) : objsAt f i j (F ++ [y]) = objsAt f i j F ++ [y.2] := by
  unfold objsAt
  rw [List.mapIdx_append]
  congr 1
  simp only [List.mapIdx_cons, List.mapIdx_nil, List.cons.injEq, and_true]
  rw [if_neg (by omega), if_neg (by omega)]
theorem objsAt_zero (f : Int → Int) (F : List (Nat × Ob)) : objsAt f 0 0 F = F.map (·.2) := by
  apply List.ext_getElem?
  intro k
  rw [objsAt_get, List.getElem?_map]
  cases F[k]? with
  | none => rfl
  | some y =>
    simp only [Option.map_some, Option.some.injEq]
    rw [if_neg (by omega)]
    split
    · exact mapUp_zero _ _
    · rfl
theorem objsAt_next (f : Int → Int) {i j : Nat} {F : List (Nat × Ob)} {y : Nat × Ob} (hy : F[i]? = some y) (hj : y.2.fields.length ≤ j) : objsAt f i j F = objsAt f (i + 1) 0 F := by
  apply List.ext_getElem?
  intro k
  rw [objsAt_get, objsAt_get]
  cases hk : F[k]? with
  | none => rfl
  | some z =>
    simp only [Option.map_some, Option.some.injEq]
    by_cases h1 : k < i
    · rw [if_pos h1, if_pos (by omega)]
    · rw [if_neg h1]
      by_cases h2 : k = i
      · subst h2
        rw [hy] at hk
        obtain rfl := Option.some.inj hk
        rw [if_pos rfl, if_pos (by omega), mapUp_all f hj]
      · rw [if_neg h2, if_neg (by omega)]
        split
        · exact (mapUp_zero _ _).symm
        · rfl
theorem objsAt_set (f : Int → Int) {i j : Nat} {F : List (Nat × Ob)} {y : Nat × Ob} (hy : F[i]? = some y) : (objsAt f i j F).set i (mapUp f (j + 1) y.2) = objsAt f i (j + 1) F := by
  apply List.ext_getElem?
  intro k
  by_cases hk : i = k
  · subst hk
    rw [List.getElem?_set_self (by rw [objsAt_len]; exact (List.getElem?_eq_some_iff.1 hy).1), objsAt_get, hy]
    simp
  · rw [List.getElem?_set_ne hk, objsAt_get, objsAt_get]
    cases F[k]? with
    | none => rfl
    | some z => simp only [Option.map_some, Option.some.injEq]; rw [if_neg (show ¬ k = i by omega), if_neg (show ¬ k = i by omega)]
theorem objsAt_done (f : Int → Int) {i j : Nat} {F : List (Nat × Ob)} (h : F.length ≤ i) : objsAt f i j F = F.map fun y => mapO f y.2 := by
  apply List.ext_getElem?
  intro k
  rw [objsAt_get, List.getElem?_map]
  cases hk : F[k]? with
  | none => rfl
  | some y =>
    have := (List.getElem?_eq_some_iff.1 hk).1
    simp only [Option.map_some, Option.some.injEq]
    rw [if_pos (by omega)]
/-! ### rows of words, side by side -/
def layL (L : List Ob) : List Int := (L.map layO).flatten
def sizeL : List Ob → Nat
  | [] => 0
  | o :: L => wordsO o + sizeL L
theorem sizeL_app (L M : List Ob) : sizeL (L ++ M) = sizeL L + sizeL M := by
  induction L with
  | nil => simp [sizeL]
  | cons y F ih => simp only [List.cons_append, sizeL]; omega
theorem layL_len {L : List Ob} (h : ∀ o ∈ L, mayO o = true) : (layL L).length = sizeL L := by
  induction L with
  | nil => rfl
  | cons o L ih =>
    unfold layL at ih ⊢
    simp only [List.map_cons, List.flatten_cons, List.length_append, sizeL]
    rw [layO_len (h o (.head _)), ih (fun o ho => h o (.tail _ ho))]
theorem layL_app (L M : List Ob) : layL (L ++ M) = layL L ++ layL M := by unfold layL; rw [List.map_append, List.flatten_append]
theorem layL_get {L : List Ob} (h : ∀ o ∈ L, mayO o = true) {i : Nat} {o : Ob} (ho : L[i]? = some o) {k : Nat} (hk : k < wordsO o) : (layL L)[sizeL (L.take i) + k]? = (layO o)[k]? := by
  induction L generalizing i with
  | nil => simp at ho
  | cons p L ih =>
    have hl := layO_len (h p (.head _))
    cases i with
    | zero =>
      obtain rfl := Option.some.inj ho
      unfold layL
      simp only [List.map_cons, List.flatten_cons, List.take_zero, sizeL, Nat.zero_add]
      rw [List.getElem?_append_left (by omega)]
    | succ i =>
      have := ih (fun o ho => h o (.tail _ ho)) (i := i) (by simpa using ho)
      unfold layL at this ⊢
      simp only [List.map_cons, List.flatten_cons, List.take_succ_cons, sizeL]
      rw [List.getElem?_append_right (by omega), hl, show wordsO p + sizeL (L.take i) + k - wordsO p = sizeL (L.take i) + k by omega]
      exact this
theorem layL_set {L : List Ob} (h : ∀ o ∈ L, mayO o = true) {i : Nat} {o o' : Ob} (ho : L[i]? = some o) {k : Nat} (hk : k < wordsO o) {v : Int} (hs : (layO o).set k v = layO o') : (layL L).set (sizeL (L.take i) + k) v = layL (L.set i o') := by
  induction L generalizing i with
  | nil => simp at ho
  | cons p L ih =>
    have hl := layO_len (h p (.head _))
    cases i with
    | zero =>
      obtain rfl := Option.some.inj ho
      unfold layL
      simp only [List.map_cons, List.flatten_cons, List.take_zero, sizeL, Nat.zero_add, List.set_cons_zero]
      rw [List.set_append_left _ _ (by omega), hs]
    | succ i =>
      have := ih (fun o ho => h o (.tail _ ho)) (i := i) (by simpa using ho)
      unfold layL at this ⊢
      simp only [List.map_cons, List.flatten_cons, List.take_succ_cons, sizeL, List.set_cons_succ]
      rw [List.set_append_right _ _ (by omega), hl, show wordsO p + sizeL (L.take i) + k - wordsO p = sizeL (L.take i) + k by omega, this]
theorem objsAt_sizes (f : Int → Int) (i j : Nat) (F : List (Nat × Ob)) (k : Nat) : sizeL ((objsAt f i j F).take k) = sizeF (F.take k) := by
  induction k with
  | zero => simp [sizeL, sizeF]
  | succ k ih =>
    rw [List.take_add_one, List.take_add_one, sizeL_app, sizeF_app, ih, objsAt_get]
    cases F[k]? with
    | none => rfl
    | some y =>
      simp only [Option.map_some, Option.toList_some, sizeL, sizeF]
      split
      · rw [mapO_words]
      · split
        · rw [mapUp_words]
        · rfl
theorem objsAt_size (f : Int → Int) (i j : Nat) (F : List (Nat × Ob)) : sizeL (objsAt f i j F) = sizeF F := by
  have := objsAt_sizes f i j F F.length
  rwa [List.take_of_length_le (by rw [objsAt_len]; exact Nat.le_refl _), List.take_length] at this
theorem objsAt_may (f : Int → Int) (i j : Nat) {F : List (Nat × Ob)} (h : ∀ y ∈ F, mayO y.2 = true) : ∀ o ∈ objsAt f i j F, mayO o = true := by
  intro o ho
  obtain ⟨k, hk⟩ := List.getElem?_of_mem ho
  rw [objsAt_get] at hk
  cases hy : F[k]? with
  | none => rw [hy] at hk; cases hk
  | some y =>
    rw [hy] at hk
    simp only [Option.map_some, Option.some.injEq] at hk
    have := h y (List.mem_of_getElem? hy)
    rw [← hk]
    split
    · rw [mapO_may]; exact this
    · split
      · rw [mapUp_may]; exact this
      · exact this
end Go.Proofs.YtinakendlpomnaaGreat
