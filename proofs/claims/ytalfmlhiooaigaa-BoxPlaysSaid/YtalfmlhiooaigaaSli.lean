/- Slices whose elements are rows of cells: read wherever they lie, or of the call's own; append, stores, cuts. -/
import Derived.Test.YtalfmlhiooaigaaTurn
import Derived.Test.YtalfmlhiooaigaaBlk
import Derived.Maps.AppendAt
import Derived.Laws.OwnMore
import Derived.Laws.CopyOwn
import Derived.Deep.OwnRows
import Derived.Lib.SliceRun
import Derived.Deep.RegionHeld3
import Derived.Deep.DrawnRows
namespace Go.Proofs.Ytalfmlhiooaigaa
open Go.RowKit Go.Maps
/-- each row has s cells, each of one cell -/
def Rows1 (s : Nat) (l : List (List Value)) : Prop := ∀ cs ∈ l, cs.length = s ∧ ∀ u ∈ cs, u.oneCell' = true
theorem Rows1.nil (s : Nat) : Rows1 s [] := fun _ h => by cases h
theorem Rows1.app {s : Nat} {l k : List (List Value)} (h : Rows1 s l) (g : Rows1 s k) : Rows1 s (l ++ k) := fun cs hm => (List.mem_append.1 hm).elim (h cs) (g cs)
theorem Rows1.take {s : Nat} {l : List (List Value)} (h : Rows1 s l) (k : Nat) : Rows1 s (l.take k) := fun cs hm => h cs (List.mem_of_mem_take hm)
theorem Rows1.drop {s : Nat} {l : List (List Value)} (h : Rows1 s l) (k : Nat) : Rows1 s (l.drop k) := fun cs hm => h cs (List.mem_of_mem_drop hm)
theorem Rows1.one {s : Nat} {cs : List Value} (h1 : cs.length = s) (h2 : ∀ u ∈ cs, u.oneCell' = true) : Rows1 s [cs] := fun c hm => by
  rw [List.mem_singleton] at hm; subst hm; exact ⟨h1, h2⟩
theorem flat_len {s : Nat} : ∀ {l : List (List Value)}, Rows1 s l → l.flatten.length = l.length * s
  | [], _ => by simp
  | c :: l, h => by
    have h1 := (h c (.head _)).1
    have h2 := flat_len (s := s) (l := l) (fun cs hm => h cs (.tail _ hm))
    rw [List.flatten_cons, List.length_append, h1, h2, List.length_cons, Nat.add_mul]; omega
theorem flat_at {s : Nat} : ∀ {l : List (List Value)}, Rows1 s l → ∀ {i f : Nat} {cs : List Value} {u : Value}, l[i]? = some cs → cs[f]? = some u → l.flatten[i * s + f]? = some u
  | [], _, i, f, cs, u, h, _ => by simp at h
  | c :: l, hr, i, f, cs, u, h, hu => by
    have h1 := (hr c (.head _)).1
    cases i with
    | zero =>
      simp at h; subst h
      have hf : f < c.length := (List.getElem?_eq_some_iff.1 hu).1
      rw [List.flatten_cons, Nat.zero_mul, Nat.zero_add, List.getElem?_append_left hf, hu]
    | succ i =>
      have ih := flat_at (s := s) (l := l) (fun cs hm => hr cs (.tail _ hm)) (i := i) (f := f) (cs := cs) (u := u) (by simpa using h) hu
      rw [List.flatten_cons, List.getElem?_append_right (by rw [h1, Nat.add_mul]; omega), h1, show (i + 1) * s + f - s = i * s + f by rw [Nat.add_mul]; omega]
      exact ih
theorem flat_one {s : Nat} {l : List (List Value)} (h : Rows1 s l) : ∀ u ∈ l.flatten, u.oneCell' = true := by
  intro u hu
  obtain ⟨cs, hm, hc⟩ := List.mem_flatten.1 hu
  exact (h cs hm).2 u hc
theorem flat_take {s : Nat} : ∀ {l : List (List Value)}, Rows1 s l → ∀ k, (l.take k).flatten = l.flatten.take (k * s)
  | [], _, k => by simp
  | c :: l, h, 0 => by simp
  | c :: l, h, k + 1 => by
    have h1 := (h c (.head _)).1
    have ih := flat_take (s := s) (l := l) (fun cs hm => h cs (.tail _ hm)) k
    have e1 : c.take ((k + 1) * s) = c := List.take_of_length_le (by rw [h1, Nat.add_mul]; omega)
    have e2 : (k + 1) * s - s = k * s := by rw [Nat.add_mul]; omega
    rw [List.take_succ_cons, List.flatten_cons, List.flatten_cons, List.take_append, h1, e1, e2, ih]
/-- a slice without elements: nil, or at whatever address -/
def EmptyV (v : Value) : Prop := v = .slice none 0 0 ∨ ∃ a c, v = .slice (some a) 0 c ∧ c ≤ maxLen
/-- a slice that reads as rows of s cells, nil or at a plain address -/
def RowsP (w : World) (v : Value) (s : Nat) (l : List (List Value)) : Prop := Rows1 s l ∧ ((EmptyV v ∧ l = []) ∨
  ∃ b off c, v = .slice (some ⟨b, off, none⟩) l.length c ∧ l.length ≤ c ∧ c ≤ maxLen ∧ ∀ (j : Nat) (u : Value), l.flatten[j]? = some u → w.cell? ⟨b, off + j, none⟩ = some u)
theorem RowsP.ext {w w' : World} {v : Value} {s : Nat} {l : List (List Value)} (h : RowsP w v s l) (e : Ext w w') : RowsP w' v s l := by
  obtain ⟨h1, h2⟩ := h
  refine ⟨h1, ?_⟩
  rcases h2 with h2 | ⟨b, off, c, h3, h4, h5, h6⟩
  · exact .inl h2
  · exact .inr ⟨b, off, c, h3, h4, h5, fun j u hu => e.cell (h6 j u hu)⟩
theorem RowsP.nil (w : World) (s : Nat) : RowsP w (.slice none 0 0) s [] := ⟨Rows1.nil s, .inl ⟨.inl rfl, rfl⟩⟩
/-- its length, and its cells -/
theorem RowsP.at {w : World} {v : Value} {s : Nat} {l : List (List Value)} (h : RowsP w v s l) : ∃ q c, v = .slice q l.length c ∧ l.length ≤ c ∧ c ≤ maxLen ∧
    ∀ (i : Nat) (cs : List Value), l[i]? = some cs → ∃ b off, q = some ⟨b, off, none⟩ ∧ ∀ (f : Nat) (u : Value), cs[f]? = some u → w.cell? ⟨b, off + i * s + f, none⟩ = some u := by
  obtain ⟨h1, h2⟩ := h
  rcases h2 with ⟨rfl | ⟨a, c, rfl, hc⟩, rfl⟩ | ⟨b, off, c, rfl, h4, h5, h6⟩
  · exact ⟨none, 0, rfl, Nat.le_refl _, Nat.zero_le _, fun i cs h => by simp at h⟩
  · exact ⟨some a, c, rfl, Nat.zero_le _, hc, fun i cs h => by simp at h⟩
  · exact ⟨_, c, rfl, h4, h5, fun i cs hi => ⟨b, off, rfl, fun f u hu => by rw [Nat.add_assoc]; exact h6 _ u (flat_at h1 hi hu)⟩⟩
/-- a slice of the call's own -/
def OwnP (w : World) (base : Nat) (T : TypeId) (v : Value) (s : Nat) (l : List (List Value)) : Prop := Rows1 s l ∧ w.ownsRow base T s v l.length l.flatten
theorem OwnP.nil (w : World) (base : Nat) (T : TypeId) (s : Nat) : OwnP w base T (.slice none 0 0) s [] := ⟨Rows1.nil s, World.ownsRow_nil _ _ _ _⟩
theorem OwnP.forms {w : World} {base : Nat} {T : TypeId} {v : Value} {s : Nat} {l : List (List Value)} (h : OwnP w base T v s l) : (v = .slice none 0 0 ∧ l = []) ∨
    ∃ g cap cur, v = .slice (some ⟨g, 0, none⟩) l.length cap ∧ base ≤ g ∧ w.heap[g]? = some (.cells cur T (0, 0)) ∧ l.length ≤ cap ∧ cap ≤ maxLen ∧ cur.size = cap * s ∧ cur.toList.take (l.length * s) = l.flatten := by
  rcases h.2.2 with ⟨h1, h2⟩ | h1
  · exact .inl ⟨h1, List.eq_nil_of_length_eq_zero h2⟩
  · exact .inr h1
theorem OwnP.of_form {w : World} {base g cap : Nat} {T : TypeId} {s : Nat} {cur : Array Value} {l : List (List Value)} (h1 : Rows1 s l) (hb : base ≤ g) (hg : w.heap[g]? = some (.cells cur T (0, 0))) (hc : l.length ≤ cap) (hm : cap ≤ maxLen)
    (hs : cur.size = cap * s) (ht : cur.toList.take (l.length * s) = l.flatten) : OwnP w base T (.slice (some ⟨g, 0, none⟩) l.length cap) s l :=
  ⟨h1, flat_len h1, .inr ⟨g, cap, cur, rfl, hb, hg, hc, hm, hs, ht⟩⟩
theorem OwnP.len {w : World} {base : Nat} {T : TypeId} {v : Value} {s : Nat} {l : List (List Value)} (h : OwnP w base T v s l) : ∃ q c, v = .slice q l.length c ∧ l.length ≤ c ∧ c ≤ maxLen := by
  rcases h.forms with ⟨rfl, rfl⟩ | ⟨g, cap, cur, h1, _, _, h2, h3, _⟩
  · exact ⟨none, 0, rfl, Nat.le_refl _, Nat.zero_le _⟩
  · exact ⟨_, cap, h1, h2, h3⟩
theorem OwnP.own {w : World} {base : Nat} {T : TypeId} {v : Value} {s : Nat} {l : List (List Value)} (h : OwnP w base T v s l) : ∀ b, v.ownBlock = some b → base ≤ b ∧ b < w.heap.size := by
  intro b hb
  rcases h.forms with ⟨rfl, _⟩ | ⟨g, cap, cur, rfl, hb1, hg, _⟩
  · simp [Value.ownBlock] at hb
  · simp only [Value.ownBlock, Option.some.injEq] at hb
    exact ⟨by omega, by rw [← hb]; exact (Array.getElem?_eq_some_iff.1 hg).1⟩
theorem OwnP.p {w : World} {base : Nat} {T : TypeId} {v : Value} {s : Nat} {l : List (List Value)} (h : OwnP w base T v s l) : RowsP w v s l := by
  refine ⟨h.1, ?_⟩
  rcases h.forms with ⟨rfl, rfl⟩ | ⟨g, cap, cur, rfl, hb, hg, h2, h3, h4, h5⟩
  · exact .inl ⟨.inl rfl, rfl⟩
  · refine .inr ⟨g, 0, cap, rfl, h2, h3, fun j u hu => ?_⟩
    have hj : j < l.flatten.length := (List.getElem?_eq_some_iff.1 hu).1
    rw [flat_len h.1] at hj
    rw [← h5, List.getElem?_take_of_lt hj] at hu
    simpa [World.cell?, hg] using hu
/-- it stays where nothing of its block turns -/
theorem OwnP.stays {w w' : World} {base : Nat} {T : TypeId} {v : Value} {s : Nat} {l : List (List Value)} (h : OwnP w base T v s l) (hw : ∀ b, v.ownBlock = some b → b < w.heap.size → w'.heap[b]? = w.heap[b]?) : OwnP w' base T v s l := by
  rcases h.forms with ⟨rfl, rfl⟩ | ⟨g, cap, cur, rfl, hb, hg, h2, h3, h4, h5⟩
  · exact OwnP.nil _ _ _ _
  · exact OwnP.of_form h.1 hb (by rw [hw g rfl (Array.getElem?_eq_some_iff.1 hg).1]; exact hg) h2 h3 h4 h5
theorem OwnP.ext {w w' : World} {base : Nat} {T : TypeId} {v : Value} {s : Nat} {l : List (List Value)} (h : OwnP w base T v s l) (e : Ext w w') : OwnP w' base T v s l := h.stays fun b _ hl => Below.block e b hl
theorem OwnP.turn {w w' : World} {base : Nat} {T : TypeId} {v : Value} {s : Nat} {l : List (List Value)} {bs : List Nat} (h : OwnP w base T v s l) (t : Turn bs w w') (hn : ∀ b, v.ownBlock = some b → b ∉ bs) : OwnP w' base T v s l := h.stays fun b hb hl => t.block b hl (hn b hb)
theorem OwnP.grown {w w' : World} {base : Nat} {T : TypeId} {v : Value} {s : Nat} {l : List (List Value)} {row : Option Nat} (h : OwnP w base T v s l) (t : w.grownBy w' row) (hn : ∀ b, v.ownBlock = some b → row ≠ some b) : OwnP w' base T v s l :=
  h.stays fun b hb hl => t.block b hl (fun e => hn b hb e.symm)
theorem OwnP.mono {w : World} {base base' : Nat} {T : TypeId} {v : Value} {s : Nat} {l : List (List Value)} (h : OwnP w base T v s l) (hb : base' ≤ base) : OwnP w base' T v s l := by
  rcases h.forms with ⟨rfl, rfl⟩ | ⟨g, cap, cur, rfl, hb1, hg, h2, h3, h4, h5⟩
  · exact OwnP.nil _ _ _ _
  · exact OwnP.of_form h.1 (Nat.le_trans hb hb1) hg h2 h3 h4 h5
/-- the first k of it -/
theorem OwnP.take {w : World} {base : Nat} {T : TypeId} {q : Option Addr} {n c : Nat} {s : Nat} {l : List (List Value)} (h : OwnP w base T (.slice q n c) s l) {k : Nat} (hk : k ≤ l.length) : OwnP w base T (.slice q k c) s (l.take k) := by
  have hl : (l.take k).length = k := by rw [List.length_take]; omega
  rcases h.forms with ⟨h1, rfl⟩ | ⟨g, cap, cur, h1, hb, hg, h2, h3, h4, h5⟩
  · obtain ⟨rfl, rfl, rfl⟩ := Value.slice.inj h1
    obtain rfl : k = 0 := by simpa using hk
    exact OwnP.nil _ _ _ _
  · obtain ⟨rfl, rfl, rfl⟩ := Value.slice.inj h1
    have := OwnP.of_form (T := T) (base := base) (cap := c) (h.1.take k) hb hg (by omega) h3 h4 (by
      rw [hl, flat_take h.1, ← h5, List.take_take, Nat.min_eq_left (Nat.mul_le_mul_right s hk)])
    rw [hl] at this
    exact this
theorem OwnP.cell {w : World} {base : Nat} {T : TypeId} {q : Option Addr} {n c : Nat} {s : Nat} {l : List (List Value)} (h : OwnP w base T (.slice q n c) s l) {i f : Nat} {cs : List Value} {u : Value} (hi : l[i]? = some cs) (hu : cs[f]? = some u) :
    ∃ g, q = some ⟨g, 0, none⟩ ∧ base ≤ g ∧ w.cell? ⟨g, i * s + f, none⟩ = some u ∧ w.frozen? ⟨g, i * s + f, none⟩ = false := by
  rcases h.forms with ⟨_, rfl⟩ | ⟨g, cap, cur, h1, hb, hg, h2, h3, h4, h5⟩
  · simp at hi
  · obtain ⟨rfl, rfl, rfl⟩ := Value.slice.inj h1
    have hx := flat_at h.1 hi hu
    have hj : i * s + f < l.flatten.length := (List.getElem?_eq_some_iff.1 hx).1
    rw [flat_len h.1] at hj
    rw [← h5, List.getElem?_take_of_lt hj] at hx
    exact ⟨g, rfl, hb, by simpa [World.cell?, hg] using hx, by simp [World.frozen?, hg]⟩
theorem flat_set {s : Nat} : ∀ {l : List (List Value)}, Rows1 s l → ∀ {i f : Nat} {cs : List Value} (u : Value), l[i]? = some cs → f < s → (l.set i (cs.set f u)).flatten = l.flatten.set (i * s + f) u
  | [], _, i, f, cs, u, h, _ => by simp at h
  | c :: l, hr, i, f, cs, u, h, hf => by
    have h1 := (hr c (.head _)).1
    cases i with
    | zero =>
      simp at h; subst h
      rw [List.set_cons_zero, List.flatten_cons, List.flatten_cons, Nat.zero_mul, Nat.zero_add, List.set_append_left _ _ (by omega)]
    | succ i =>
      have ih := flat_set (s := s) (l := l) (fun cs hm => hr cs (.tail _ hm)) (i := i) (f := f) (cs := cs) u (by simpa using h) hf
      rw [List.set_cons_succ, List.flatten_cons, List.flatten_cons, List.set_append_right _ _ (by rw [h1, Nat.add_mul]; omega), h1, ih, show (i + 1) * s + f - s = i * s + f by rw [Nat.add_mul]; omega]
theorem Rows1.set {s : Nat} {l : List (List Value)} (h : Rows1 s l) {i f : Nat} {cs : List Value} {u : Value} (hi : l[i]? = some cs) (hu : u.oneCell' = true) : Rows1 s (l.set i (cs.set f u)) := by
  intro c hm
  rcases List.mem_or_eq_of_mem_set hm with hm | rfl
  · exact h c hm
  · have hc := h cs (List.mem_of_getElem? hi)
    refine ⟨by rw [List.length_set]; exact hc.1, fun x hx => ?_⟩
    rcases List.mem_or_eq_of_mem_set hx with hx | rfl
    · exact hc.2 x hx
    · exact hu
/-- a store into one of its cells -/
theorem OwnP.store {w : World} {base : Nat} {T : TypeId} {g n c : Nat} {s : Nat} {l : List (List Value)} (h : OwnP w base T (.slice (some ⟨g, 0, none⟩) n c) s l) {i f : Nat} {cs : List Value} (hi : l[i]? = some cs) (hf : f < s) {u : Value} (hu : u.oneCell' = true) :
    OwnP (w.setCell ⟨g, i * s + f, none⟩ u) base T (.slice (some ⟨g, 0, none⟩) n c) s (l.set i (cs.set f u)) := by
  rcases h.forms with ⟨h1, _⟩ | ⟨g', cap, cur, h1, hb, hg, h2, h3, h4, h5⟩
  · cases h1
  · obtain ⟨e1, rfl, rfl⟩ := Value.slice.inj h1
    obtain ⟨rfl, _⟩ := Addr.mk.inj (Option.some.inj e1)
    have hl : (l.set i (cs.set f u)).length = l.length := List.length_set
    have hil : i < l.length := (List.getElem?_eq_some_iff.1 hi).1
    have := OwnP.of_form (w := w.setCell ⟨g, i * s + f, none⟩ u) (T := T) (base := base) (g := g) (cap := c) (cur := cur.setIfInBounds (i * s + f) u) (h.1.set (f := f) (u := u) hi hu) hb (Go.Lib.heap_setCell_same hg u) (by rw [hl]; exact h2) h3 (by simpa using h4) (by
      rw [hl, flat_set h.1 u hi hf, ← h5]
      simp only [Array.toList_setIfInBounds]
      rw [List.take_set])
    rw [hl] at this
    exact this
/-- the words of a slice's element type -/
structure ElemT (P : Program) (ST T : TypeId) (s bytes : Nat) : Prop where
  under : P.underlying ST = some (.slice T)
  info : ∃ z, (P.info? T).map (fun i => (i.zero, i.size, i.bytes)) = some (some z, s, bytes) ∧ z.cells.size = s
  pos : 0 < s
theorem run_append_rows {P : Program} {ST T : TypeId} {s bytes : Nat} (E : ElemT P ST T s bytes) {w : World} (base : Nat) (ty : TypeId) {v u : Value} {R L : List (List Value)} (hv : OwnP w base T v s R) (hu : RowsP w u s L)
    (h63 : R.length + L.length ≤ maxLen) (hbytes : (R.length + L.length) * bytes ≤ 140737488355328) (hbase : base ≤ w.heap.size) :
    ∃ v' w', (Builtin.append_ #[ST, ST] ty #[v, u]).run P w = .ok v' w' ∧ OwnP w' base T v' s (R ++ L) ∧ w.grownBy w' v.ownBlock ∧ (v'.ownBlock = v.ownBlock ∨ v'.ownBlock = some w.heap.size) ∧ ((L ≠ [] ∨ v ≠ .slice none 0 0) → v' ≠ .slice none 0 0) := by
  obtain ⟨z, hinfo, hz⟩ := E.info
  obtain ⟨i0, hi, hz0, hz1, hz2⟩ := info_parts hinfo
  obtain ⟨h1, h2⟩ := hu
  rcases h2 with ⟨rfl | ⟨a, c, rfl, hc⟩, rfl⟩ | ⟨b, off, c, rfl, h4, h5, h6⟩
  · refine ⟨v, w, run_append_owned_none w base ST ty T i0 s E.under hi v R.length R.flatten hv.2, by rw [List.append_nil]; exact hv, ⟨rfl, rfl, rfl, Nat.le_refl _, fun _ _ _ => rfl⟩, .inl rfl, fun h => h.elim (fun h => absurd rfl h) id⟩
  · obtain ⟨v', w', hr, ho, hg, hn, hb⟩ := run_append_own_at (P := P) w base ST ty T i0 z s bytes E.under hi hz0 hz1 hz2 hz E.pos v R.length R.flatten hv.2 a 0 c ([] : List Value) (by simp)
      (fun j y hj => by simp at hj) (fun u hu => by simp at hu) h63 hbytes hbase
    refine ⟨v', w', hr, ⟨hv.1.app h1, by rw [List.length_append, List.flatten_append]; exact ho⟩, hg, hb, fun h e => ?_⟩
    obtain ⟨e1, e2⟩ := hn.1 e
    rcases h with h | h
    · exact h rfl
    · exact h e1
  · obtain ⟨v', w', hr, ho, hg, hn, hb⟩ := run_append_own_at (P := P) w base ST ty T i0 z s bytes E.under hi hz0 hz1 hz2 hz E.pos v R.length R.flatten hv.2 ⟨b, off, none⟩ L.length c L.flatten (flat_len h1)
      (fun j y hj => by rw [Go.WideShapes.add_plain]; exact h6 j y hj) (flat_one h1) h63 hbytes hbase
    refine ⟨v', w', hr, ⟨hv.1.app h1, by rw [List.length_append, List.flatten_append]; exact ho⟩, hg, hb, fun h e => ?_⟩
    obtain ⟨e1, e2⟩ := hn.1 e
    rcases h with h | h
    · exact h (List.eq_nil_of_length_eq_zero e2)
    · exact h e1
/-- append, at a plain region's list -/
theorem wpList_append_rows {P : Program} {ST T : TypeId} {s bytes : Nat} (E : ElemT P ST T s bytes) {w : World} {ops : Array Oper} {rest : List Oper} {o : Oper} {a : Act} {Q : Exit → Act → World → Prop} (hgd : o.guard = none) (so xo : Operand)
    (ho : o.op = .call { callee := .builtin .append, args := #[so, xo], argTypes := #[ST, ST] })
    (base : Nat) (v u : Value) (R L : List (List Value)) (hs : a.eval so = v) (hown : OwnP w base T v s R) (hx : a.eval xo = u) (hu : RowsP w u s L)
    (h63 : R.length + L.length ≤ maxLen) (hbytes : (R.length + L.length) * bytes ≤ 140737488355328) (hbase : base ≤ w.heap.size)
    (h : ∀ v' w', OwnP w' base T v' s (R ++ L) → w.grownBy w' v.ownBlock → (v'.ownBlock = v.ownBlock ∨ v'.ownBlock = some w.heap.size) → ((L ≠ [] ∨ v ≠ .slice none 0 0) → v' ≠ .slice none 0 0) → wpList P ops Q rest (a.put o.dst v') w') :
    wpList P ops Q (o :: rest) a w := by
  obtain ⟨v', w', hr, h2, h3, h4, h5⟩ := run_append_rows E base o.type hown hu h63 hbytes hbase
  refine wpList_plain hgd fun K hK => ?_
  unfold Oper.wp execOp
  simp only [ho, resolve, invoke, builtin, Sem.run_bind, Sem.run_pure, Result.andThen_ok, List.map_toArray, List.map_cons, List.map_nil, hs, hx, hr]
  exact hK _ _ (h v' w' h2 h3 h4 h5)
/-- append, at a step of a region that draws -/
theorem step_append_rows {P : Program} {ST T : TypeId} {s bytes : Nat} (E : ElemT P ST T s bytes) {w : World} {ops : Array Oper} {o : Oper} {a : Act} {K : Act → World → Prop} {Q : Exit → Act → World → Prop} {F : Prop} (hgd : o.guard = none) (so xo : Operand)
    (ho : o.op = .call { callee := .builtin .append, args := #[so, xo], argTypes := #[ST, ST] })
    (base : Nat) (v u : Value) (R L : List (List Value)) (hs : a.eval so = v) (hown : OwnP w base T v s R) (hx : a.eval xo = u) (hu : RowsP w u s L)
    (h63 : R.length + L.length ≤ maxLen) (hbytes : (R.length + L.length) * bytes ≤ 140737488355328) (hbase : base ≤ w.heap.size)
    (h : ∀ v' w', OwnP w' base T v' s (R ++ L) → w.grownBy w' v.ownBlock → (v'.ownBlock = v.ownBlock ∨ v'.ownBlock = some w.heap.size) → ((L ≠ [] ∨ v ≠ .slice none 0 0) → v' ≠ .slice none 0 0) → K (a.put o.dst v') w') :
    if Region.wanted o (yielded ops a.tmps) = true then Oper.wp P o a w K Q else F := by
  have hw : Region.wanted o (yielded ops a.tmps) = true := by simp [Region.wanted, hgd]
  rw [if_pos hw]
  obtain ⟨v', w', hr, h2, h3, h4, h5⟩ := run_append_rows E base o.type hown hu h63 hbytes hbase
  unfold Oper.wp execOp
  simp only [ho, resolve, invoke, builtin, Sem.run_bind, Sem.run_pure, Result.andThen_ok, List.map_toArray, List.map_cons, List.map_nil, hs, hx, hr]
  exact h v' w' h2 h3 h4 h5
/-- one row that lies in a block of its own -/
theorem rows_of_block {w : World} {g : Nat} {cs : Array Value} {T : TypeId} {fr : Nat × Nat} {s : Nat} (h : w.heap[g]? = some (.cells cs T fr)) (hs : cs.size = s) (h1 : ∀ u ∈ cs.toList, u.oneCell' = true) : RowsP w (.slice (some ⟨g, 0, none⟩) 1 1) s [cs.toList] := by
  refine ⟨Rows1.one (by simpa using hs) h1, .inr ⟨g, 0, 1, rfl, Nat.le_refl _, by unfold maxLen; omega, fun j u hu => ?_⟩⟩
  simpa [World.cell?, h] using hu
theorem grown_ext {w w' : World} {row : Option Nat} {B : Nat} {a : World} (e : Below B a w) (h : w.grownBy w' row) (hr : ∀ b, row = some b → B ≤ b) (hB : B ≤ w.heap.size) : Below B a w' := Below.grown e h hB hr
/-- a slice expression on the first k of a slice -/
theorem run_take {P : Program} {ST T : TypeId} {s bytes : Nat} (E : ElemT P ST T s bytes) (w : World) (q : Option Addr) (n c k : Nat) (hk : k ≤ c) (hc : c ≤ maxLen) : (Instr.slice ST (.slice q n c) none (some (.int .i64 k)) none).run P w = .ok (.slice q k c) w := by
  obtain ⟨z, hinfo, _⟩ := E.info
  obtain ⟨i0, hi, hz0, hz1, hz2⟩ := info_parts hinfo
  have hel : P.elem ST = T := by simp [Program.elem, E.under]
  have hsz : (sizeOf (P.elem ST)).run P w = .ok s w := by rw [hel]; simp [sizeOf, typeInfo, hi, hz1]
  unfold maxLen at hc
  rw [run_slice_h w ST q n c (by rw [hel]; exact E.under) .i64 k (by omega) (by omega), hsz]
  simp [sliced]
  intro _
  cases q <;> simp [Addr.add]
theorem flat1 {l : List (List Value)} (h : Rows1 1 l) : l.flatten.length = l.length := by rw [flat_len h, Nat.mul_one]
theorem flat1_drop : ∀ {l : List (List Value)}, Rows1 1 l → ∀ k, (l.drop k).flatten = l.flatten.drop k
  | [], _, k => by simp
  | c :: l, h, 0 => by simp
  | c :: l, h, k + 1 => by
    have h1 := (h c (.head _)).1
    have ih := flat1_drop (l := l) (fun cs hm => h cs (.tail _ hm)) k
    have e1 : c.drop (k + 1) = [] := List.drop_of_length_le (by rw [h1]; omega)
    have e2 : k + 1 - 1 = k := by omega
    rw [List.drop_succ_cons, List.flatten_cons, List.drop_append, h1, e1, e2, ih, List.nil_append]
/-- copy, between slices of one-cell elements: the target a row of the call's own -/
theorem wpList_copy_rows {P : Program} {ST T : TypeId} {bytes : Nat} (E : ElemT P ST T 1 bytes) {w : World} {ops : Array Oper} {rest : List Oper} {o : Oper} {a : Act} {Q : Exit → Act → World → Prop} (hgd : o.guard = none) (d s : Operand)
    (ho : o.op = .call { callee := .builtin .copy, args := #[d, s], argTypes := #[ST, ST] }) (base : Nat) (v u : Value) (D L : List (List Value)) (hd : a.eval d = v) (hown : OwnP w base T v 1 D) (hs : a.eval s = u) (hu : RowsP w u 1 L)
    (h : ∀ w', OwnP w' base T v 1 (L.take (Nat.min L.length D.length) ++ D.drop (Nat.min L.length D.length)) → w.grownBy w' v.ownBlock → w'.heap.size = w.heap.size → wpList P ops Q rest (a.put o.dst (goInt (Nat.min L.length D.length))) w') :
    wpList P ops Q (o :: rest) a w := by
  obtain ⟨z, hinfo, hz⟩ := E.info
  obtain ⟨i0, hi, hz0, hz1, hz2⟩ := info_parts hinfo
  have hsz : (P.info? T).map (·.size) = some 1 := by rw [hi]; simp [hz1]
  obtain ⟨dp, dCap, rfl, _, _⟩ := hown.len
  have hu' := hu
  obtain ⟨h1, h2⟩ := hu
  obtain ⟨sp, sCap, rfl, _, _, _⟩ := hu'.at
  have hle1 : Nat.min L.length D.length ≤ L.length := Nat.min_le_left _ _
  have hle2 : Nat.min L.length D.length ≤ D.length := Nat.min_le_right _ _
  generalize hm : Nat.min L.length D.length = m at *
  by_cases h0 : m = 0
  · subst h0
    refine wpList_copy_nothing hgd d s ST ST ho T E.under hsz dp sp D.length dCap L.length sCap hd hs hm ?_
    exact h w (by simpa using hown) ⟨rfl, rfl, rfl, Nat.le_refl _, fun _ _ _ => rfl⟩ rfl
  · rcases h2 with ⟨_, rfl⟩ | ⟨b, off, c, e1, h4, h5, h6⟩
    · simp at hle1; omega
    · obtain ⟨rfl, _, rfl⟩ := Value.slice.inj e1
      rcases hown.forms with ⟨_, rfl⟩ | ⟨g, cap, cur, e2, hb, hg, k2, k3, k4, k5⟩
      · simp at hle2; omega
      · obtain ⟨rfl, _, rfl⟩ := Value.slice.inj e2
        have hcl : (L.take m).flatten.length = m := by rw [flat1 (h1.take m), List.length_take]; omega
        have hcs : cur.size = dCap := by rw [k4, Nat.mul_one]
        rw [Nat.mul_one] at k5
        refine wpList_copy_own hgd d s ST ST ho T E.under hsz g 0 D.length dCap ⟨b, off, none⟩ L.length sCap hd hs cur T hg (L.take m).flatten (by rw [hcl, ← hm]) (fun j v hj => ?_) (by omega) (flat_one (h1.take m)) ?_
        · rw [Go.WideShapes.add_plain]
          rw [flat_take h1, Nat.mul_one] at hj
          have hjm : j < m := by
            have := (List.getElem?_eq_some_iff.1 hj).1
            rw [List.length_take] at this; omega
          rw [List.getElem?_take_of_lt hjm] at hj
          exact h6 j v hj
        · rw [hcl]
          have hnl : (L.take m ++ D.drop m).length = D.length := by rw [List.length_append, List.length_take, List.length_drop]; omega
          have hnew : OwnP (w.setRow g (cur.toList.take 0 ++ ((L.take m).flatten ++ cur.toList.drop (0 + (L.take m).flatten.length))).toArray) base T (.slice (some ⟨g, 0, none⟩) (L.take m ++ D.drop m).length dCap) 1 (L.take m ++ D.drop m) := by
            refine OwnP.of_form ((h1.take m).app (hown.1.drop m)) hb (setRow_heap w g _ _ T _ hg) (by rw [hnl]; exact k2) k3 ?_ ?_
            · generalize (L.take m).flatten = X at *
              simp; omega
            · rw [hnl, Nat.mul_one, List.flatten_append, flat1_drop hown.1, ← k5]
              simp only [List.take_zero, List.nil_append, Nat.zero_add]
              rw [List.take_append, hcl, List.take_of_length_le (by rw [hcl]; exact hle2), List.drop_take]
          rw [hnl, hcl] at hnew
          refine h _ hnew ⟨rfl, rfl, rfl, by simp [World.setRow], fun k hk hne => ?_⟩ (by simp [World.setRow])
          exact setRow_other w g k _ (by intro e; subst e; exact hne rfl)
theorem flat_rep (n : Nat) (z : Value) : (List.replicate n [z]).flatten = List.replicate n z := by
  induction n with
  | zero => rfl
  | succ n ih => rw [List.replicate_succ, List.flatten_cons, ih, List.replicate_succ]; rfl
/-- a row that was just made -/
theorem made_own (w : World) (T : TypeId) (z : Value) (n base : Nat) (h1 : z.oneCell' = true) (hb : base ≤ w.heap.size) (hm : n ≤ maxLen) : OwnP (w.alloc (.cells (madeCells #[z] n) T)) base T (.slice (some ⟨w.heap.size, 0, none⟩) n n) 1 (List.replicate n [z]) := by
  have hr : Rows1 1 (List.replicate n [z]) := by
    intro cs hm
    obtain ⟨_, rfl⟩ := List.mem_replicate.1 hm
    exact ⟨rfl, fun u hu => by rw [List.mem_singleton] at hu; subst hu; exact h1⟩
  have := OwnP.of_form (T := T) (base := base) (cap := n) hr hb (heap_alloc_new w (.cells (madeCells #[z] n) T)) (by simp) hm (by rw [size_madeCells]; omega) (by
    rw [toList_madeCells_one, flat_rep, List.length_replicate, Nat.mul_one, List.take_of_length_le (by simp)])
  rw [List.length_replicate] at this
  exact this
theorem made_at {w : World} {T : TypeId} {z : Value} {n base g : Nat} (h1 : z.oneCell' = true) (hg : w.heap.size = g) (hb : base ≤ g) (hm : n ≤ maxLen) : OwnP (w.alloc (.cells (madeCells #[z] n) T)) base T (.slice (some ⟨g, 0, none⟩) n n) 1 (List.replicate n [z]) := by
  subst hg; exact made_own w T z n base h1 hb hm
theorem grown3 {w w' : World} {o0 o1 o2 : Obj} {g : Nat} (h : World.grownBy (((w.alloc o0).alloc o1).alloc o2) w' (some g)) (hg : g = w.heap.size + 1 + 1) : Ext w w' ∧ w.heap.size + 1 + 1 + 1 ≤ w'.heap.size ∧ w'.heap[w.heap.size]? = some o0 ∧ w'.heap[w.heap.size + 1]? = some o1 := by
  obtain ⟨e, s, b0, b1, b2⟩ := blocks3 w o0 o1 o2
  have hs := h.size
  rw [s] at hs
  exact ⟨Below.grown e h (by rw [s]; omega) (fun b hb => by cases hb; omega), hs, (h.block _ (by rw [s]; omega) (by simp; omega)).trans b0, (h.block _ (by rw [s]; omega) (by simp; omega)).trans b1⟩
/-- a call at a world of which this is known -/
theorem at_gen {P : Program} {f : FuncId} {args : Array Value} {w : World} {Q : Ending → World → Prop} (F : World → Prop) (hF : F w) (h : ∀ W, F W → Calls P f args W Q) : Calls P f args w Q := h w hF
theorem grown_of_ext {w w' : World} (h : Ext w w') (row : Option Nat) : w.grownBy w' row := ⟨Below.os h, Below.tape h, Below.output h, Below.size h, fun k hk _ => Below.block h k hk⟩
theorem grown_turn {w w' : World} {row : Option Nat} {bs : List Nat} (h : w.grownBy w' row) (hr : ∀ b, row = some b → b ∈ bs) : Turn bs w w' := Turn.of_grown h fun b hb => .inl (hr b hb)
theorem grown_block {w w' : World} {row : Option Nat} {k : Nat} {o : Obj} (g : w.grownBy w' row) (h : w.heap[k]? = some o) (hn : row ≠ some k) : w'.heap[k]? = some o := by
  rw [g.block k (Array.getElem?_eq_some_iff.1 h).1 (fun e => hn e.symm)]; exact h
theorem own_any {q : Option Addr} {n c m d b : Nat} (h : (Value.slice q n c).ownBlock = some b) : (Value.slice q m d).ownBlock = some b := by cases q <;> exact h
theorem Ext.go {w w1 w2 : World} {B : Nat} (h : Ext w w1) (k : Below B w1 w2) (hB : w.heap.size ≤ B) : Ext w w2 := Below.trans h (Below.mono k hB)
end Go.Proofs.Ytalfmlhiooaigaa
