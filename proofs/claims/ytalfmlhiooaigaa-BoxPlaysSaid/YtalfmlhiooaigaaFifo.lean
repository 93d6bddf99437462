/- A slice of one-cell elements that is cut at its head ('l = l[1:]') and appended to: at whatever place of its block. -/
import Derived.Test.YtalfmlhiooaigaaSli
import Derived.Deep.Upon
namespace Go.Proofs.Ytalfmlhiooaigaa
open Go Go.RowKit
set_option maxHeartbeats 1000000
/-- a row at some place of a block of the call's own; behind it, up to the capacity, room -/
def FifoP (w : World) (base : Nat) (T : TypeId) (v : Value) (l : List Value) : Prop := (∀ u ∈ l, u.oneCell' = true) ∧ ((v = .slice none 0 0 ∧ l = []) ∨
  ∃ b off cap cur, v = .slice (some ⟨b, off, none⟩) l.length cap ∧ base ≤ b ∧ w.heap[b]? = some (.cells cur T (0, 0)) ∧ l.length ≤ cap ∧ cap ≤ maxLen ∧ off + cap ≤ cur.size ∧ ∀ (j : Nat) (u : Value), l[j]? = some u → cur[off + j]? = some u)
theorem FifoP.nil (w : World) (base : Nat) (T : TypeId) : FifoP w base T (.slice none 0 0) [] := ⟨fun _ h => (by cases h), .inl ⟨rfl, rfl⟩⟩
theorem FifoP.own {w : World} {base : Nat} {T : TypeId} {v : Value} {l : List Value} (h : FifoP w base T v l) : ∀ b, v.ownBlock = some b → base ≤ b ∧ b < w.heap.size := by
  intro b hb
  rcases h.2 with ⟨rfl, _⟩ | ⟨b', off, cap, cur, rfl, h1, h2, _⟩
  · simp [Value.ownBlock] at hb
  · simp only [Value.ownBlock, Option.some.injEq] at hb
    subst hb
    exact ⟨h1, (Array.getElem?_eq_some_iff.1 h2).1⟩
theorem FifoP.turn {w w' : World} {base : Nat} {T : TypeId} {v : Value} {l : List Value} {bs : List Nat} (h : FifoP w base T v l) (t : Turn bs w w') (hb : ∀ b, v.ownBlock = some b → b ∉ bs) : FifoP w' base T v l := by
  refine ⟨h.1, h.2.imp id fun ⟨b, off, cap, cur, h1, h0, h2, h3⟩ => ⟨b, off, cap, cur, h1, h0, ?_, h3⟩⟩
  exact (t.block b (Array.getElem?_eq_some_iff.1 h2).1 (hb b (by rw [h1]; rfl))).trans h2
theorem FifoP.ext {w w' : World} {base : Nat} {T : TypeId} {v : Value} {l : List Value} (h : FifoP w base T v l) (e : Ext w w') : FifoP w' base T v l := h.turn (bs := []) (Turn.of_ext e) (by simp)
theorem FifoP.len {w : World} {base : Nat} {T : TypeId} {v : Value} {l : List Value} (h : FifoP w base T v l) : ∃ q c, v = .slice q l.length c ∧ l.length ≤ c ∧ c ≤ maxLen := by
  rcases h.2 with ⟨rfl, rfl⟩ | ⟨b, off, cap, cur, rfl, _, _, h3, h4, _⟩
  · exact ⟨none, 0, rfl, Nat.le_refl _, Nat.zero_le _⟩
  · exact ⟨_, cap, rfl, h3, h4⟩
theorem FifoP.head {w : World} {base : Nat} {T : TypeId} {q : Option Addr} {n c : Nat} {x : Value} {l : List Value} (h : FifoP w base T (.slice q n c) (x :: l)) : ∃ b off, q = some ⟨b, off, none⟩ ∧ n = l.length + 1 ∧ w.cell? ⟨b, off, none⟩ = some x ∧
    FifoP w base T (.slice (if c = 1 then some ⟨b, off, none⟩ else some ⟨b, off + 1, none⟩) l.length (c - 1)) l := by
  rcases h.2 with ⟨_, h⟩ | ⟨b, off, cap, cur, h1, h0, h2, h3, h4, h5, h6⟩
  · cases h
  · obtain ⟨rfl, rfl, rfl⟩ := Value.slice.inj h1
    have h60 := h6 0 x rfl
    refine ⟨b, off, rfl, rfl, by simpa [World.cell?, h2] using h60, fun u hu => h.1 u (.tail _ hu), .inr ?_⟩
    simp only [List.length_cons] at h3
    by_cases hc : c = 1
    · subst hc
      rw [if_pos rfl]
      have hl : l = [] := List.eq_nil_of_length_eq_zero (by omega)
      subst hl
      exact ⟨b, off, 0, cur, rfl, h0, h2, Nat.le_refl _, Nat.zero_le _, by omega, fun j u hu => by simp at hu⟩
    · rw [if_neg hc]
      refine ⟨b, off + 1, c - 1, cur, rfl, h0, h2, by omega, by omega, by omega, fun j u hu => ?_⟩
      have := h6 (j + 1) u hu
      rw [← this]
      congr 1
      omega
theorem run_fifo_tail {P : Program} {ST T : TypeId} {bytes : Nat} (E : ElemT P ST T 1 bytes) (w : World) (b off n c : Nat) (hn : 1 ≤ n) (hc : n ≤ c) : (Instr.slice ST (.slice (some ⟨b, off, none⟩) n c) (some (.int .i64 1)) none none).run P w = .ok (.slice (if c = 1 then some ⟨b, off, none⟩ else some ⟨b, off + 1, none⟩) (n - 1) (c - 1)) w := by
  obtain ⟨z, hinfo, _⟩ := E.info
  obtain ⟨i0, hi, hz0, hz1, hz2⟩ := info_parts hinfo
  have hel : P.elem ST = T := by simp [Program.elem, E.under]
  have hsz : (sizeOf (P.elem ST)).run P w = .ok 1 w := by rw [hel]; simp [sizeOf, typeInfo, hi, hz1]
  rw [run_slice_l w ST (some ⟨b, off, none⟩) n c (by rw [hel]; exact E.under) .i64 1 (by omega) (by omega), hsz]
  by_cases h : c = 1 <;> simp [sliced, h, Addr.add]
theorem run_append_fifo {P : Program} {ST T : TypeId} {bytes : Nat} (E : ElemT P ST T 1 bytes) {w : World} (ty : TypeId) {base : Nat} {v x : Value} {g : Nat} {l : List Value} (hv : FifoP w base T v l) (hbase : base ≤ w.heap.size) (hx : w.cell? ⟨g, 0, none⟩ = some x) (h1 : x.oneCell' = true)
    (h63 : l.length + 1 ≤ maxLen) (hbytes : (l.length + 1) * bytes ≤ 140737488355328) :
    ∃ v' w', (Builtin.append_ #[ST, ST] ty #[v, .slice (some ⟨g, 0, none⟩) 1 1]).run P w = .ok v' w' ∧ FifoP w' base T v' (l ++ [x]) ∧ Turn v.ownBlock.toList w w' ∧ (v'.ownBlock = v.ownBlock ∨ v'.ownBlock = some w.heap.size) := by
  obtain ⟨z, hinfo, hz⟩ := E.info
  obtain ⟨i0, hi, hz0, hz1, hz2⟩ := info_parts hinfo
  have hs : Src P i0.size ST (.slice (some ⟨g, 0, none⟩) 1 1) 1 [x] w := Src.ofSlice w E.under ⟨g, 0, none⟩ 1 1 [x] (by rw [hz1]; rfl) (fun j u hj => by
    cases j with
    | zero => simp at hj; subst hj; simpa [Addr.add] using hx
    | succ j => simp at hj) (by intro u hu; simp at hu; subst hu; exact h1)
  have hone : ∀ u ∈ l ++ [x], u.oneCell' = true := fun u hu => by
    rcases List.mem_append.1 hu with hu | hu
    · exact hv.1 u hu
    · rw [List.mem_singleton.1 hu]; exact h1
  have grow : ∀ (q : Option Addr) (c : Nat), v = .slice q l.length c → c < l.length + 1 → (Builtin.firstCells i0.size l.length (.slice q l.length c)).run P w.drew = .ok l.toArray w.drew →
      ∃ v' w', (Builtin.append_ #[ST, ST] ty #[v, .slice (some ⟨g, 0, none⟩) 1 1]).run P w = .ok v' w' ∧ FifoP w' base T v' (l ++ [x]) ∧ Turn v.ownBlock.toList w w' ∧ (v'.ownBlock = v.ownBlock ∨ v'.ownBlock = some w.heap.size) := by
    rintro q c rfl hc hold
    have hrun := run_append_grow_src (P := P) w ST ST ty T i0 z E.under hi hz0 q l.length c l hold _ 1 [x] hs hc (by unfold maxLen at h63; omega) (growslice_fits hc (by rw [hz2]; exact hbytes))
    refine ⟨_, _, hrun, ⟨hone, .inr ⟨w.heap.size, 0, _, _, by rw [List.length_append]; rfl, hbase, heap_alloc_new w.drew _, ?_, grownCap_le_maxLen w (l.length + 1) c T h63, ?_, fun j u hj => ?_⟩⟩, (Turn.of_ext ((Ext.drew w).trans (Ext.alloc w.drew _))), .inr rfl⟩
    · rw [List.length_append]; exact grownCap_ge w (l.length + 1) c T
    · rw [Nat.zero_add, Array.size_append, List.size_toArray, List.length_append, size_zeroCells, hz]
      have := grownCap_ge w (l.length + 1) c T
      simp
      omega
    · have hjl : j < (l ++ [x]).length := (List.getElem?_eq_some_iff.1 hj).1
      rw [Nat.zero_add, Array.getElem?_append_left (by simpa using hjl), List.getElem?_toArray]
      exact hj
  rcases hv.2 with ⟨rfl, rfl⟩ | ⟨b, off, cap, cur, rfl, h0, h2, h3, h4, h5, h6⟩
  · exact grow none 0 rfl (by simp) (run_firstCells_none w.drew _ _ _ _)
  · by_cases hroom : l.length + 1 ≤ cap
    · have hcell : ∀ j, j < [x].length → (w.cell? ⟨b, off + l.length * i0.size + j, none⟩).isSome = true := fun j hj => by
        simp only [List.length_singleton] at hj
        have : off + l.length * i0.size + j < cur.size := by rw [hz1]; omega
        simp [World.cell?, h2, this]
      have hfz : ∀ j, j < [x].length → w.frozen? ⟨b, off + l.length * i0.size + j, none⟩ = false := fun j hj => by simp [World.frozen?, h2]
      have hrun := run_append_room_src (P := P) w ST ST ty T i0 E.under hi b off l.length cap _ 1 [x] hs hroom hcell hfz
      rw [hz1, Nat.mul_one] at hrun
      have hset := Go.Lib.heap_setCell_same (i := off + l.length) h2 x
      refine ⟨_, _, hrun, ⟨hone, .inr ⟨b, off, cap, _, by rw [List.length_append]; rfl, h0, hset, by rw [List.length_append]; exact hroom, h4, by simpa using h5, fun j u hj => ?_⟩⟩, (Turn.refl _ w).setCell (.inl (by simp [Value.ownBlock])) x, .inl rfl⟩
      by_cases hjl : j < l.length
      · rw [List.getElem?_append_left hjl] at hj
        rw [Array.getElem?_setIfInBounds_ne (by omega)]
        exact h6 j u hj
      · have hjl2 : j < (l ++ [x]).length := (List.getElem?_eq_some_iff.1 hj).1
        rw [List.length_append, List.length_singleton] at hjl2
        obtain rfl : j = l.length := by omega
        rw [List.getElem?_append_right (Nat.le_refl _), Nat.sub_self] at hj
        obtain rfl : x = u := by simpa using hj
        rw [Array.getElem?_setIfInBounds_self_of_lt (by omega)]
    · refine grow _ _ rfl (by omega) ?_
      refine run_firstCells_some (P := P) w.drew _ _ _ _ _ l (by rw [hz1, Nat.mul_one]) (fun j u hj => ?_)
      rw [Go.WideShapes.add_plain]
      have := h6 j u hj
      show w.cell? _ = _
      simpa [World.cell?, h2] using this
/-- append, at a plain region's list -/
theorem wpList_append_fifo {P : Program} {ST T : TypeId} {bytes : Nat} (E : ElemT P ST T 1 bytes) {w : World} {ops : Array Oper} {rest : List Oper} {o : Oper} {a : Act} {Q : Exit → Act → World → Prop} (hgd : o.guard = none) (so xo : Operand)
    (ho : o.op = .call { callee := .builtin .append, args := #[so, xo], argTypes := #[ST, ST] })
    (base : Nat) (v x : Value) (g : Nat) (l : List Value) (hs : a.eval so = v) (hv : FifoP w base T v l) (hbase : base ≤ w.heap.size) (hxo : a.eval xo = .slice (some ⟨g, 0, none⟩) 1 1) (hx : w.cell? ⟨g, 0, none⟩ = some x) (h1 : x.oneCell' = true)
    (h63 : l.length + 1 ≤ maxLen) (hbytes : (l.length + 1) * bytes ≤ 140737488355328)
    (h : ∀ v' w', FifoP w' base T v' (l ++ [x]) → Turn v.ownBlock.toList w w' → (v'.ownBlock = v.ownBlock ∨ v'.ownBlock = some w.heap.size) → wpList P ops Q rest (a.put o.dst v') w') :
    wpList P ops Q (o :: rest) a w := by
  obtain ⟨v', w', hr, h2, h3, h4⟩ := run_append_fifo E o.type hv hbase hx h1 h63 hbytes
  refine wpList_plain hgd fun K hK => ?_
  unfold Oper.wp execOp
  simp only [ho, resolve, invoke, builtin, Sem.run_bind, Sem.run_pure, Result.andThen_ok, List.map_toArray, List.map_cons, List.map_nil, hs, hxo, hr]
  exact hK _ _ (h v' w' h2 h3 h4)
end Go.Proofs.Ytalfmlhiooaigaa
