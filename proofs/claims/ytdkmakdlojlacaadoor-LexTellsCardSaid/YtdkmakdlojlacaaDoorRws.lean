/- Slices that a call makes: small laws. -/
import Derived.Test.YtdkmakdlojlacaaDoorExt
import Derived.Test.YtdkmakdlojlacaaDoorRows
import Derived.Lib.Strings
import Derived.Laws.IdiomStrings
import Derived.Laws.OwnMore
namespace Go.Proofs.YtdkmakdlojlacaaDoor
open Go.RowKit
def strOf (l : List UInt8) : ByteArray := ⟨l.toArray⟩
theorem strOf_list (l : List UInt8) : (strOf l).data.toList = l := rfl
theorem str_eq {s : ByteArray} {l : List UInt8} (h : s.data.toList = l) : s = strOf l := by
  subst h; rfl
theorem str_beq_lit (s : ByteArray) (l : List UInt8) : (s.toList == l) = decide (s.data.toList = l) := by
  rw [ByteArray.toList_eq, Bool.eq_iff_iff]; simp
theorem str_length (s : ByteArray) : s.data.toList.length = s.size := by simp
theorem str_empty (s : ByteArray) (h : s.size = 0) : s = ⟨#[]⟩ := by
  rcases s with ⟨a⟩; have : a.size = 0 := h; simp [Array.size_eq_zero_iff.1 this]
theorem str_isEmpty (s : ByteArray) (h : 0 < s.size) : s.toList.isEmpty = false := by
  rw [ByteArray.toList_eq]; cases hs : s.data.toList with
  | nil => have : s.data.toList.length = 0 := by rw [hs]; rfl
           have h2 : s.size = s.data.toList.length := by simp
           omega
  | cons => rfl
theorem str_head (s : ByteArray) (h : 0 < s.size) : s.data.toList.headD 0 = s[0] := by
  have : s.data.toList = s[0] :: s.data.toList.drop 1 := by
    exact List.drop_eq_getElem_cons (l := s.data.toList) (i := 0) (by rw [str_length]; exact h)
  rw [this]; rfl
theorem extract_list (s : ByteArray) (a b : Nat) : (s.extract a b).data.toList = (s.data.toList.take b).drop a := by
  rw [Lib.extract_data]; simp [List.drop_take]
theorem extract_zero_list (s : ByteArray) (b : Nat) : (s.extract 0 b).data.toList = s.data.toList.take b := by rw [extract_list]; rfl
theorem extract_str (s : ByteArray) (b : Nat) : strOf (s.data.toList.take b) = s.extract 0 b := by
  rw [← extract_zero_list]; exact (str_eq rfl).symm
theorem extract_end_list (s : ByteArray) (a : Nat) : (s.extract a s.size).data.toList = s.data.toList.drop a := by
  rw [extract_list, List.take_of_length_le (by rw [str_length]; exact Nat.le_refl _)]
theorem str_drop (s : ByteArray) (k : Nat) (h : k < s.size) : s.data.toList.drop k = s[k] :: s.data.toList.drop (k + 1) :=
  List.drop_eq_getElem_cons (by rw [str_length]; exact h)

/-- a new row of three cells, in a later world -/
theorem own3 {w w1 : World} {a b c : Value} {T : TypeId} (h : Ext (w.alloc (.cells #[a, b, c] T)) w1) :
    w1.cell? ⟨w.heap.size, 0, none⟩ = some a ∧ w1.cell? ⟨w.heap.size, 1, none⟩ = some b ∧ w1.cell? ⟨w.heap.size, 2, none⟩ = some c ∧ w1.frozen? ⟨w.heap.size, 0, none⟩ = false ∧ w1.frozen? ⟨w.heap.size, 1, none⟩ = false ∧ w1.frozen? ⟨w.heap.size, 2, none⟩ = false ∧ w.heap.size < w1.heap.size := by
  have hn : (w.alloc (.cells #[a, b, c] T)).heap[w.heap.size]? = some (.cells #[a, b, c] T (0, 0)) := heap_alloc_new _ _
  have hb : w1.heap[w.heap.size]? = some (.cells #[a, b, c] T (0, 0)) := by rw [Below.block h w.heap.size (by simp)]; exact hn
  refine ⟨?_, ?_, ?_, ?_, ?_, ?_, ?_⟩
  all_goals first | (simp [World.cell?, hb]; done) | (simp [World.frozen?, hb]; done) | exact (Array.getElem?_eq_some_iff.1 hb).1
/-- a new row of two cells, in a later world -/
theorem own2 {w w1 : World} {a b : Value} {T : TypeId} (h : Ext (w.alloc (.cells #[a, b] T)) w1) :
    w1.cell? ⟨w.heap.size, 0, none⟩ = some a ∧ w1.cell? ⟨w.heap.size, 1, none⟩ = some b := by
  have hn : (w.alloc (.cells #[a, b] T)).heap[w.heap.size]? = some (.cells #[a, b] T (0, 0)) := heap_alloc_new _ _
  have hb : w1.heap[w.heap.size]? = some (.cells #[a, b] T (0, 0)) := by rw [Below.block h w.heap.size (by simp)]; exact hn
  constructor
  all_goals (simp [World.cell?, hb]; done)
/-- an array's element, at an index that is a variable -/
theorem run_index_arr {P : Program} {T E n : Nat} (hT : P.underlying T = some (.array n E)) (hA : ∀ w, (isAgg E).run P w = .ok false w) (hS : ∀ w, (sizeOf E).run P w = .ok 1 w) (cs : Array Value) (kd : IntKind) (k : Nat) (hk : k < n) (v : Value) (hv : cs[k]? = some v) (w : World) :
    (Instr.index T (.agg cs) (.int kd k)).run P w = .ok v w := by
  have h2 : (k : Int) < n := by omega
  simp [Instr.index, asIntOf, run_underlying hT, part, hA, hS, hv]
  intro h; omega
/-- a byte as a value -/
def u8V (c : UInt8) : Value := .int .u8 (c.toNat : Int)
/-- a slice of bytes of the call's own -/
def BytesRow (w : World) (base : Nat) (v : Value) (bs : List UInt8) : Prop := w.ownsRow base 5 1 v bs.length (bs.map u8V)
theorem info_u8 : (Tryd.prog.info? 5).map (fun i => (i.zero, i.size, i.bytes)) = some (some (.int .u8 0), 1, 1) := by kernel_rfl
theorem BytesRow.nil (w : World) (base : Nat) : BytesRow w base (.slice none 0 0) [] := World.ownsRow_nil _ _ _ _
theorem BytesRow.alloc {w : World} {base : Nat} {v : Value} {bs : List UInt8} (h : BytesRow w base v bs) (o : Obj) : BytesRow (w.alloc o) base v bs := World.ownsRow.alloc h o
theorem BytesRow.len {w : World} {base : Nat} {v : Value} {bs : List UInt8} (h : BytesRow w base v bs) : ∃ a c, v = .slice a bs.length c ∧ bs.length ≤ c ∧ c ≤ maxLen := by
  rcases h.2 with ⟨h1, h2⟩ | ⟨g, cap, cur, h1, _, _, h2, h3, _⟩
  · exact ⟨none, 0, by rw [h1, h2], by omega, Nat.zero_le _⟩
  · exact ⟨_, cap, h1, h2, h3⟩
/-- string(b) -/
theorem BytesRow.string {w : World} {base : Nat} {v : Value} {bs : List UInt8} (h : BytesRow w base v bs) : (convert 51 9 v).run Tryd.prog w = .ok (.string (strOf bs)) w := by
  rcases h.2 with ⟨h1, h2⟩ | ⟨g, cap, cur, h1, _, hg, h2, h3, h4, h5⟩
  · have hb : bs = [] := List.length_eq_zero_iff.1 h2
    subst hb; subst h1
    exact run_convert_bytes_nil (P := Tryd.prog) w 51 5 Tryd.underlying51 Tryd.underlying5 0 0 9 Tryd.underlying9
  · subst h1
    refine run_convert_bytes_back w 51 9 5 ⟨g, 0, none⟩ cap bs Tryd.underlying51 Tryd.underlying5 Tryd.underlying9 (fun j hj => ?_)
    have := World.ownsRow.cellAt h j (by omega)
    have e : (⟨g, 0, none⟩ : Addr).add j = ⟨g, j, none⟩ := by unfold Addr.add; split <;> simp_all
    rw [e, this]
    simp [u8V, hj]
/-- b = append(b, c) -/
theorem wpList_append_byte {ops : Array Oper} {rest : List Oper} {o : Oper} {a : Act} {Q : Exit → Act → World → Prop} {w : World} (hgd : o.guard = none) (s x : Operand)
    (ho : o.op = .call { callee := .builtin .append, args := #[s, x], argTypes := #[51, 51] })
    (base : Nat) (v : Value) (bs : List UInt8) (hs : a.eval s = v) (hown : BytesRow w base v bs) (c : UInt8) (hx : a.eval x = .slice (some ⟨w.heap.size, 0, none⟩) 1 1)
    (hlen : bs.length + 1 ≤ 1099511627776) (hbase : base ≤ w.heap.size)
    (h : ∀ v' w', BytesRow w' base v' (bs ++ [c]) → (w.alloc (.cells #[u8V c] 5)).grownBy w' v.ownBlock → wpList Tryd.prog ops Q rest (a.put o.dst v') w') :
    wpList Tryd.prog ops Q (o :: rest) a (w.alloc (.cells #[u8V c] 5)) := by
  obtain ⟨i0, hi, hz0, hz1, hz2⟩ := info_parts info_u8
  refine wpList_append_own (P := Tryd.prog) (w := w.alloc (.cells #[u8V c] 5)) hgd s x 51 ho base 5 i0 (.int .u8 0) 1 1 Tryd.underlying51 hi hz0 hz1 hz2 rfl (by decide) v bs.length (bs.map u8V) hs (World.ownsRow.alloc hown _)
    ⟨w.heap.size, 0, none⟩ 1 1 [u8V c] hx rfl (cell_one_new _ _ _) ?_ (by unfold maxLen; omega) (by omega) (by simp; omega) ?_
  · intro u hu; simp at hu; subst hu; rfl
  · intro v' w' hown' hgrow _
    refine h v' w' ?_ hgrow
    unfold BytesRow
    simpa using hown'
/-- b = append(b, c, d ..) -/
theorem wpList_append_bytes {ops : Array Oper} {rest : List Oper} {o : Oper} {a : Act} {Q : Exit → Act → World → Prop} {w : World} (hgd : o.guard = none) (s x : Operand)
    (ho : o.op = .call { callee := .builtin .append, args := #[s, x], argTypes := #[51, 51] })
    (base : Nat) (v : Value) (bs : List UInt8) (hs : a.eval s = v) (hown : BytesRow w base v bs) (cs : List UInt8) (g c : Nat) (hx : a.eval x = .slice (some ⟨g, 0, none⟩) cs.length c)
    (hc : ∀ j u, (cs.map u8V)[j]? = some u → w.cell? ((⟨g, 0, none⟩ : Addr).add j) = some u) (hlen : bs.length + cs.length ≤ 1099511627776) (hbase : base ≤ w.heap.size)
    (h : ∀ v' w', BytesRow w' base v' (bs ++ cs) → w.grownBy w' v.ownBlock → wpList Tryd.prog ops Q rest (a.put o.dst v') w') :
    wpList Tryd.prog ops Q (o :: rest) a w := by
  obtain ⟨i0, hi, hz0, hz1, hz2⟩ := info_parts info_u8
  refine wpList_append_own (P := Tryd.prog) (w := w) hgd s x 51 ho base 5 i0 (.int .u8 0) 1 1 Tryd.underlying51 hi hz0 hz1 hz2 rfl (by decide) v bs.length (bs.map u8V) hs hown
    ⟨g, 0, none⟩ cs.length c (cs.map u8V) hx (by simp) hc ?_ (by unfold maxLen; omega) (by omega) hbase ?_
  · intro u hu
    obtain ⟨c, _, rfl⟩ := List.mem_map.1 hu
    rfl
  · intro v' w' hown' hgrow _
    refine h v' w' ?_ hgrow
    unfold BytesRow
    simpa using hown'
theorem cell_new2 {w : World} {a b : Value} {T : TypeId} : ∀ j u, [a, b][j]? = some u → (w.alloc (.cells #[a, b] T)).cell? ((⟨w.heap.size, 0, none⟩ : Addr).add j) = some u := by
  intro j u h
  have hb : (w.alloc (.cells #[a, b] T)).heap[w.heap.size]? = some (.cells #[a, b] T (0, 0)) := heap_alloc_new _ _
  match j, h with
  | 0, h => simp at h; subst h; simp [Addr.add]
  | 1, h => simp at h; subst h; simp [Addr.add]
  | j + 2, h => simp at h
theorem BytesRow.own {w : World} {base : Nat} {v : Value} {bs : List UInt8} (h : BytesRow w base v bs) : ∀ b, v.ownBlock = some b → base ≤ b := by
  intro b hb
  rcases h.2 with ⟨h1, _⟩ | ⟨g, cap, cur, h1, hb1, _⟩
  · subst h1; simp [Value.ownBlock] at hb
  · subst h1; simp only [Value.ownBlock, Option.some.injEq] at hb; omega
theorem BytesRow.lit (w : World) (cs : List UInt8) (h : cs.length ≤ 1000) : BytesRow (w.alloc (.cells (cs.map u8V).toArray 5)) w.heap.size (.slice (some ⟨w.heap.size, 0, none⟩) cs.length cs.length) cs := by
  have := World.ownsRow_lit (base := w.heap.size) (e := 5) (size := 1) w (cs.map u8V).toArray cs.length (Nat.le_refl _) (by unfold maxLen; omega) (by simp)
  simpa [BytesRow] using this
/-- a later world, in which a row of the call's own has been written -/
theorem below_append {B : Nat} {w wr w1 : World} {v : Value} (h : Below B w wr) (hB : B ≤ wr.heap.size) (ho : ∀ b, v.ownBlock = some b → B ≤ b) (hg : wr.grownBy w1 v.ownBlock) : Below B w w1 := h.grown hg hB ho
end Go.Proofs.YtdkmakdlojlacaaDoor
