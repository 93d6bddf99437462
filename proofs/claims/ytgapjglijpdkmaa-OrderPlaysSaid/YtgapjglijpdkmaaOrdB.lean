/- A pile's methods. -/
import Derived.Test.YtgapjglijpdkmaaOrdA
import Derived.RegionTactic
import Derived.Deep.AppendLies
import Derived.ChangeAlike
namespace Go.Proofs.Ytgapjglijpdkmaa
open Go.RowKit Go.Maps Heap Go.Sort
set_option maxHeartbeats 4000000
set_option maxRecDepth 100000
attribute [local go_sem ↓] Go.wp_at_zero Go.wp_at_succ
theorem compare_ext (a b : Ent) (w : World) : Calls Try.prog 44 #[.agg #[.int .i64 a.1, .int .i64 a.2], .agg #[.int .i64 b.1, .int .i64 b.2]] w fun e w' => e = .returned (.int .i64 (cf a b)) ∧ Ext w w' :=
  (compare_is a b w).mono fun _ _ ⟨he, q, os, hw⟩ => ⟨he, by rw [hw]; exact Ext.grow w q os⟩
theorem less_is {w : World} {B b c i j : Nat} {L : List Ent} (h : EntRow w B (.slice (some ⟨b, 0, none⟩) L.length c) L) (hi : i < L.length) (hj : j < L.length) :
    Calls Try.prog 38 #[.slice (some ⟨b, 0, none⟩) L.length c, .int .i64 i, .int .i64 j] w fun e w' => e = .returned (.bool (decide (lt (nth L i) (nth L j)))) ∧ Ext w w' := by
  obtain ⟨x0, x1, _, _⟩ := h.cells hi
  obtain ⟨y0, y1, _, _⟩ := h.cells hj
  have i1 : (i : Int) < (L.length : Int) := by omega
  have i2 : (j : Int) < (L.length : Int) := by omega
  have i3 : (0 : Int) ≤ (i : Int) := by omega
  have i4 : (0 : Int) ≤ (j : Int) := by omega
  have HD := Lib.hid (show decide (cf (nth L i) (nth L j) < 0) = decide (lt (nth L i) (nth L j)) by simp [cf_lt])
  have HC := Lib.hid (fun W => compare_ext (nth L i) (nth L j) W)
  clear h
  generalize nth L i = x at *
  generalize nth L j = y at *
  go_enter Try.func38, Try.ntmps38
  go_wp2_with fail
  go_region_held3 (fun w' => w'.cell? ⟨b, i * 2, none⟩ = some (.int .i64 x.1) ∧ w'.cell? ⟨b, i * 2 + 1, none⟩ = some (.int .i64 x.2) ∧ w'.cell? ⟨b, j * 2, none⟩ = some (.int .i64 y.1) ∧ w'.cell? ⟨b, j * 2 + 1, none⟩ = some (.int .i64 y.2))
    (first | go_keep | exact ⟨hx1.cell (by simpa using x0), hx1.cell (by simpa using x1), hx1.cell (by simpa using y0), hx1.cell (by simpa using y1)⟩)
    (first | (go_at_call 44; refine (HC.out _).mono ?_; rintro e w1 ⟨rfl, hx1⟩))
  go_wp2
  go_ret
  exact ⟨by rw [← HD.out]; rfl, Ext.trans (Ext.drew _) hx1⟩
theorem swap_is {w : World} {B b c i j : Nat} {L : List Ent} (h : EntRow w B (.slice (some ⟨b, 0, none⟩) L.length c) L) (hi : i < L.length) (hj : j < L.length) (hne : i ≠ j) :
    Calls Try.prog 41 #[.slice (some ⟨b, 0, none⟩) L.length c, .int .i64 i, .int .i64 j] w fun e w' => e = .returned (.tuple #[]) ∧ EntRow w' B (.slice (some ⟨b, 0, none⟩) L.length c) (swap L i j) ∧ Turn [b] w w' := by
  obtain ⟨x0, x1, f0, f1⟩ := h.cells hi
  obtain ⟨y0, y1, g0, g1⟩ := h.cells hj
  have i1 : (i : Int) < (L.length : Int) := by omega
  have i2 : (j : Int) < (L.length : Int) := by omega
  have n1 : ¬ i * 2 = j * 2 := by omega
  have n2 : ¬ i * 2 + 1 = j * 2 := by omega
  have n3 : ¬ i * 2 = j * 2 + 1 := by omega
  have n4 : ¬ j * 2 = i * 2 := by omega
  have n5 : ¬ j * 2 + 1 = i * 2 := by omega
  have n6 : ¬ j * 2 = i * 2 + 1 := by omega
  have H := Lib.hid h
  have HS := Lib.hid (show swap L i j = (L.set i (nth L j)).set j (nth L i) from rfl)
  have HT := Lib.hid (show swap L i j = (L.set j (nth L i)).set i (nth L j) by unfold swap; rw [List.set_comm _ _ hne])
  clear h
  generalize hx : nth L i = x at *
  generalize hy : nth L j = y at *
  clear hx hy
  go_enter Try.func41, Try.ntmps41
  go_wp2_with fail
  go_region
  go_end0
  obtain ⟨h1, t1⟩ := H.out.store (i := i) y
  have h1' : EntRow ((w.setCell ⟨b, i * 2, none⟩ (.int .i64 y.1)).setCell ⟨b, i * 2 + 1, none⟩ (.int .i64 y.2)) B (.slice (some ⟨b, 0, none⟩) (L.set i y).length c) (L.set i y) := by rw [List.length_set]; exact h1
  obtain ⟨h2, t2⟩ := h1'.store (i := j) x
  rw [List.length_set, ← HS.out] at h2
  exact ⟨rfl, World.ownsRow.drew h2, (t1.trans t2).trans (Turn.of_ext (Ext.drew _))⟩
theorem swap_same {w : World} {B b c i : Nat} {L : List Ent} (h : EntRow w B (.slice (some ⟨b, 0, none⟩) L.length c) L) (hi : i < L.length) :
    Calls Try.prog 41 #[.slice (some ⟨b, 0, none⟩) L.length c, .int .i64 i, .int .i64 i] w fun e w' => e = .returned (.tuple #[]) ∧ EntRow w' B (.slice (some ⟨b, 0, none⟩) L.length c) L ∧ Turn [b] w w' := by
  obtain ⟨x0, x1, f0, f1⟩ := h.cells hi
  have i1 : (i : Int) < (L.length : Int) := by omega
  have H := Lib.hid h
  have HS := Lib.hid (show L.set i (nth L i) = L by
    unfold nth
    rw [List.getD_eq_getElem?_getD, List.getElem?_eq_getElem hi]
    exact List.set_getElem_self hi)
  clear h
  generalize nth L i = x at *
  go_enter Try.func41, Try.ntmps41
  go_wp2_with fail
  go_region
  go_end0
  obtain ⟨h1, t1⟩ := H.out.store (i := i) x
  rw [HS.out] at h1
  obtain ⟨h2, t2⟩ := h1.store (i := i) x
  rw [HS.out] at h2
  exact ⟨rfl, World.ownsRow.drew h2, (t1.trans t2).trans (Turn.of_ext (Ext.drew _))⟩
/-- a pile: its own cell, its row -/
structure PileAt (w : World) (B pb : Nat) (v : Value) (L : List Ent) : Prop where
  row : w.heap[pb]? = some (.cells #[v] 48 (0, 0))
  ent : EntRow w B v L
  ne : ∀ b, v.ownBlock = some b → b ≠ pb
def fp (v : Value) : List Nat := v.ownBlock.toList
/-- what a call does to a pile's blocks -/
def PStep (w w' : World) (pb : Nat) (v v' : Value) : Prop := Turn (pb :: fp v) w w' ∧ ∀ b, v'.ownBlock = some b → v.ownBlock = some b ∨ w.heap.size ≤ b
theorem mem_fp {v : Value} {b : Nat} : b ∈ fp v ↔ v.ownBlock = some b := by unfold fp; cases v.ownBlock <;> simp [eq_comm]
theorem PStep.refl (w : World) (pb : Nat) (v : Value) : PStep w w pb v v := ⟨Turn.refl _ _, fun b h => .inl h⟩
theorem PStep.trans {a b c : World} {pb : Nat} {v v' v'' : Value} (h : PStep a b pb v v') (k : PStep b c pb v' v'') : PStep a c pb v v'' := by
  refine ⟨⟨k.1.os.trans h.1.os, k.1.tape.trans h.1.tape, k.1.output.trans h.1.output, Nat.le_trans h.1.size k.1.size, fun i hi hm => ?_⟩, fun x hx => ?_⟩
  · rw [k.1.block i (Nat.lt_of_lt_of_le hi h.1.size) (fun hm' => hm ?_), h.1.block i hi hm]
    rcases List.mem_cons.1 hm' with rfl | hm'
    · exact .head _
    · rcases h.2 i (mem_fp.1 hm') with h1 | h1
      · exact .tail _ (mem_fp.2 h1)
      · omega
  · rcases k.2 x hx with h1 | h1
    · exact h.2 x h1
    · exact .inr (Nat.le_trans h.1.size h1)
theorem PStep.of_ext {w w' : World} (e : Ext w w') (pb : Nat) (v : Value) : PStep w w' pb v v := ⟨Turn.of_ext e, fun b h => .inl h⟩
theorem PileAt.ext {w w' : World} {B pb : Nat} {v : Value} {L : List Ent} (h : PileAt w B pb v L) (e : Ext w w') : PileAt w' B pb v L :=
  ⟨by rw [Below.block e pb (Array.getElem?_eq_some_iff.1 h.row).1]; exact h.row, h.ent.turn (Turn.of_ext (bs := []) e) (by simp), h.ne⟩
theorem PileAt.lt {w : World} {B pb : Nat} {v : Value} {L : List Ent} (h : PileAt w B pb v L) : pb < w.heap.size := (Array.getElem?_eq_some_iff.1 h.row).1
theorem PileAt.cell {w : World} {B pb : Nat} {v : Value} {L : List Ent} (h : PileAt w B pb v L) : w.cell? ⟨pb, 0, none⟩ = some v ∧ w.frozen? ⟨pb, 0, none⟩ = false := by
  constructor
  · simp [World.cell?, h.row]
  · simp [World.frozen?, h.row]
theorem len_pile {w : World} {q : Option Addr} {n c : Nat} : Calls Try.prog 37 #[.slice q n c] w fun e w' => e = .returned (.int .i64 n) ∧ w = w' := by
  go_enter Try.func37, Try.ntmps37
  go_wp2
  go_ret
  exact ⟨rfl, rfl⟩
theorem wrap_nil {P : Program} (w : World) (ats : Array TypeId) (ty : TypeId) (a : Addr) (s t : String) : (Builtin.ssaWrapNilChk_ ats ty #[.pointer (some a), strVal s, strVal t]).run P w = .ok (.pointer (some a)) w := rfl
theorem method_val {P : Program} {w : World} {a : Addr} {v : Value} {T E : TypeId} {F : FuncId} {name : String} {i : TypeInfo} {m : Method} (hi : P.info? T = some i) (hm : i.methods.find? (·.name == name) = some m) (hp : m.path = #[]) (hf : m.func = some (F, false))
    (ht : P.underlying T = some (.pointer E)) (hl : (loadVar E a).run P w = .ok v w) (n : Nat) : (method (n + 1) T (.pointer (some a)) name).run P w = .ok (F, v) w := by
  simp [method, typeInfo, hi, hm, hp, hf, follow, receiverAt, run_underlying ht, Place.get, wrap_nil, asAddr, hl]
theorem method_ptr {P : Program} {w : World} {a : Addr} {T E : TypeId} {F : FuncId} {name : String} {i : TypeInfo} {m : Method} (hi : P.info? T = some i) (hm : i.methods.find? (·.name == name) = some m) (hp : m.path = #[]) (hf : m.func = some (F, true))
    (ht : P.underlying T = some (.pointer E)) (n : Nat) : (method (n + 1) T (.pointer (some a)) name).run P w = .ok (F, .pointer (some a)) w := by
  simp [method, typeInfo, hi, hm, hp, hf, follow, receiverAt, run_underlying ht, Place.get]
/-- a method's row, as one closed fact -/
def rowOf (P : Program) (T : TypeId) (name : String) : Option (List FieldStep × Option (FuncId × Bool)) := (P.info? T).bind fun i => (i.methods.find? (·.name == name)).map fun m => (m.path.toList, m.func)
theorem row_parts {P : Program} {T : TypeId} {name : String} {F : FuncId} {b : Bool} (h : rowOf P T name = some ([], some (F, b))) : ∃ i m, P.info? T = some i ∧ i.methods.find? (·.name == name) = some m ∧ m.path = #[] ∧ m.func = some (F, b) := by
  unfold rowOf at h
  obtain ⟨i, hi, h⟩ := Option.bind_eq_some_iff.1 h
  obtain ⟨m, hm, h⟩ := Option.map_eq_some_iff.1 h
  simp only [Prod.mk.injEq] at h
  exact ⟨i, m, hi, hm, by simpa using h.1, h.2⟩
theorem load_pile {w : World} {pb : Nat} {q : Option Addr} {n c : Nat} (h : w.cell? ⟨pb, 0, none⟩ = some (.slice q n c)) : (loadVar 48 ⟨pb, 0, none⟩).run Try.prog w = .ok (.slice q n c) w := by
  simp [go_sem, loadVar, h]
theorem m_len {w : World} {pb : Nat} {q : Option Addr} {n c : Nat} (h : w.cell? ⟨pb, 0, none⟩ = some (.slice q n c)) (k : Nat) : (method (k + 1) 46 (.pointer (some ⟨pb, 0, none⟩)) "Len").run Try.prog w = .ok (37, .slice q n c) w := by
  obtain ⟨i, m, h1, h2, h3, h4⟩ := row_parts (show rowOf Try.prog 46 "Len" = some ([], some (37, false)) by kernel_rfl)
  exact method_val h1 h2 h3 h4 Try.underlying46 (load_pile h) k
theorem m_less {w : World} {pb : Nat} {q : Option Addr} {n c : Nat} (h : w.cell? ⟨pb, 0, none⟩ = some (.slice q n c)) (k : Nat) : (method (k + 1) 46 (.pointer (some ⟨pb, 0, none⟩)) "Less").run Try.prog w = .ok (38, .slice q n c) w := by
  obtain ⟨i, m, h1, h2, h3, h4⟩ := row_parts (show rowOf Try.prog 46 "Less" = some ([], some (38, false)) by kernel_rfl)
  exact method_val h1 h2 h3 h4 Try.underlying46 (load_pile h) k
theorem m_swap {w : World} {pb : Nat} {q : Option Addr} {n c : Nat} (h : w.cell? ⟨pb, 0, none⟩ = some (.slice q n c)) (k : Nat) : (method (k + 1) 46 (.pointer (some ⟨pb, 0, none⟩)) "Swap").run Try.prog w = .ok (41, .slice q n c) w := by
  obtain ⟨i, m, h1, h2, h3, h4⟩ := row_parts (show rowOf Try.prog 46 "Swap" = some ([], some (41, false)) by kernel_rfl)
  exact method_val h1 h2 h3 h4 Try.underlying46 (load_pile h) k
theorem m_find {w : World} {pb : Nat} {q : Option Addr} {n c : Nat} (h : w.cell? ⟨pb, 0, none⟩ = some (.slice q n c)) (k : Nat) : (method (k + 1) 46 (.pointer (some ⟨pb, 0, none⟩)) "stockpot/order.find").run Try.prog w = .ok (43, .slice q n c) w := by
  obtain ⟨i, m, h1, h2, h3, h4⟩ := row_parts (show rowOf Try.prog 46 "stockpot/order.find" = some ([], some (43, false)) by kernel_rfl)
  exact method_val h1 h2 h3 h4 Try.underlying46 (load_pile h) k
theorem m_all {w : World} {pb : Nat} {q : Option Addr} {n c : Nat} (h : w.cell? ⟨pb, 0, none⟩ = some (.slice q n c)) (k : Nat) : (method (k + 1) 46 (.pointer (some ⟨pb, 0, none⟩)) "stockpot/order.all").run Try.prog w = .ok (42, .slice q n c) w := by
  obtain ⟨i, m, h1, h2, h3, h4⟩ := row_parts (show rowOf Try.prog 46 "stockpot/order.all" = some ([], some (42, false)) by kernel_rfl)
  exact method_val h1 h2 h3 h4 Try.underlying46 (load_pile h) k
theorem m_push {w : World} {pb : Nat} (k : Nat) : (method (k + 1) 46 (.pointer (some ⟨pb, 0, none⟩)) "Push").run Try.prog w = .ok (40, .pointer (some ⟨pb, 0, none⟩)) w := by
  obtain ⟨i, m, h1, h2, h3, h4⟩ := row_parts (show rowOf Try.prog 46 "Push" = some ([], some (40, true)) by kernel_rfl)
  exact method_ptr h1 h2 h3 h4 Try.underlying46 k
theorem m_pop {w : World} {pb : Nat} (k : Nat) : (method (k + 1) 46 (.pointer (some ⟨pb, 0, none⟩)) "Pop").run Try.prog w = .ok (39, .pointer (some ⟨pb, 0, none⟩)) w := by
  obtain ⟨i, m, h1, h2, h3, h4⟩ := row_parts (show rowOf Try.prog 46 "Pop" = some ([], some (39, true)) by kernel_rfl)
  exact method_ptr h1 h2 h3 h4 Try.underlying46 k
theorem EntRow.nilOr {w : World} {B : Nat} {v : Value} {L : List Ent} (h : EntRow w B v L) : ∃ q c, v = .slice q L.length c ∧ L.length ≤ c ∧ c ≤ maxLen := by
  rcases h.2 with ⟨h1, h2⟩ | ⟨b, c, cur, h1, hb, hg, h2, h3, h4, h5⟩
  · exact ⟨none, 0, by rw [h1, h2], by omega, Nat.zero_le _⟩
  · exact ⟨_, c, h1, h2, h3⟩
theorem info_ent : (Try.prog.info? 56).map (fun i => (i.zero, i.size, i.bytes)) = some (some (.agg #[.int .i64 0, .int .i64 0]), 2, 16) := by kernel_rfl
/-- one entry appended to a pile's row, at a step of a region that draws -/
theorem step_append_ent {w : World} {ops : Array Oper} {o : Oper} {a : Act} {K : Act → World → Prop} {Q : Exit → Act → World → Prop} {E : Prop} (hgd : o.guard = none) (s x : Operand)
    (ho : o.op = .call { callee := .builtin .append, args := #[s, x], argTypes := #[48, 48] })
    (base : Nat) (v : Value) (L : List Ent) (k r : Int) (g : Nat) (hs : a.eval s = v) (hown : EntRow w base v L) (hx : a.eval x = .slice (some ⟨g, 0, none⟩) 1 1) (hg : w.heap[g]? = some (.cells #[.int .i64 k, .int .i64 r] 56 (0, 0)))
    (h63 : L.length ≤ 1000000) (hbase : base ≤ w.heap.size)
    (h : ∀ v' w', EntRow w' base v' (L ++ [(k, r)]) → w.grownBy w' v.ownBlock → (v'.ownBlock = v.ownBlock ∨ v'.ownBlock = some w.heap.size) → K (a.put o.dst v') w') :
    if Region.wanted o (yielded ops a.tmps) = true then Oper.wp Try.prog o a w K Q else E := by
  have hw : Region.wanted o (yielded ops a.tmps) = true := by simp [Region.wanted, hgd]
  rw [if_pos hw]
  obtain ⟨i0, hi, hz0, hz1, hz2⟩ := info_parts info_ent
  obtain ⟨v', w', hr, h3, h4, _, h5⟩ := run_append_own_at (P := Try.prog) w base 48 o.type 56 i0 _ 2 16 Try.underlying48 hi hz0 hz1 hz2 rfl (by decide) v L.length (L.flatMap entC) hown
    ⟨g, 0, none⟩ 1 1 [.int .i64 k, .int .i64 r] rfl (World.news_of_block (cs := #[.int .i64 k, .int .i64 r]) hg) (by intro u hu; simp at hu; rcases hu with rfl | rfl <;> rfl) (by unfold maxLen; omega) (by omega) hbase
  have h2 : EntRow w' base v' (L ++ [(k, r)]) := by unfold EntRow; rw [List.length_append, List.flatMap_append]; exact h3
  unfold Oper.wp execOp
  simp only [ho, resolve, invoke, builtin, Sem.run_bind, Sem.run_pure, Result.andThen_ok, List.map_toArray, List.map_cons, List.map_nil, hs, hx, hr]
  exact h v' w' h2 h4 h5
theorem Turn.frozen {bs : List Nat} {w w' : World} (h : Turn bs w w') {a : Addr} {v : Value} (ha : a.block ∉ bs) (hc : w.cell? a = some v) : w'.frozen? a = w.frozen? a := by
  have hl : a.block < w.heap.size := by
    by_cases hl : a.block < w.heap.size
    · exact hl
    · have : w.heap[a.block]? = none := Array.getElem?_eq_none (by omega)
      simp [World.cell?, this] at hc
  exact World.frozen?_of_block (h.block a.block hl ha)
theorem keep4' {w' : World} {a c d : Addr} {v x y : Value} (h : w'.cell? a = some v) (f : w'.frozen? a = false) (hc : w'.cell? c = some x) (hd : w'.cell? d = some y) : w'.cell? a = some v ∧ w'.frozen? a = false ∧ w'.cell? c = some x ∧ w'.cell? d = some y := ⟨h, f, hc, hd⟩
theorem keep4'' {w w' : World} {a c d : Addr} {v x y : Value} (h : w.cell? a = some v) (f : w.frozen? a = false) (hc : w.cell? c = some x) (hd : w.cell? d = some y) (e : Ext w w') : w'.cell? a = some v ∧ w'.frozen? a = false ∧ w'.cell? c = some x ∧ w'.cell? d = some y :=
  ⟨e.cell h, (e.frozen h).trans f, e.cell hc, e.cell hd⟩
theorem keep4 {w w' : World} {a c d : Addr} {v x y : Value} (h : w.cell? a = some v) (f : w.frozen? a = false) (hc : w.cell? c = some x) (hd : w.cell? d = some y) (e : Ext w w') : w'.cell? a = some v ∧ w'.frozen? a = false ∧ w'.cell? c = some x ∧ w'.cell? d = some y ∧ Ext w w' :=
  ⟨e.cell h, (e.frozen h).trans f, e.cell hc, e.cell hd, e⟩
theorem PileAt.newRow {w w' : World} {B pb : Nat} {v v' : Value} {L L' : List Ent} (h : PileAt w B pb v L) (hB : B ≤ w.heap.size) (hg : w.heap.size ≤ w'.heap.size) (t : Turn (fp v) w w') (hv : EntRow w' B v' L') (ho : ∀ b, v'.ownBlock = some b → v.ownBlock = some b ∨ w.heap.size ≤ b) :
    PileAt (w'.setCell ⟨pb, 0, none⟩ v') B pb v' L' ∧ PStep w (w'.setCell ⟨pb, 0, none⟩ v') pb v v' := by
  have hlt := h.lt
  have hpf : pb ∉ fp v := fun hm => h.ne pb (mem_fp.1 hm) rfl
  have hvn : ∀ b, v'.ownBlock = some b → b ≠ pb := fun b hb => by
    rcases ho b hb with h1 | h1
    · exact h.ne b h1
    · omega
  have hrow : w'.heap[pb]? = some (.cells #[v] 48 (0, 0)) := by rw [t.block pb hlt hpf]; exact h.row
  have u : Turn [pb] w' (w'.setCell ⟨pb, 0, none⟩ v') := (Turn.refl _ _).setCell (.inl (by simp)) _
  refine ⟨⟨?_, hv.turn u (fun b hb => ?_), hvn⟩, (t.mono fun b hb => .tail _ hb).trans (u.mono fun b hb => by simp at hb; subst hb; exact .head _), ho⟩
  · rw [heap_setCell_same w' pb 0 _ _ _ hrow]; rfl
  · have := hvn b hb
    simp; omega
theorem t_assert (k r : Int) (w : World) : (Instr.typeAssert (.iface 56 (.agg #[.int .i64 k, .int .i64 r])) 20 56 true).run Try.prog w = .ok (.tuple #[.agg #[.int .i64 k, .int .i64 r], .bool true]) w := by kernel_rfl
theorem push_is {w : World} {B pb : Nat} {v : Value} {L : List Ent} (h : PileAt w B pb v L) (hB : B ≤ w.heap.size) (hl : L.length ≤ 1000) (k r : Int) :
    Calls Try.prog 40 #[.pointer (some ⟨pb, 0, none⟩), .iface 56 (.agg #[.int .i64 k, .int .i64 r])] w fun e w' => e = .returned (.tuple #[]) ∧ ∃ v', PileAt w' B pb v' (L ++ [(k, r)]) ∧ PStep w w' pb v v' := by
  obtain ⟨q, c, hv, hc1, hc2⟩ := h.ent.nilOr
  obtain ⟨p0, f0⟩ := h.cell
  have H := Lib.hid h
  have hlt := h.lt
  have hta := fun W => t_assert k r W
  clear h hv hc1 hc2
  go_enter Try.func40, Try.ntmps40
  go_wp2_with fail
  have hbx := heap_alloc_new w (.cells #[.int .i64 k, .int .i64 r] 56)
  have hszb : (w.alloc (.cells #[.int .i64 k, .int .i64 r] 56)).heap.size = w.heap.size + 1 := by simp
  have e0 : Ext w (w.alloc (.cells #[.int .i64 k, .int .i64 r] 56)) := Ext.alloc _ _
  generalize w.alloc (.cells #[.int .i64 k, .int .i64 r] 56) = W at *
  have P0 := e0.cell p0
  have F0 := (e0.frozen p0).trans f0
  have X0 : W.cell? ⟨w.heap.size, 0, none⟩ = some (.int .i64 k) := by simp [World.cell?, hbx]
  have X1 : W.cell? ⟨w.heap.size, 1, none⟩ = some (.int .i64 r) := by simp [World.cell?, hbx]
  clear hbx
  refine wp_region_noPanic ?_
  refine wp_region_last 8 (S := (fun w' => w'.cell? ⟨pb, 0, none⟩ = some v ∧ w'.frozen? ⟨pb, 0, none⟩ = false ∧ w'.cell? ⟨w.heap.size, 0, none⟩ = some (.int .i64 k) ∧ w'.cell? ⟨w.heap.size, 1, none⟩ = some (.int .i64 r))) (by kernel_rfl) (by kernel_rfl) _ rfl ?_ (fun hHeld => ?_)
  · (first | exact keep4'' P0 F0 X0 X1 (Ext.drew _) | exact keep4'' P0 F0 X0 X1 e2 | exact hS1)
  simp only [List.take_succ_cons, List.take_zero]
  refine wpAnyH_take (i := 0) (v := ?v1) rfl (by kernel_rfl) (by kernel_rfl) (by kernel_rfl) (fun _ _ _ h => h) (Or.inl ⟨by rfl, ?y1⟩) (by assumption) ?r1
  case y1 => intro w hSw; (try dsimp only at hSw); go_simp; (try with_reducible rfl)
  (try simp only [Act.put, List.setIfInBounds_toArray, List.set_cons_zero, List.set_cons_succ, List.getElem_toArray, List.getElem_cons_zero, List.getElem_cons_succ])
  refine wpAnyH_take (i := 1) (v := ?v2) rfl (by kernel_rfl) (by kernel_rfl) (by kernel_rfl) (fun _ _ _ h => h) (Or.inl ⟨by rfl, ?y2⟩) (by assumption) ?r2
  case y2 => intro w hSw; (try dsimp only at hSw); go_simp; (try with_reducible rfl)
  (try simp only [Act.put, List.setIfInBounds_toArray, List.set_cons_zero, List.set_cons_succ, List.getElem_toArray, List.getElem_cons_zero, List.getElem_cons_succ])
  refine wpAnyH_take (i := 2) (v := ?v3) rfl (by kernel_rfl) (by kernel_rfl) (by kernel_rfl) (fun _ _ _ h => h) (Or.inl ⟨by rfl, ?y3⟩) (by assumption) ?r3
  case y3 => intro w hSw; (try dsimp only at hSw); go_simp; (try with_reducible rfl)
  (try simp only [Act.put, List.setIfInBounds_toArray, List.set_cons_zero, List.set_cons_succ, List.getElem_toArray, List.getElem_cons_zero, List.getElem_cons_succ])
  refine wpAnyH_take (i := 3) (v := ?v4) rfl (by kernel_rfl) (by kernel_rfl) (by kernel_rfl) (fun _ _ _ h => h) (Or.inl ⟨by rfl, ?y4⟩) (by assumption) ?r4
  case y4 => intro w hSw; (try dsimp only at hSw); go_simp; (try with_reducible rfl)
  (try simp only [Act.put, List.setIfInBounds_toArray, List.set_cons_zero, List.set_cons_succ, List.getElem_toArray, List.getElem_cons_zero, List.getElem_cons_succ])
  refine wpAnyH_take (i := 4) (v := ?v5) rfl (by kernel_rfl) (by kernel_rfl) (by kernel_rfl) (fun _ _ _ h => h) (Or.inl ⟨by rfl, ?y5⟩) (by assumption) ?r5
  case y5 => intro w hSw; (try dsimp only at hSw); go_simp; (try with_reducible rfl)
  (try simp only [Act.put, List.setIfInBounds_toArray, List.set_cons_zero, List.set_cons_succ, List.getElem_toArray, List.getElem_cons_zero, List.getElem_cons_succ])
  refine wpAnyH_ready (rs := [5]) (by kernel_rfl) (by simp) ?_
  refine AllReadyH.cons rfl (fun K hK => ?_) AllReadyH.nil
  have e2 : Ext W (W.alloc (.cells #[.int .i64 k, .int .i64 r] 56)).drew := Ext.trans (Ext.alloc _ _) (Ext.drew _)
  go_simp
  refine hK.out _ _ ?s6 (fun hHeld => ?k6)
  case s6 => ((try dsimp only); (first | exact keep4'' P0 F0 X0 X1 (Ext.drew _) | exact keep4'' P0 F0 X0 X1 e2 | exact hS1))
  clear hK K
  (try simp only [Act.put, List.setIfInBounds_toArray, List.set_cons_zero, List.set_cons_succ, List.getElem_toArray, List.getElem_cons_zero, List.getElem_cons_succ])
  refine wpAnyH_ready (rs := [6]) (by kernel_rfl) (by simp) ?_
  refine AllReadyH.cons rfl (fun K hK => ?_) AllReadyH.nil
  refine step_append_ent (by rfl) _ _ (by rfl) B v L k r (w.heap.size + 1) (by rfl) (H.out.ext (e0.trans e2)).ent (by rfl) (by have h3 := heap_alloc_new W (.cells #[.int .i64 k, .int .i64 r] 56); rw [hszb] at h3; exact h3) (by omega) (by have := e2.size; omega) ?_
  intro v1 w1 hown1 hgrow1 hown2
  have t1 : Turn (fp v) W w1 := (Turn.of_ext e2).trans (Turn.of_grown hgrow1 fun b hb => .inl (mem_fp.2 hb))
  have hnew : ∀ b, v1.ownBlock = some b → v.ownBlock = some b ∨ w.heap.size ≤ b := fun b hb => by
    rcases hown2 with h | h
    · exact .inl (by rw [← h]; exact hb)
    · rw [h] at hb
      obtain rfl := Option.some.inj hb
      exact .inr (by have := e2.size; omega)
  have hpv : pb ∉ fp v := fun hm => H.out.ne pb (mem_fp.1 hm) rfl
  have hxv : w.heap.size ∉ fp v := fun hm => by
    have := (H.out.ent.lt _ (mem_fp.1 hm)).2
    omega
  have hS1 := keep4' (t1.cell hpv P0) ((t1.frozen hpv P0).trans F0) (t1.cell hxv X0) (t1.cell hxv X1)
  refine hK.out _ _ ?s7 (fun hHeld => ?k7)
  case s7 => ((try dsimp only); (first | exact keep4'' P0 F0 X0 X1 (Ext.drew _) | exact keep4'' P0 F0 X0 X1 e2 | exact hS1))
  clear hK K
  (try simp only [Act.put, List.setIfInBounds_toArray, List.set_cons_zero, List.set_cons_succ, List.getElem_toArray, List.getElem_cons_zero, List.getElem_cons_succ])
  refine wpAnyH_take (i := 7) (v := ?v8) rfl (by kernel_rfl) (by kernel_rfl) (by kernel_rfl) (fun _ _ _ h => h) (Or.inl ⟨by rfl, ?y8⟩) (by assumption) ?r8
  case y8 => intro w hSw; (try dsimp only at hSw); go_simp; (try with_reducible rfl)
  (try simp only [Act.put, List.setIfInBounds_toArray, List.set_cons_zero, List.set_cons_succ, List.getElem_toArray, List.getElem_cons_zero, List.getElem_cons_succ])
  refine wpAnyH_done (by kernel_rfl) ?_ _
  show wpList _ _ _ _ _ _
  obtain ⟨hp2, hf2, _, _⟩ := hS1
  have HR := Lib.hid (H.out.newRow hB (Nat.le_trans e0.size t1.size) ((Turn.of_ext e0).trans t1) hown1 hnew)
  obtain ⟨q2, n2, c2, hv2⟩ : ∃ q n c, v1 = .slice q n c := by obtain ⟨q2, c2, h, _⟩ := EntRow.nilOr hown1; exact ⟨q2, _, c2, h⟩
  subst hv2
  clear hown1 hgrow1 hown2 hnew
  go_wp2
  refine NoPanic.normal ?_
  go_wp2
  go_end0
  exact ⟨rfl, _, HR.out.1, HR.out.2⟩
/-- a queue: its cell holds the pile -/
def QueueAt (w : World) (qb pb : Nat) : Prop := w.heap[qb]? = some (.cells #[.iface 46 (.pointer (some ⟨pb, 0, none⟩))] 52 (0, 0))
theorem queue_len {w : World} {qb pb B : Nat} {v : Value} {L : List Ent} (hq : QueueAt w qb pb) (h : PileAt w B pb v L) : Calls Try.prog 15 #[.pointer (some ⟨qb, 0, none⟩)] w fun e w' => e = .returned (.int .i64 L.length) ∧ w = w' := by
  have q0 : w.cell? ⟨qb, 0, none⟩ = some (.iface 46 (.pointer (some ⟨pb, 0, none⟩))) := by simp [World.cell?, show w.heap[qb]? = _ from hq]
  obtain ⟨p0, _⟩ := h.cell
  obtain ⟨q, c, rfl, hc1, hc2⟩ := h.ent.nilOr
  have hml : (method 215 46 (.pointer (some ⟨pb, 0, none⟩)) "Len").run Try.prog w = .ok (37, .slice q L.length c) w := m_len p0 214
  clear h hq
  go_enter Try.func15, Try.ntmps15
  go_wp2_with fail
  refine len_pile.mono ?_; rintro e w' ⟨rfl, rfl⟩
  go_wp2
  go_ret
  exact ⟨rfl, rfl⟩
end Go.Proofs.Ytgapjglijpdkmaa
