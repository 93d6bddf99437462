/- Proved here: the contracts and laws of GcC, GcD, GcE, GcF, GcG, FrmQ, FrmR, FrmS, FrmT, CodD, OpB, CodE of this claim, each beneath its own remark; conditions: those that each theorem names. -/
import Derived.Test.YtgiopklnielglaaDoorM8
import Derived.Test.YtgiopklnielglaaDoorM2
import Derived.Test.YtgiopklnielglaaDoorM1
import Derived.Test.YtgiopklnielglaaDoorM3
import Derived.Test.YtgiopklnielglaaDoorM6
import Derived.Shelf.SlicesG.SearchI
import Derived.Deep.QuietTactic
/- A mover moves what a word leads to. -/
namespace Go.Proofs.YtgiopklnielglaaDoor
open Go.RowKit Go.Maps Arena
set_option maxHeartbeats 4000000
set_option maxRecDepth 100000
theorem moved_bits {t : Nat} (ht : t ≤ 4000) : movedW t % 256 = 5 ∧ W64 (movedW t) ∧ bits .and .u64 (movedW t / 256) 16777215 = (t : Int) := by
  have h1 : W64 (movedW t) := by unfold W64 movedW; omega
  refine ⟨by unfold movedW; omega, h1, ?_⟩
  rw [and_tag ⟨by have := h1.1; omega, by have := h1.2; omega⟩]
  unfold movedW
  omega
theorem moved_or {t : Nat} (ht : t ≤ 4000) : bits .or .u64 5 ((t : Int) * 256) = movedW t := by
  unfold movedW
  have e := or_apart 8 5 (t * 256) (by omega) (by omega) (by omega) (by omega)
  rw [show ((5 : Nat) : Int) = (5 : Int) from rfl, show ((t * 256 : Nat) : Int) = (t : Int) * 256 by omega] at e
  rw [e]
  omega
theorem q_gen {Q : Exit → Act → World → Prop} {e : Exit} {a : Act} {w : World} (F : World → Prop) (hF : F w) (h : ∀ W, F W → Q e a W) : Q e a w := h w hF
theorem Sp.turn {w w' : World} {p g bm n : Nat} {ws : List Int} {R : List (Nat × Nat)} {ba H sp : Nat} {A B : List Int} (h : Sp w p g bm n ws R ba H sp A B) {mb : Nat} (t : Turn [mb] w w') (hlo : p < mb ∧ g < mb ∧ bm < mb) : Sp w' p g bm n ws R ba H sp A B :=
  ⟨h.a.turn t (by simp; omega) (by simp; omega) (by simp; omega), h.lw, h.reg, h.one, h.lA, h.lB, h.hi, h.wf⟩
/-- what one more word's object makes of the row of objects -/
def AddL (F F' : List (Nat × Ob)) (L L' : List Ob) : Prop := (F' = F ∧ L' = L) ∨ ∃ y, F' = F ++ [y] ∧ L' = L ++ [y.2]
section
variable {w : World} {p g bm n mb : Nat} {ws : List Int} {R : List (Nat × Nat)} {ba H sp : Nat} {Hs Fin F : List (Nat × Ob)} {L : List Ob} {A B : List Int}
end
end Go.Proofs.YtgiopklnielglaaDoor
/- A mover moves any word; it scans what was moved. -/
namespace Go.Proofs.YtgiopklnielglaaDoor
open Go.RowKit Go.Maps Arena
set_option maxHeartbeats 8000000
set_option maxRecDepth 100000
section
variable {w : World} {p g bm n mb : Nat} {ws : List Int} {R : List (Nat × Nat)} {ba H sp : Nat} {Hs Fin F : List (Nat × Ob)} {L : List Ob} {A B : List Int}
end
end Go.Proofs.YtgiopklnielglaaDoor
/- A mover scans what was moved. -/
namespace Go.Proofs.YtgiopklnielglaaDoor
open Go.RowKit Go.Maps Arena
set_option maxHeartbeats 8000000
set_option maxRecDepth 100000
section
variable {w : World} {p g bm n mb : Nat} {ws : List Int} {R : List (Nat × Nat)} {ba H sp : Nat} {Hs Fin : List (Nat × Ob)}
theorem sizeF_take_le (F : List (Nat × Ob)) (i : Nat) : sizeF (F.take i) ≤ sizeF F := by
  have e : sizeF F = sizeF (F.take i) + sizeF (F.drop i) := by rw [← sizeF_app, List.take_append_drop]
  omega
theorem sizeF_take_succ {F : List (Nat × Ob)} {i : Nat} {y : Nat × Ob} (hy : F[i]? = some y) : sizeF (F.take (i + 1)) = sizeF (F.take i) + wordsO y.2 := by
  obtain ⟨hi, rfl⟩ := List.getElem?_eq_some_iff.1 hy
  rw [List.take_succ_eq_append_getElem hi, sizeF_app]
  simp [sizeF]
theorem sizeF_take_pre {F G : List (Nat × Ob)} (h : F <+: G) {i : Nat} (hi : i ≤ F.length) : sizeF (G.take i) = sizeF (F.take i) := by
  obtain ⟨T, rfl⟩ := h
  rw [List.take_append_of_le_length hi]
/-- a field that is to be moved stands as it was -/
theorem field_at {f : Int → Int} {o1 : Nat} {F : List (Nat × Ob)} {A B : List Int} {i j : Nat} {y : Nat × Ob} (st : MvSt o1 H Hs Fin F (objsAt f i j F) A B) (hy : F[i]? = some y) (h2 : y.2.kind ≠ 2) {x : Int} (hx : y.2.fields[j]? = some x) : B[sizeF (F.take i) + (1 + j)]? = some x := by
  have hL : (objsAt f i j F)[i]? = some (mapUp f j y.2) := by rw [objsAt_get, hy]; simp
  have hm := st.may _ (List.mem_of_getElem? hL)
  have hlt : 1 + j < wordsO (mapUp f j y.2) := by
    rw [mapUp_words]
    have hjl := (List.getElem?_eq_some_iff.1 hx).1
    rw [mapUp_may] at hm
    rw [fields_words hm (by intro e; rw [e] at hjl; simp at hjl)]
    omega
  have := st.getB hL hlt
  rw [objsAt_sizes] at this
  rw [this]
  exact lay_get (o := mapUp f j y.2) h2 (mapUp_get f hx)
theorem field_set {f : Int → Int} {o1 : Nat} {F : List (Nat × Ob)} {A B : List Int} {i j : Nat} {y : Nat × Ob} (st : MvSt o1 H Hs Fin F (objsAt f i j F) A B) (hy : F[i]? = some y) (h2 : y.2.kind ≠ 2) {x : Int} (hx : y.2.fields[j]? = some x) : MvSt o1 H Hs Fin F (objsAt f i (j + 1) F) A (B.set (sizeF (F.take i) + (1 + j)) (f x)) := by
  have hL : (objsAt f i j F)[i]? = some (mapUp f j y.2) := by rw [objsAt_get, hy]; simp
  have hm := st.may _ (List.mem_of_getElem? hL)
  have hlt : 1 + j < wordsO (mapUp f j y.2) := by
    rw [mapUp_words]
    have hjl := (List.getElem?_eq_some_iff.1 hx).1
    rw [mapUp_may] at hm
    rw [fields_words hm (by intro e; rw [e] at hjl; simp at hjl)]
    omega
  have := st.setB hL hlt (lay_set f h2 hx) (by rw [mapUp_words, mapUp_words]) (by rw [mapUp_may, ← mapUp_may f j]; exact hm)
  rw [objsAt_sizes, objsAt_set f hy] at this
  exact this
/-- the first word of what is scanned is its head -/
theorem head_at {f : Int → Int} {o1 : Nat} {F : List (Nat × Ob)} {A B : List Int} {i j : Nat} {y : Nat × Ob} (st : MvSt o1 H Hs Fin F (objsAt f i j F) A B) (hy : F[i]? = some y) : B[sizeF (F.take i) + 0]? = some (headO y.2) := by
  have hL : (objsAt f i j F)[i]? = some (mapUp f j y.2) := by rw [objsAt_get, hy]; simp
  have := st.getB hL (k := 0) (by rw [mapUp_words]; exact wordsO_pos _)
  rw [objsAt_sizes] at this
  rw [this]
  unfold layO
  rw [mapUp_head]
  rfl
/-- the rows of objects behind a move inside a scan -/
theorem addL_at {f : Int → Int} {F F' : List (Nat × Ob)} {i j : Nat} {L' : List Ob} (h : AddL F F' (objsAt f i j F) L') (hi : i < F.length) : L' = objsAt f i j F' := by
  rcases h with ⟨rfl, rfl⟩ | ⟨y, rfl, rfl⟩
  · rfl
  · exact (objsAt_app f hi y).symm
theorem addL_pre {F F' : List (Nat × Ob)} {L L' : List Ob} (h : AddL F F' L L') : F <+: F' := by
  rcases h with ⟨rfl, rfl⟩ | ⟨y, rfl, rfl⟩
  · exact List.prefix_rfl
  · exact List.prefix_append _ _
end
end Go.Proofs.YtgiopklnielglaaDoor
/- A mover wipes a semispace. -/
namespace Go.Proofs.YtgiopklnielglaaDoor
open Go.RowKit Go.Maps Arena
set_option maxHeartbeats 8000000
set_option maxRecDepth 100000
section
variable {w : World} {p g bm n mb : Nat} {ws : List Int} {R : List (Nat × Nat)} {ba H sp : Nat}
theorem wiped_set {A : List Int} {k : Nat} (hk : k < A.length) : (List.replicate k 0 ++ A.drop k).set k 0 = List.replicate (k + 1) (0 : Int) ++ A.drop (k + 1) := by
  rw [List.set_append_right _ _ (by simp), List.length_replicate, Nat.sub_self, List.drop_eq_getElem_cons hk, List.set_cons_zero, List.replicate_succ', List.append_assoc]
  rfl
end
end Go.Proofs.YtgiopklnielglaaDoor
/- gc.may: may a heap be, and its roots. -/
namespace Go.Proofs.YtgiopklnielglaaDoor
open Go.RowKit Go.Maps Arena
set_option maxHeartbeats 4000000
set_option maxRecDepth 100000
theorem search_none (a : Option Addr) (c : Nat) (x : Int) (w : World) : Calls Tryd.prog 50 #[.slice a 0 c, .int .i64 x] w fun e w' => e = .returned (.tuple #[.int .i64 0, .bool false]) ∧ Ext w w' := by
  go_enter Tryd.func50, Tryd.ntmps50
  go_wp2_with fail
  go_loopw [7, 8] (fun s7 s8 wr => s7 = .int .i64 0 ∧ s8 = .int .i64 0 ∧ Ext w wr) (fun _ _ _ => 0)
  case atStart => exact ⟨rfl, rfl, by first | exact Ext.refl _ | exact Ext.drew _⟩
  case round =>
    obtain ⟨rfl, rfl, hx⟩ := hrel
    have HX := Lib.hid hx
    clear hx
    go_wp2_with fail
    go_ret2
    exact ⟨rfl, by first | exact HX.out | exact HX.out.trans (Ext.drew _)⟩
theorem search_is {w : World} {first c : Nat} {q : Option Addr} {L : List (Nat × Ob)} (hR : RowsP w (.slice q L.length c) 1 (L.map (plC first))) (hs : L.Pairwise (fun a b => a.1 < b.1)) (hl : L.length ≤ 100000) (x : Int) :
    Calls Tryd.prog 50 #[.slice q L.length c, .int .i64 x] w fun e w' => ∃ i : Int, e = .returned (.tuple #[.int .i64 i, .bool (L.any fun y => decide (((first + y.1 : Nat) : Int) = x))]) ∧ Ext w w' := by
  rcases hR.2 with ⟨_, h0⟩ | ⟨b, off, c', h1, h2, h3, h4⟩
  · obtain rfl : L = [] := by simpa using h0
    exact (search_none q c x w).mono fun e w' ⟨h1, h2⟩ => ⟨0, h1, h2⟩
  · obtain ⟨rfl, -, rfl⟩ := Value.slice.inj h1
    have hz : (L.map fun y => ((first + y.1 : Nat) : Int)).length = L.length := by simp
    have hst : ((L.map fun y => ((first + y.1 : Nat) : Int)).take L.length) = L.map fun y => ((first + y.1 : Nat) : Int) := List.take_of_length_le (by simp)
    refine (AnyG.slices_BinarySearch_int Tryd.searchA b off L.length c (L.map fun y => ((first + y.1 : Nat) : Int)) x w (by simp) (by omega) (fun j hj => ?_) ?_).mono ?_
    · rw [hz] at hj
      have h5 := h4 j (.int .i64 ((first + L[j].1 : Nat) : Int)) (by
        have : (L.map (plC first)).flatten = L.map fun y => Value.int .i64 ((first + y.1 : Nat) : Int) := by
          generalize L = M
          induction M with
          | nil => rfl
          | cons a M ih => simp only [List.map_cons, List.flatten_cons, ih]; rfl
        rw [this, List.getElem?_map, List.getElem?_eq_getElem hj]
        rfl)
      rw [h5, List.getD_eq_getElem?_getD, List.getElem?_map, List.getElem?_eq_getElem hj]
      rfl
    · rw [hst, List.pairwise_map]
      exact hs.imp fun h => by omega
    · rintro e w' ⟨rfl, qd, rfl⟩
      rw [hst]
      have hc : (L.map fun y => ((first + y.1 : Nat) : Int)).contains x = L.any fun y => decide (((first + y.1 : Nat) : Int) = x) := by
        rw [List.contains_eq_any_beq, List.any_map]
        congr 1
        funext y
        simp only [Function.comp_apply]
        rw [Bool.eq_iff_iff]
        simp only [beq_iff_eq, decide_eq_true_eq]
        exact eq_comm
      rw [hc]
      exact ⟨_, rfl, Ext.drewN _ _⟩
theorem sizeF_ge : ∀ (L : List (Nat × Ob)), L.length ≤ sizeF L
  | [] => Nat.le_refl _
  | y :: L => by have := sizeF_ge L; have := wordsO_pos y.2; simp only [List.length_cons, sizeF]; omega
end Go.Proofs.YtgiopklnielglaaDoor
/- frame.Good's askers: an instruction's place, a function's locals, a word. -/
namespace Go.Proofs.YtgiopklnielglaaDoor
open Go.RowKit
set_option maxHeartbeats 4000000
set_option maxRecDepth 100000
theorem pc_is {w : World} {xb fb off nf cf j nc cc : Nat} {qc : Option Addr} (hb : w.cell? ⟨xb, 0, none⟩ = some (.slice (some ⟨fb, off, none⟩) nf cf)) (hf : w.cell? ⟨fb, off + j * 3 + 2, none⟩ = some (.slice qc nc cc)) (hj : j < nf) (pc ba se k : Int) :
    Calls Tryd.prog 51 #[.pointer (some ⟨xb, 0, none⟩), .agg #[.int .i64 j, .int .i64 pc, .int .i64 ba, .int .u64 se], .int .i64 k] w fun e w' => e = .returned (.bool (decide (0 ≤ k) && decide (k < nc))) ∧ Ext w w' := by
  have i1 : (j : Int) < (nf : Int) := by omega
  have HB := Lib.hid hb; have HF := Lib.hid hf
  clear hb hf
  by_cases h0 : 0 ≤ k
  · have t0 : decide (0 ≤ k) = true := decide_eq_true h0
    by_cases h1 : k < nc
    · have t1 : decide (k < (nc : Int)) = true := decide_eq_true h1
      rw [t0, t1]
      go_enter Tryd.func51, Tryd.ntmps51
      go_upto_region 1 with fail
      refine wp_alloc1 fun W hE hS b0 => ?_
      obtain ⟨x0, x1, x2, x3⟩ := cells4 b0
      have y0 := hE.cell HB.out
      have y2 := hE.cell HF.out
      have HX := Lib.hid hE
      clear b0 hE hS HB HF
      go_big_quiet (fail)
      go_wp2
      go_ret
      exact ⟨by first | rfl | simp_all, by first | exact HX.out | exact HX.out.trans (Ext.drewN _ _)⟩
    · have t1 : decide (k < (nc : Int)) = false := decide_eq_false h1
      rw [t0, t1]
      go_enter Tryd.func51, Tryd.ntmps51
      go_upto_region 1 with fail
      refine wp_alloc1 fun W hE hS b0 => ?_
      obtain ⟨x0, x1, x2, x3⟩ := cells4 b0
      have y0 := hE.cell HB.out
      have y2 := hE.cell HF.out
      have HX := Lib.hid hE
      clear b0 hE hS HB HF
      go_big_quiet (fail)
      go_wp2
      go_ret
      exact ⟨by first | rfl | simp_all, by first | exact HX.out | exact HX.out.trans (Ext.drewN _ _)⟩
  · have t0 : decide (0 ≤ k) = false := decide_eq_false h0
    rw [t0]
    go_enter Tryd.func51, Tryd.ntmps51
    go_upto_region 1 with fail
    refine wp_alloc1 fun W hE hS b0 => ?_
    obtain ⟨x0, x1, x2, x3⟩ := cells4 b0
    have y0 := hE.cell HB.out
    have y2 := hE.cell HF.out
    have HX := Lib.hid hE
    clear b0 hE hS HB HF
    go_big_quiet (fail)
    go_wp2
    go_ret
    exact ⟨by first | rfl | simp_all, by first | exact HX.out | exact HX.out.trans (Ext.drewN _ _)⟩
theorem locals_is {w : World} {xb fb off nf cf j : Nat} {lo : Int} (hb : w.cell? ⟨xb, 0, none⟩ = some (.slice (some ⟨fb, off, none⟩) nf cf)) (hf : w.cell? ⟨fb, off + j * 3, none⟩ = some (.int .i64 lo)) (hj : j < nf) (pc ba se : Int) :
    Calls Tryd.prog 52 #[.pointer (some ⟨xb, 0, none⟩), .agg #[.int .i64 j, .int .i64 pc, .int .i64 ba, .int .u64 se]] w fun e w' => e = .returned (.int .i64 lo) ∧ Ext w w' := by
  have i1 : (j : Int) < (nf : Int) := by omega
  have HB := Lib.hid hb; have HF := Lib.hid hf
  clear hb hf
  go_enter Tryd.func52, Tryd.ntmps52
  go_upto_region 1 with fail
  refine wp_alloc1 fun W hE hS b0 => ?_
  obtain ⟨x0, x1, x2, x3⟩ := cells4 b0
  have y0 := hE.cell HB.out
  have y2 := hE.cell HF.out
  have HX := Lib.hid hE
  clear b0 hE hS HB HF
  go_big_quiet (fail)
  go_wp2
  go_ret
  exact ⟨by first | rfl | simp_all, by first | exact HX.out | exact HX.out.trans (Ext.drewN _ _)⟩
theorem word_num {w : World} {v : Value} {x : Int} (hx : W64 x) (hi : isIntW x = true) : Calls Tryd.prog 31 #[v, .int .u64 x] w fun e w' => e = .returned (.bool true) ∧ Ext w w' := by
  have HI := Lib.hid (fun W => isInt_is hx W)
  rw [hi] at HI
  clear hx hi
  go_enter Tryd.func31, Tryd.ntmps31
  go_wp2_with fail
  refine (HI.out _).mono ?_
  rintro e w1 ⟨rfl, rfl⟩
  go_wp2_with fail
  go_ret
  exact ⟨rfl, Ext.refl _⟩
end Go.Proofs.YtgiopklnielglaaDoor
/- frame.Good of a machine that was started. -/
namespace Go.Proofs.YtgiopklnielglaaDoor
open Go.RowKit
set_option maxHeartbeats 8000000
set_option maxRecDepth 100000
theorem pc_yes {w : World} {xb fb off nf cf j nc cc : Nat} {qc : Option Addr} (hb : w.cell? ⟨xb, 0, none⟩ = some (.slice (some ⟨fb, off, none⟩) nf cf)) (hf : w.cell? ⟨fb, off + j * 3 + 2, none⟩ = some (.slice qc nc cc)) (hj : j < nf) (pc ba se : Int) {k : Int} (h0 : 0 ≤ k) (h1 : k < nc) :
    Calls Tryd.prog 51 #[.pointer (some ⟨xb, 0, none⟩), .agg #[.int .i64 j, .int .i64 pc, .int .i64 ba, .int .u64 se], .int .i64 k] w fun e w' => e = .returned (.bool true) ∧ Ext w w' :=
  (pc_is hb hf hj pc ba se k).mono fun e w' h => ⟨by rw [h.1, decide_eq_true h0, decide_eq_true h1]; rfl, h.2⟩
/-- an asker's block -/
def AskAt (w : World) (xb : Nat) (vf vs vo : Value) (a b c d : Int) (s f h : Value) (st r co : Int) (l : Value) : Prop :=
  w.heap[xb]? = some (.cells #[vf, vs, vo, .int .i64 a, .int .i64 b, .int .i64 c, .int .i64 d, s, f, h, .int .i64 st, .int .u64 r, .int .i64 co, l] 84 (0, 0))
theorem AskAt.ext {w w' : World} {xb : Nat} {vf vs vo s f h l : Value} {a b c d st r co : Int} (k : AskAt w xb vf vs vo a b c d s f h st r co l) (e : Ext w w') : AskAt w' xb vf vs vo a b c d s f h st r co l := (Below.block e xb (Array.getElem?_eq_some_iff.1 k).1).trans k
/-- what is known of a started machine's asker -/
structure Asker (w : World) (xb : Nat) (n : Nat) : Prop where
  k : ∃ fb off nf cf vs vo a b c d qs cs fr cr l, AskAt w xb (.slice (some ⟨fb, off, none⟩) nf cf) vs vo a b c d (.slice qs n cs) (.slice (some ⟨fr, 0, none⟩) 1 cr) (.slice none 0 0) 0 1 0 l ∧ 1 ≤ nf ∧ n ≤ 1000 ∧
    w.cell? ⟨fb, off, none⟩ = some (.int .i64 n) ∧ (∃ qc nc cc, w.cell? ⟨fb, off + 2, none⟩ = some (.slice qc nc cc) ∧ 1 ≤ nc) ∧
    w.cell? ⟨fr, 0, none⟩ = some (.int .i64 0) ∧ w.cell? ⟨fr, 1, none⟩ = some (.int .i64 0) ∧ w.cell? ⟨fr, 2, none⟩ = some (.int .i64 0) ∧ w.cell? ⟨fr, 3, none⟩ = some (.int .u64 1)
theorem Asker.ext {w w' : World} {xb n : Nat} (h : Asker w xb n) (e : Ext w w') : Asker w' xb n := by
  obtain ⟨fb, off, nf, cf, vs, vo, a, b, c, d, qs, cs, fr, cr, l, h1, h2, h3, h4, ⟨qc, nc, cc, h5, h6⟩, h7, h8, h9, h10⟩ := h.k
  exact ⟨fb, off, nf, cf, vs, vo, a, b, c, d, qs, cs, fr, cr, l, h1.ext e, h2, h3, e.cell h4, ⟨qc, nc, cc, e.cell h5, h6⟩, e.cell h7, e.cell h8, e.cell h9, e.cell h10⟩
theorem one_w64 : W64 1 := ⟨by decide, by decide⟩
theorem one_int : isIntW 1 = true := by decide
theorem frames_one {w : World} {xb n : Nat} (hA : Asker w xb n) : Calls Tryd.prog 32 #[.pointer (some ⟨xb, 0, none⟩)] w fun e w' => e = .returned (.bool true) ∧ Ext w w' := by
  obtain ⟨fb, off, nf, cf, vs, vo, a, b, c, d, qs, cs, fr, cr, l, hk, h2, h3, h4, ⟨qc, nc, cc, h5, h6⟩, h7, h8, h9, h10⟩ := hA.k
  have m8 : w.cell? ⟨xb, 8, none⟩ = some (.slice (some ⟨fr, 0, none⟩) 1 cr) := cell_at hk rfl
  have HK := Lib.hid hk; have H4 := Lib.hid h4; have H5 := Lib.hid h5; have H7 := Lib.hid h7; have H8 := Lib.hid h8; have H9 := Lib.hid h9; have H10 := Lib.hid h10
  clear hA hk h4 h5 h7 h8 h9 h10
  go_enter Tryd.func32, Tryd.ntmps32
  go_wp2_with fail
  clear m8
  go_loopw [3, 12] (fun f i wr => ∃ k x : Nat, k ≤ 1 ∧ i = .int .i64 k ∧ f = .int .i64 x ∧ (k = 0 → x = 0) ∧ Ext w wr) (fun _ i _ => 1 - (Go.RowKit.intOf i).toNat)
  case atStart => exact ⟨0, 0, by omega, rfl, rfl, fun _ => rfl, Ext.refl _⟩
  case round =>
    obtain ⟨k, x, hk, rfl, rfl, hx0, hx⟩ := hrel
    have HX := Lib.hid hx
    by_cases h0 : k = 0
    · obtain rfl := h0
      obtain rfl := hx0 rfl
      have h7 := hx.cell H7.out; have h8 := hx.cell H8.out; have h9 := hx.cell H9.out; have h10 := hx.cell H10.out
      clear hx hx0 hk
      go_upto_region 5 with fail
      refine wp_alloc1 fun W hE hS b0 => ?_
      obtain ⟨x0, x1, x2, x3⟩ := cells4 b0
      have HE := Lib.hid (HX.out.trans hE)
      have hk := HK.out.ext HE.out
      have m0 : W.cell? ⟨xb, 0, none⟩ = some (.slice (some ⟨fb, off, none⟩) nf cf) := cell_at hk rfl
      have m7 : W.cell? ⟨xb, 7, none⟩ = some (.slice qs n cs) := cell_at hk rfl
      have t1 : decide ((nf : Int) ≤ 0) = false := decide_eq_false (by omega)
      have t2 : decide (nf = 0) = false := decide_eq_false (by omega)
      have r0 := fun d os => cell_regrown x0 d os
      have r1 := fun d os => cell_regrown x1 d os
      have r2 := fun d os => cell_regrown x2 d os
      have r3 := fun d os => cell_regrown x3 d os
      have rm := fun d os => cell_regrown m0 d os
      have cP := fun d os => quiet_ext (pc_yes (w := Go.Sort.grow (redrawn W d) os) (rm d os) (by rw [Nat.zero_mul, Nat.add_zero]; exact cell_regrown (HE.out.cell H5.out) d os) (j := 0) (by omega) 0 0 1 (k := 0) (by omega) (by omega))
      have cW := fun d os => quiet_ext (word_num (w := Go.Sort.grow (redrawn W d) os) (v := .pointer (some ⟨xb, 0, none⟩)) one_w64 one_int)
      have CP := Lib.hid cP; have CW := Lib.hid cW
      clear cP cW x0 x1 x2 x3 m0 m7 b0 hE hS hk h7 h8 h9 h10
      refine wp_region_quiet_below (by kernel_rfl) (by kernel_rfl) ?_
      repeat (first | go_big_quiet_step (first | exact CW.out _ _ | exact CP.out _ _) | quiet_step (first | exact CW.out _ _ | exact CP.out _ _))
      refine wpQuiet_nil ?_
      intro _ hw'
      obtain ⟨⟨dq, osq⟩, hw''⟩ := hw'
      subst hw''
      have HE2 := Lib.hid (HE.out.trans (Ext.regrown W dq osq))
      have x0 := r0 dq osq; have x1 := r1 dq osq; have x2 := r2 dq osq; have x3 := r3 dq osq
      clear r0 r1 r2 r3 rm CP CW
      generalize Go.Sort.grow (redrawn W dq) osq = W2 at *
      go_upto_region 7 with fail
      have hk := HK.out.ext HE2.out
      have m0 : W2.cell? ⟨xb, 0, none⟩ = some (.slice (some ⟨fb, off, none⟩) nf cf) := cell_at hk rfl
      have m7 : W2.cell? ⟨xb, 7, none⟩ = some (.slice qs n cs) := cell_at hk rfl
      have r0 := fun d os => cell_regrown x0 d os
      have r1 := fun d os => cell_regrown x1 d os
      have r2 := fun d os => cell_regrown x2 d os
      have r3 := fun d os => cell_regrown x3 d os
      have rm := fun d os => cell_regrown m0 d os
      have r7 := fun d os => cell_regrown m7 d os
      have cL := fun d os => quiet_ext (locals_is (w := Go.Sort.grow (redrawn W2 d) os) (j := 0) (rm d os) (by rw [Nat.zero_mul, Nat.add_zero]; exact cell_regrown (HE2.out.cell H4.out) d os) (by omega) 0 0 1)
      have CL := Lib.hid cL
      have t3 : decide ((n : Int) < 0) = false := decide_eq_false (by omega)
      clear cL x0 x1 x2 x3 m0 m7 hk
      refine wp_region_quiet_below (by kernel_rfl) (by kernel_rfl) ?_
      repeat (first | go_big_quiet_step (exact CL.out _ _) | quiet_step (exact CL.out _ _))
      refine wpQuiet_nil ?_
      intro _ hw'
      obtain ⟨⟨dr, osr⟩, hw''⟩ := hw'
      subst hw''
      have HE3 := Lib.hid (HE2.out.trans (Ext.regrown W2 dr osr))
      have x0 := r0 dr osr; have x1 := r1 dr osr; have x2 := r2 dr osr; have x3 := r3 dr osr
      clear r0 r1 r2 r3 rm r7 CL HE2
      generalize Go.Sort.grow (redrawn W2 dr) osr = W3 at *
      go_upto_region 9 with fail
      have hk := HK.out.ext HE3.out
      have m0 : W3.cell? ⟨xb, 0, none⟩ = some (.slice (some ⟨fb, off, none⟩) nf cf) := cell_at hk rfl
      have r0 := fun d os => cell_regrown x0 d os
      have r1 := fun d os => cell_regrown x1 d os
      have r2 := fun d os => cell_regrown x2 d os
      have r3 := fun d os => cell_regrown x3 d os
      have rm := fun d os => cell_regrown m0 d os
      have cL := fun d os => quiet_ext (locals_is (w := Go.Sort.grow (redrawn W3 d) os) (j := 0) (rm d os) (by rw [Nat.zero_mul, Nat.add_zero]; exact cell_regrown (HE3.out.cell H4.out) d os) (by omega) 0 0 1)
      have CL := Lib.hid cL
      clear cL x0 x1 x2 x3 m0 hk
      refine wp_region_quiet_below (by kernel_rfl) (by kernel_rfl) ?_
      repeat (first | go_big_quiet_step (exact CL.out _ _) | quiet_step (exact CL.out _ _))
      refine wpQuiet_nil ?_
      intro _ hw'
      obtain ⟨⟨du, osu⟩, hw''⟩ := hw'
      subst hw''
      have HE4 := Lib.hid (HE3.out.trans (Ext.regrown W3 du osu))
      clear r0 r1 r2 r3 rm CL HE3
      go_wp2_with fail
      exact ⟨⟨1, n, by omega, by go_num, by first | rfl | (congr 1; omega) | simp, fun h => absurd h (by omega), HE4.out⟩, by simp [Go.RowKit.intOf]⟩
    · obtain rfl : k = 1 := by omega
      go_wp2_with fail
      go_ret
      exact ⟨rfl, HX.out⟩
theorem handlers_none {w : World} {xb n : Nat} (hA : Asker w xb n) : Calls Tryd.prog 33 #[.pointer (some ⟨xb, 0, none⟩)] w fun e w' => e = .returned (.bool true) ∧ Ext w w' := by
  obtain ⟨fb, off, nf, cf, vs, vo, a, b, c, d, qs, cs, fr, cr, l, hk, -⟩ := hA.k
  have m9 : w.cell? ⟨xb, 9, none⟩ = some (.slice none 0 0) := cell_at hk rfl
  clear hA hk
  go_enter Tryd.func33, Tryd.ntmps33
  go_wp2_with fail
  go_loopw [13] (fun i wr => i = .int .i64 0 ∧ Ext w wr) (fun _ _ => 0)
  case atStart => exact ⟨rfl, Ext.refl _⟩
  case round =>
    obtain ⟨rfl, hx⟩ := hrel
    have HX := Lib.hid hx
    clear hx
    go_wp2_with fail
    go_ret
    exact ⟨rfl, HX.out⟩
theorem ends_start {w : World} {xb n : Nat} (hA : Asker w xb n) (hn : w.cell? ⟨0, 0, none⟩ = some (.int .u64 1)) : Calls Tryd.prog 34 #[.pointer (some ⟨xb, 0, none⟩)] w fun e w' => e = .returned (.bool true) ∧ Ext w w' := by
  obtain ⟨fb, off, nf, cf, vs, vo, a, b, c, d, qs, cs, fr, cr, l, hk, -⟩ := hA.k
  obtain ⟨k0, k1, k2, k3, k4, k5, k6, k7, k8, k9, k10, k11⟩ : w.cell? ⟨xb, 3, none⟩ = some (.int .i64 a) ∧ w.cell? ⟨xb, 4, none⟩ = some (.int .i64 b) ∧ w.cell? ⟨xb, 5, none⟩ = some (.int .i64 c) ∧ w.cell? ⟨xb, 6, none⟩ = some (.int .i64 d) ∧ w.cell? ⟨xb, 7, none⟩ = some (.slice qs n cs) ∧ w.cell? ⟨xb, 8, none⟩ = some (.slice (some ⟨fr, 0, none⟩) 1 cr) ∧ w.cell? ⟨xb, 9, none⟩ = some (.slice none 0 0) ∧ w.cell? ⟨xb, 10, none⟩ = some (.int .i64 0) ∧ w.cell? ⟨xb, 11, none⟩ = some (.int .u64 1) ∧ w.cell? ⟨xb, 12, none⟩ = some (.int .i64 0) ∧ True ∧ True :=
    ⟨cell_at hk rfl, cell_at hk rfl, cell_at hk rfl, cell_at hk rfl, cell_at hk rfl, cell_at hk rfl, cell_at hk rfl, cell_at hk rfl, cell_at hk rfl, cell_at hk rfl, trivial, trivial⟩
  have HN := Lib.hid hn
  clear hA hk k10 k11 hn
  go_enter Tryd.func34, Tryd.ntmps34
  go_upto_region 2 with fail
  refine wp_alloc1 fun W hE hS b0 => ?_
  have HX := Lib.hid hE
  obtain ⟨m0, m1, m2, m3, m4, m5, m6, m7, m8, m9⟩ := cells10 b0
  have HM := Lib.hid b0
  have n0 := hE.cell HN.out
  clear k0 k1 k2 k3 k4 k5 k6 k7 k8 k9 hE hS b0
  go_wp2_with fail
  refine (word_num one_w64 one_int).mono ?_
  rintro e w1 ⟨rfl, hx1⟩
  have c0 := (Below.block hx1 w.heap.size ((Array.getElem?_eq_some_iff.1 HM.out).1)).trans HM.out
  have HX1 := Lib.hid (HX.out.trans hx1)
  replace n0 := hx1.cell n0
  clear m0 m1 m2 m3 m4 m5 m6 m7 m8 m9 hx1 HM HX
  obtain ⟨m0, m1, m2, m3, m4, m5, m6, m7, m8, m9⟩ := cells10 c0
  clear c0
  go_wp2_with fail
  go_ret
  exact ⟨rfl, HX1.out⟩
end Go.Proofs.YtgiopklnielglaaDoor
/- frame.Good of a machine that was started, in an empty heap. -/
namespace Go.Proofs.YtgiopklnielglaaDoor
open Go.RowKit Arena
set_option maxHeartbeats 8000000
set_option maxRecDepth 100000
theorem all_empty {ws : List Int} {R : List (Nat × Nat)} {h : Hp} (ht : thereB R h = true) (h0 : h.top = 0) : allH ws R h = some [] := by
  unfold allH
  rw [if_pos ht]
  have : semi ws R h = [] := by unfold semi; rw [h0]; rfl
  rw [this]
  rfl
theorem fgood_yes {w : World} {p g bm N : Nat} {ws : List Int} {R : List (Nat × Nat)} (H : ArenaAt w p g bm N ws R) (hW : ∀ x ∈ ws, W64 x) (hp : Hp) (hw : (Lit.int .i64 hp.base).wf = true) (ht : thereB R hp = true) (h0 : hp.top = 0) (hk : OpLie w) (hn : w.cell? ⟨0, 0, none⟩ = some (.int .u64 1))
    (x : PgI) (hx : PgP w x) (hg : goodP x.p = true) (n : Nat) (hl : ∀ y, x.funcs[0]? = some y → y.f.locals = (n : Int)) {s f : Value} (hs : RowsP w s 1 ((List.replicate n 1).map wordC)) {B : Nat} (hf : OwnP w B 55 f 4 ([⟨0, 0, 0, 1⟩].map frC)) :
    Calls Tryd.prog 13 #[.pointer (some ⟨p, 0, none⟩), .agg #[x.vf, x.vs, x.vo], machV hp.base hp.half hp.space hp.top s f (.slice none 0 0) 0 1 0] w fun e w' => e = .returned (.bool true) ∧ Ext w w' := by
  have HA := Lib.hid (fun W (e : Ext w W) => oall_is (H.ext e) hp hw hW)
  rw [all_empty ht h0] at HA
  have HG := Lib.hid (fun W (e : Ext w W) => code_good (hk.ext e) x (hx.ext e))
  rw [hg] at HG
  obtain ⟨y, hy, hl1, hl2, hl3, hl4⟩ := goodP_first hg
  have hyl := hl y hy
  obtain ⟨pf, ps, po, hfn, ho⟩ := hx
  have hxm := hfn y (List.mem_of_getElem? hy)
  obtain ⟨F, S, O, vf, vs, vo⟩ := x
  dsimp only at pf ps po hfn hy HG ⊢
  obtain ⟨q', c', hv, h1, h2, hcell⟩ := pf.at
  obtain ⟨b', off, hq, hcc⟩ := hcell 0 (fnC y) (by rw [List.getElem?_map, hy]; rfl)
  rw [List.length_map] at hv
  subst hq
  subst hv
  have hFl : 0 < F.length := (List.getElem?_eq_some_iff.1 hy).1
  obtain ⟨qs, ns, cs, rfl⟩ : ∃ q n c, vs = .slice q n c := by obtain ⟨q, c, hv, -⟩ := ps.at; exact ⟨q, _, c, hv⟩
  obtain ⟨qo, no, co, rfl⟩ : ∃ q n c, vo = .slice q n c := by obtain ⟨q, c, hv, -⟩ := po.at; exact ⟨q, _, c, hv⟩
  have yl0 := hcc 0 _ rfl
  have yl2 := hcc 2 _ rfl
  simp only [Nat.zero_mul, Nat.add_zero] at yl0 yl2
  replace yl0 : w.cell? ⟨b', off, none⟩ = some (.int .i64 (n : Int)) := by rw [← hyl]; exact yl0
  obtain ⟨qc, cc, hvc, -⟩ := RowsP.at hxm
  rw [List.length_map] at hvc
  rw [hvc] at yl2
  have hn60 : n ≤ 60 := by omega
  obtain ⟨qS, cS, rfl, -, -, hcS⟩ := hs.at
  rw [List.length_map, List.length_replicate]
  obtain ⟨qF, cF, rfl, -, -⟩ := hf.len
  obtain ⟨bF, rfl, -, g0, -⟩ := hf.cell (i := 0) (f := 0) (u := .int .i64 0) rfl rfl
  obtain ⟨_, hq1, -, g1, -⟩ := hf.cell (i := 0) (f := 1) (u := .int .i64 0) rfl rfl
  obtain ⟨rfl⟩ := Addr.mk.inj (Option.some.inj hq1)
  obtain ⟨_, hq2, -, g2, -⟩ := hf.cell (i := 0) (f := 2) (u := .int .i64 0) rfl rfl
  obtain ⟨rfl⟩ := Addr.mk.inj (Option.some.inj hq2)
  obtain ⟨_, hq3, -, g3, -⟩ := hf.cell (i := 0) (f := 3) (u := .int .u64 1) rfl rfl
  obtain ⟨rfl⟩ := Addr.mk.inj (Option.some.inj hq3)
  simp only [Nat.zero_mul, Nat.zero_add] at g0 g1 g2 g3
  rw [show (List.map frC [⟨0, 0, 0, 1⟩]).length = 1 from rfl]
  have HY0 := Lib.hid yl0; have HY2 := Lib.hid yl2; have G0 := Lib.hid g0; have G1 := Lib.hid g1; have G2 := Lib.hid g2; have G3 := Lib.hid g3; have HCS := Lib.hid hcS; have HN0 := Lib.hid hn
  generalize F.length = nf at *
  generalize y.f.code.length = nc at *
  obtain ⟨ba, ha, sp, tp⟩ := hp
  dsimp only at HA ⊢
  clear pf ps po hfn ho hxm hcc hcell h1 h2 hvc hs hf hcS yl0 yl2 g0 g1 g2 g3 hq1 hq2 hq3 hyl hl hy hk hg ht h0 H hn hl1 hl2
  unfold machV
  go_enter Tryd.func13, Tryd.ntmps13
  go_upto_region 1 with fail
  refine wp_alloc2 fun W hE hS b0 b1 => ?_
  obtain ⟨l0, l1, l2⟩ := cells3 b0
  obtain ⟨m0, m1, m2, m3, m4, m5, m6, m7, m8, m9⟩ := cells10 b1
  have HX := Lib.hid hE
  have B0 := Lib.hid b0; have B1 := Lib.hid b1
  clear hE hS b0 b1
  go_wp2_with fail
  refine (HA.out _ HX.out).mono ?_
  rintro e w1 ⟨ql, ll, cl, rfl, hx1, -, hL⟩
  obtain ⟨rfl, -⟩ := hL [] rfl
  rw [List.length_nil, Option.isSome_some]
  have c0 := (Below.block hx1 w.heap.size ((Array.getElem?_eq_some_iff.1 B0.out).1)).trans B0.out
  have c1 := (Below.block hx1 (w.heap.size + 1) ((Array.getElem?_eq_some_iff.1 B1.out).1)).trans B1.out
  have HX1 := Lib.hid (HX.out.trans hx1)
  have C0 := Lib.hid c0; have C1 := Lib.hid c1
  clear l0 l1 l2 m0 m1 m2 m3 m4 m5 m6 m7 m8 m9 hx1 HX B0 B1 hL HA
  obtain ⟨l0, l1, l2⟩ := cells3 c0
  obtain ⟨m0, m1, m2, m3, m4, m5, m6, m7, m8, m9⟩ := cells10 c1
  clear c0 c1
  have t1 : decide (200 < n) = false := decide_eq_false (by omega)
  have t1' : ¬ (200 : Int) < n := by omega
  go_wp2_with fail
  refine (HG.out _ HX1.out).mono ?_
  rintro e w2 ⟨rfl, hx2⟩
  have c0 := (Below.block hx2 w.heap.size ((Array.getElem?_eq_some_iff.1 C0.out).1)).trans C0.out
  have c1 := (Below.block hx2 (w.heap.size + 1) ((Array.getElem?_eq_some_iff.1 C1.out).1)).trans C1.out
  have HX2 := Lib.hid (HX1.out.trans hx2)
  clear l0 l1 l2 m0 m1 m2 m3 m4 m5 m6 m7 m8 m9 hx2 HX1 C0 C1 HG
  obtain ⟨l0, l1, l2⟩ := cells3 c0
  obtain ⟨m0, m1, m2, m3, m4, m5, m6, m7, m8, m9⟩ := cells10 c1
  have C0 := Lib.hid c0; have C1 := Lib.hid c1
  clear c0 c1
  go_upto_region 5 with fail
  refine wp_alloc1 fun W3 hE hS b0 => ?_
  have c0 := (Below.block hE w.heap.size ((Array.getElem?_eq_some_iff.1 C0.out).1)).trans C0.out
  have c1 := (Below.block hE (w.heap.size + 1) ((Array.getElem?_eq_some_iff.1 C1.out).1)).trans C1.out
  have HX3 := Lib.hid (HX2.out.trans hE)
  have HB := Lib.hid b0
  clear l0 l1 l2 m0 m1 m2 m3 m4 m5 m6 m7 m8 m9 hE hS b0 HX2 C0 C1
  obtain ⟨m0, m1, m2, m3, m4, m5, m6, m7, m8, m9⟩ := cells10 c1
  have hA : Asker W3 w2.heap.size n := ⟨_, _, _, _, _, _, _, _, _, _, _, _, _, _, _, HB.out, by omega, by omega, HX3.out.cell HY0.out, ⟨_, _, _, HX3.out.cell HY2.out, by omega⟩, HX3.out.cell G0.out, HX3.out.cell G1.out, HX3.out.cell G2.out, HX3.out.cell G3.out⟩
  have HAs := Lib.hid hA
  clear hA c0 c1 HB HY0 HY2 G0 G1 G2 G3
  go_wp2_with fail
  generalize w2.heap.size = xb at *
  clear m0 m1 m2 m3 m4 m5 m6 m7 m8 m9
  go_loopw [52] (fun i wr => ∃ k : Nat, k ≤ n ∧ i = .int .i64 k ∧ Ext W3 wr) (fun i _ => n - (Go.RowKit.intOf i).toNat)
  case atStart => exact ⟨0, by omega, rfl, Ext.refl _⟩
  case round =>
    obtain ⟨k, hk, rfl, hx⟩ := hrel
    have HR := Lib.hid hx
    clear hx
    by_cases hlt : k < n
    · obtain ⟨bS, oS, rfl, hSc⟩ := HCS.out k (wordC 1) (by rw [List.map_replicate, List.getElem?_replicate, if_pos hlt])
      have y0 := (HX3.out.trans HR.out).cell (hSc 0 _ rfl)
      rw [Nat.add_zero, Nat.mul_one] at y0
      have i1 : (k : Int) < (n : Int) := by omega
      clear hSc HCS
      go_wp2_with fail
      refine (word_num one_w64 one_int).mono ?_
      rintro e w5 ⟨rfl, hx5⟩
      have HR5 := Lib.hid (HR.out.trans hx5)
      clear hx5
      go_wp2_with fail
      exact ⟨⟨k + 1, by omega, by go_num, HR5.out⟩, by simp [Go.RowKit.intOf]; omega⟩
    · obtain rfl : k = n := by omega
      clear HCS
      go_wp2_with fail
      refine (frames_one (HAs.out.ext HR.out)).mono ?_
      rintro e w5 ⟨rfl, hx5⟩
      have HR5 := Lib.hid (HR.out.trans hx5)
      clear hx5
      go_wp2_with fail
      refine (handlers_none (HAs.out.ext HR5.out)).mono ?_
      rintro e w6 ⟨rfl, hx6⟩
      have HR6 := Lib.hid (HR5.out.trans hx6)
      clear hx6
      go_wp2_with fail
      refine (ends_start (HAs.out.ext HR6.out) ((HX3.out.trans HR6.out).cell HN0.out)).mono ?_
      rintro e w7 ⟨rfl, hx7⟩
      have HR7 := Lib.hid (HX3.out.trans (HR6.out.trans hx7))
      clear hx7
      go_wp2_with fail
      go_ret
      exact ⟨rfl, HR7.out⟩
end Go.Proofs.YtgiopklnielglaaDoor
/- frame.Throw at a handler that does not fit; frame.Good at a program that may not be. -/
namespace Go.Proofs.YtgiopklnielglaaDoor
open Go.RowKit Arena
set_option maxHeartbeats 8000000
set_option maxRecDepth 100000
def ThrowBad (w : World) (a b c d r co : Int) (e : Ending) (w' : World) : Prop := ∃ (qs qf qh : Option Addr) (ns nf nh ks kf kh : Nat), e = .returned (machV a b c d (.slice qs ns ks) (.slice qf nf kf) (.slice qh nh kh) 7 r co) ∧ Ext w w'
theorem throw_bad {w : World} {s f h : Value} {S : List Int} {F H0 : List (List Value)} {hfr hht pc : Int} (hs : RowsP w s 1 (S.map wordC)) (hf : RowsP w f 4 F) (hh : RowsP w h 3 (H0 ++ [[.int .i64 hfr, .int .i64 hht, .int .i64 pc]]))
    (hbad : hfr < 1 ∨ (F.length : Int) < hfr ∨ hht < 0 ∨ (S.length : Int) < hht) (lS : S.length ≤ 1000000) (lF : F.length ≤ 1000000) (lH : H0.length ≤ 900000) (a b c d st r co code : Int) :
    Calls Tryd.prog 14 #[machV a b c d s f h st r co, .int .i64 code] w (ThrowBad w a b c d r co) := by
  have HS := Lib.hid hs; have HF := Lib.hid hf; have HH := Lib.hid hh
  clear hs hf hh
  unfold machV
  go_enter Tryd.func14, Tryd.ntmps14
  go_wp2_with fail
  refine at_alloc2 fun W hE hS b0 b1 => ?_
  have ho := own_is (HS.out.ext hE) (HF.out.ext hE) (HH.out.ext hE) lS lF (by simp; omega) a b c d st r co
  unfold machV at ho
  refine ho.mono ?_
  rintro e w1 ⟨s1, f1, h1, B1, B2, rfl, ho1, hb1, hf1, hb2, hh1, h3, h4, hx1⟩
  unfold machV
  have c0 := (Below.block hx1 w.heap.size (by omega)).trans b0
  have c1 := (Below.block hx1 (w.heap.size + 1) (by omega)).trans b1
  have hsz := hx1.size
  rw [hS] at hsz
  have HX := Lib.hid (hE.trans hx1)
  have hls : (S.map wordC).length = S.length := by simp
  have hlh : (H0 ++ [[Value.int .i64 hfr, .int .i64 hht, .int .i64 pc]]).length = H0.length + 1 := by simp
  obtain ⟨qs, ks, rfl, hks, _⟩ := ho1.len
  obtain ⟨qf, kf, rfl, hkf, _⟩ := hf1.len
  obtain ⟨qh, kh, rfl, hkh, _⟩ := hh1.len
  rw [hlh] at hh1 hkh ⊢
  rw [hls] at ho1 hb1 hks ⊢
  rw [hS] at ho1
  clear hlh hls
  have HO1 := Lib.hid ho1; have HF1 := Lib.hid hf1; have HH1 := Lib.hid hh1; have HB1 := Lib.hid hb1; have HB2 := Lib.hid hb2
  rw [hS] at h3
  clear ho ho1 hf1 hh1 hb1 hb2 hx1 hE b0 b1 hS HS HF HH
  obtain ⟨m0, m1, m2, m3, m4, m5, m6, m7, m8, m9⟩ := cells10 c0
  have mf : ∀ i, w1.frozen? ⟨w.heap.size, i, none⟩ = false := fun i => free_at c0
  have C0 := Lib.hid c0
  have C1 := Lib.hid c1
  clear c0 c1
  go_upto_region 2 with fail
  refine wp_fill10 C0.out fun W2 c0 ht hs2 => ?_
  have c1 := (ht.block (w.heap.size + 1) (by omega) (by simp)).trans C1.out
  have HX2 := Lib.hid (show Ext w W2 from (Turn.below (bs := [w.heap.size]) (Turn.trans (Turn.of_ext HX.out) ht) (Nat.le_refl _) (by simp)))
  have HO2 := Lib.hid (HO1.out.turn ht (fun b hb => by have := (HO1.out.own b hb).1; simp; omega))
  have HF2 := Lib.hid (HF1.out.turn ht (fun b hb => by have := (HF1.out.own b hb).1; simp; omega))
  have HH2 := Lib.hid (HH1.out.turn ht (fun b hb => by have := (HH1.out.own b hb).1; simp; omega))
  clear C0 C1 HX HO1 HF1 HH1 ht m0 m1 m2 m3 m4 m5 m6 m7 m8 m9 mf
  rw [← hs2] at hsz
  clear hs2
  obtain ⟨gh, rfl, hgh, p0, k0⟩ := HH2.out.cell (i := H0.length) (f := 0) (cs := [.int .i64 hfr, .int .i64 hht, .int .i64 pc]) (by simp) rfl
  obtain ⟨_, hq, k1, p1, k2⟩ := HH2.out.cell (i := H0.length) (f := 1) (cs := [.int .i64 hfr, .int .i64 hht, .int .i64 pc]) (by simp) rfl
  obtain ⟨_, hq', k3, p2, k4⟩ := HH2.out.cell (i := H0.length) (f := 2) (cs := [.int .i64 hfr, .int .i64 hht, .int .i64 pc]) (by simp) rfl
  obtain ⟨rfl⟩ := Addr.mk.inj (Option.some.inj hq)
  obtain ⟨rfl⟩ := Addr.mk.inj (Option.some.inj hq')
  clear hq hq' k0 k1 k2 k3 k4
  rw [Nat.add_zero] at p0
  have hghl : gh < W2.heap.size := (HH2.out.own gh rfl).2
  obtain ⟨m0, m1, m2, m3, m4, m5, m6, m7, m8, m9⟩ := cells10 c0
  have mf : ∀ i, W2.frozen? ⟨w.heap.size, i, none⟩ = false := fun i => free_at c0
  have q0 : w.heap.size < W2.heap.size := by omega
  have q1 : w.heap.size + 1 < W2.heap.size := by omega
  have C0 := Lib.hid c0
  have C1 := Lib.hid c1
  clear c0 c1
  go_upto_region 7 with fail
  refine wp_alloc1 fun W3 hx3 hs3 hv => ?_
  have C0' := Lib.hid ((Below.block hx3 w.heap.size (by omega)).trans C0.out)
  have C1' := Lib.hid ((Below.block hx3 (w.heap.size + 1) (by omega)).trans C1.out)
  have HX3 := Lib.hid (HX2.out.trans hx3)
  have HO3 := Lib.hid (HO2.out.ext hx3)
  have HF3 := Lib.hid (HF2.out.ext hx3)
  have HH3 := Lib.hid (HH2.out.ext hx3)
  clear p0 p1 p2 m0 m1 m2 m3 m4 m5 m6 m7 m8 m9 mf C0 C1 HX2 HO2 HF2 HH2 hx3
  obtain ⟨v0, v1, v2⟩ := cells3 hv
  have HV := Lib.hid hv
  clear hv
  generalize hvb : W2.heap.size = vb at *
  have hsz3 : vb + 1 = W3.heap.size := hs3.symm
  clear hvb hs3
  obtain ⟨m0, m1, m2, m3, m4, m5, m6, m7, m8, m9⟩ := cells10 C0'.out
  have mf : ∀ i, W3.frozen? ⟨w.heap.size, i, none⟩ = false := fun i => free_at C0'.out
  have HZ := Lib.hid hsz3
  have q0 : w.heap.size < W3.heap.size := by omega
  have q1 : w.heap.size + 1 < W3.heap.size := by omega
  clear hsz3
  by_cases u1 : hfr < 1
  · have t1 : decide (hfr < 1) = true := decide_eq_true u1
    go_upto_region 8 with fail
    have zf : ∀ i, W3.frozen? ⟨w.heap.size + 1, i, none⟩ = false := fun i => free_at C1'.out
    obtain ⟨z0, z1, z2, z3, z4, z5, z6, z7, z8, z9⟩ := cells10 C1'.out
    go_wp2_with fail
    refine bodyPost_ret (v := machV a b c d (.slice qs S.length ks) (.slice qf F.length kf) (.slice (some ⟨gh, 0, none⟩) (H0.length + 1) kh) 7 r co) (by simp [results, Tryd.results14, go_sem, z0, z1, z2, z3, z4, z5, z6, z7, z8, z9, machV]) rfl ⟨_, _, _, _, _, _, _, _, _, rfl, ?_⟩
    have n1 : w.heap.size ≤ w.heap.size + 1 := by omega
    iterate 10 refine Below.setCell ?_ n1 _
    iterate 1 refine Below.setCell ?_ (show w.heap.size ≤ w.heap.size from Nat.le_refl _) _
    exact HX3.out
  have t1 : decide (hfr < 1) = false := decide_eq_false u1
  by_cases u2 : (F.length : Int) < hfr
  · have t2 : decide ((F.length : Int) < hfr) = true := decide_eq_true u2
    go_upto_region 8 with fail
    have zf : ∀ i, W3.frozen? ⟨w.heap.size + 1, i, none⟩ = false := fun i => free_at C1'.out
    obtain ⟨z0, z1, z2, z3, z4, z5, z6, z7, z8, z9⟩ := cells10 C1'.out
    go_wp2_with fail
    refine bodyPost_ret (v := machV a b c d (.slice qs S.length ks) (.slice qf F.length kf) (.slice (some ⟨gh, 0, none⟩) (H0.length + 1) kh) 7 r co) (by simp [results, Tryd.results14, go_sem, z0, z1, z2, z3, z4, z5, z6, z7, z8, z9, machV]) rfl ⟨_, _, _, _, _, _, _, _, _, rfl, ?_⟩
    have n1 : w.heap.size ≤ w.heap.size + 1 := by omega
    iterate 10 refine Below.setCell ?_ n1 _
    iterate 1 refine Below.setCell ?_ (show w.heap.size ≤ w.heap.size from Nat.le_refl _) _
    exact HX3.out
  have t2 : decide ((F.length : Int) < hfr) = false := decide_eq_false u2
  by_cases u3 : hht < 0
  · have t3 : decide (hht < 0) = true := decide_eq_true u3
    go_upto_region 8 with fail
    have zf : ∀ i, W3.frozen? ⟨w.heap.size + 1, i, none⟩ = false := fun i => free_at C1'.out
    obtain ⟨z0, z1, z2, z3, z4, z5, z6, z7, z8, z9⟩ := cells10 C1'.out
    go_wp2_with fail
    refine bodyPost_ret (v := machV a b c d (.slice qs S.length ks) (.slice qf F.length kf) (.slice (some ⟨gh, 0, none⟩) (H0.length + 1) kh) 7 r co) (by simp [results, Tryd.results14, go_sem, z0, z1, z2, z3, z4, z5, z6, z7, z8, z9, machV]) rfl ⟨_, _, _, _, _, _, _, _, _, rfl, ?_⟩
    have n1 : w.heap.size ≤ w.heap.size + 1 := by omega
    iterate 10 refine Below.setCell ?_ n1 _
    iterate 1 refine Below.setCell ?_ (show w.heap.size ≤ w.heap.size from Nat.le_refl _) _
    exact HX3.out
  have t3 : decide (hht < 0) = false := decide_eq_false u3
  have u4 : (S.length : Int) < hht := by omega
  have t4 : decide ((S.length : Int) < hht) = true := decide_eq_true u4
  go_upto_region 8 with fail
  have zf : ∀ i, W3.frozen? ⟨w.heap.size + 1, i, none⟩ = false := fun i => free_at C1'.out
  obtain ⟨z0, z1, z2, z3, z4, z5, z6, z7, z8, z9⟩ := cells10 C1'.out
  go_wp2_with fail
  refine bodyPost_ret (v := machV a b c d (.slice qs S.length ks) (.slice qf F.length kf) (.slice (some ⟨gh, 0, none⟩) (H0.length + 1) kh) 7 r co) (by simp [results, Tryd.results14, go_sem, z0, z1, z2, z3, z4, z5, z6, z7, z8, z9, machV]) rfl ⟨_, _, _, _, _, _, _, _, _, rfl, ?_⟩
  have n1 : w.heap.size ≤ w.heap.size + 1 := by omega
  iterate 10 refine Below.setCell ?_ n1 _
  iterate 1 refine Below.setCell ?_ (show w.heap.size ≤ w.heap.size from Nat.le_refl _) _
  exact HX3.out
theorem fgood_no {w : World} {p g bm N : Nat} {ws : List Int} {R : List (Nat × Nat)} (H : ArenaAt w p g bm N ws R) (hW : ∀ x ∈ ws, W64 x) (hp : Hp) (hw : (Lit.int .i64 hp.base).wf = true) (ht : thereB R hp = true) (h0 : hp.top = 0) (hk : OpLie w)
    (x : PgI) (hx : PgP w x) (hg : goodP x.p = false) :
    Calls Tryd.prog 13 #[.pointer (some ⟨p, 0, none⟩), .agg #[x.vf, x.vs, x.vo], machV hp.base hp.half hp.space hp.top (.slice none 0 0) (.slice none 0 0) (.slice none 0 0) 7 1 0] w fun e w' => e = .returned (.bool false) ∧ Ext w w' := by
  have HA := Lib.hid (fun W (e : Ext w W) => oall_is (H.ext e) hp hw hW)
  rw [all_empty ht h0] at HA
  have HG := Lib.hid (fun W (e : Ext w W) => code_good (hk.ext e) x (hx.ext e))
  rw [hg] at HG
  obtain ⟨pf, ps, po, hfn, ho⟩ := hx
  obtain ⟨F, S, O, vf, vs, vo⟩ := x
  dsimp only at pf ps po hfn HG ⊢
  obtain ⟨qf, nf, cf, rfl⟩ : ∃ q n c, vf = .slice q n c := by obtain ⟨q, c, hv, -⟩ := pf.at; exact ⟨q, _, c, hv⟩
  obtain ⟨qs, ns, cs, rfl⟩ : ∃ q n c, vs = .slice q n c := by obtain ⟨q, c, hv, -⟩ := ps.at; exact ⟨q, _, c, hv⟩
  obtain ⟨qo, no, co, rfl⟩ : ∃ q n c, vo = .slice q n c := by obtain ⟨q, c, hv, -⟩ := po.at; exact ⟨q, _, c, hv⟩
  obtain ⟨ba, ha, sp, tp⟩ := hp
  dsimp only at HA ⊢
  clear pf ps po hfn ho hk hg ht h0 H
  unfold machV
  go_enter Tryd.func13, Tryd.ntmps13
  go_upto_region 1 with fail
  refine wp_alloc2 fun W hE hS b0 b1 => ?_
  obtain ⟨l0, l1, l2⟩ := cells3 b0
  obtain ⟨m0, m1, m2, m3, m4, m5, m6, m7, m8, m9⟩ := cells10 b1
  have HX := Lib.hid hE
  have B0 := Lib.hid b0; have B1 := Lib.hid b1
  clear hE hS b0 b1
  go_wp2_with fail
  refine (HA.out _ HX.out).mono ?_
  rintro e w1 ⟨ql, ll, cl, rfl, hx1, -, hL⟩
  obtain ⟨rfl, -⟩ := hL [] rfl
  rw [List.length_nil, Option.isSome_some]
  have c0 := (Below.block hx1 w.heap.size ((Array.getElem?_eq_some_iff.1 B0.out).1)).trans B0.out
  have c1 := (Below.block hx1 (w.heap.size + 1) ((Array.getElem?_eq_some_iff.1 B1.out).1)).trans B1.out
  have HX1 := Lib.hid (HX.out.trans hx1)
  clear l0 l1 l2 m0 m1 m2 m3 m4 m5 m6 m7 m8 m9 hx1 HX B0 B1 hL HA
  obtain ⟨l0, l1, l2⟩ := cells3 c0
  obtain ⟨m0, m1, m2, m3, m4, m5, m6, m7, m8, m9⟩ := cells10 c1
  clear c0 c1
  go_wp2_with fail
  refine (HG.out _ HX1.out).mono ?_
  rintro e w2 ⟨rfl, hx2⟩
  have HX2 := Lib.hid (HX1.out.trans hx2)
  clear l0 l1 l2 m0 m1 m2 m3 m4 m5 m6 m7 m8 m9 hx2 HX1 HG
  go_wp2_with fail
  go_ret
  exact ⟨rfl, HX2.out⟩
end Go.Proofs.YtgiopklnielglaaDoor
/- stockpotref07.Forms: which forms may be (the reference's). Printed by mkcodd.py. -/
namespace Go.Proofs.YtgiopklnielglaaDoor
open Go.RowKit
set_option maxHeartbeats 8000000
set_option maxRecDepth 100000
theorem forms_is {w : World} {v : Value} (L : List FoI) (hL : RowsP w v 4 (L.map foC)) (hM : ∀ y ∈ L, FoP w y) (hn : L.length ≤ 1000000) : Calls Tryd.prog 28 #[v] w fun e w' => e = .returned (.bool (refForms (L.map (·.f)))) ∧ Ext w w' := by
  have hgf : refForms (L.map (·.f)) = (L.all (fun f => refFo f.f L.length) && decide (L.length ≤ 40)) := by
    unfold refForms
    simp only [List.length_map, List.all_map]
    rfl
  rw [hgf]
  clear hgf
  obtain ⟨q, c, rfl, h1, h2, hc⟩ := hL.at
  rw [List.length_map] at h1 ⊢
  have HC := Lib.hid hc; have HM := Lib.hid hM
  clear hL hc hM
  unfold maxLen at h2
  generalize hN : L.length = N at *
  have HN := Lib.hid hN
  clear hN
  obtain ⟨P, hP⟩ : ∃ P : FoI → Bool, P = fun f => refFo f.f N := ⟨_, rfl⟩
  rw [← hP]
  go_enter Tryd.func28, Tryd.ntmps28
  go_wp2_with fail
  go_loopw [4] (fun i wr => ∃ j : Nat, j ≤ N ∧ i = .int .i64 j ∧ L.all P = (L.drop j).all P ∧ Ext w wr) (fun i _ => N - (Go.RowKit.intOf i).toNat)
  case atStart => exact ⟨0, by omega, rfl, rfl, Ext.refl _⟩
  case round =>
    obtain ⟨j, hj, rfl, ha, hx⟩ := hrel
    have HA := Lib.hid ha
    have HX := Lib.hid hx
    clear ha hx
    by_cases hlt : j < N
    · obtain ⟨x, hxk⟩ : ∃ x, L[j]? = some x := ⟨_, List.getElem?_eq_getElem (by rw [HN.out]; exact hlt)⟩
      have hxm := HM.out x (List.mem_of_getElem? hxk)
      obtain ⟨b, off, rfl, hcell⟩ := HC.out j (foC x) (by rw [List.getElem?_map, hxk]; rfl)
      have y0 := HX.out.cell (hcell 0 _ rfl); have y1 := HX.out.cell (hcell 1 _ rfl); have y2 := HX.out.cell (hcell 2 _ rfl); have y3 := HX.out.cell (hcell 3 _ rfl)
      rw [Nat.add_zero] at y0
      have hd := HA.out.trans (all_drop (p := P) hxk)
      rw [show P x = refFo x.f N by rw [hP]] at hd
      have HD := Lib.hid hd
      have i1 : (j : Int) < (N : Int) := by omega
      clear hcell hxk HA hd HC HM HN
      obtain ⟨⟨kd, fa, fb, cons⟩, v⟩ := x
      unfold FoP at hxm
      dsimp only at y0 y1 y2 y3 HD hxm
      obtain ⟨qx, cx, rfl, hx1, hx2, hxc⟩ := hxm.at
      rw [List.length_map] at hx1 y3
      have HXC := Lib.hid hxc
      clear hxm hxc
      unfold maxLen at hx2
      go_upto_region 6 with fail
      refine wp_alloc1 fun W hE hS b0 => ?_
      obtain ⟨x0, x1, x2, x3⟩ := cells4 b0
      have HX2 := Lib.hid (HX.out.trans hE)
      clear HX hE hS b0 y0 y1 y2 y3
      go_big_quiet (fail)
      go_upto_region 7 with fail
      refine wp_gen (fun W2 => W2.cell? ⟨wr.heap.size, 0, none⟩ = some (.int .i64 kd) ∧ W2.cell? ⟨wr.heap.size, 1, none⟩ = some (.int .i64 fa) ∧ W2.cell? ⟨wr.heap.size, 2, none⟩ = some (.int .i64 fb) ∧ W2.cell? ⟨wr.heap.size, 3, none⟩ = some (.slice qx cons.length cx) ∧ Ext w W2) ⟨x0, x1, x2, x3, by first | exact HX2.out | exact HX2.out.trans (Ext.drewN _ _)⟩ ?_
      clear x0 x1 x2 x3 HX2
      rintro W2 ⟨x0, x1, x2, x3, hx⟩
      have HX := Lib.hid hx
      clear hx
      generalize wr.heap.size = g at *
      by_cases k1 : kd = 1
      · subst k1
        by_cases ha : fa = 0
        · have ta : (fa == 0) = true := beq_iff_eq.2 ha
          by_cases hb : fb = 0
          · have tb : (fb == 0) = true := beq_iff_eq.2 hb
            by_cases hl : cons.length = 0
            · have tl : (cons.length == 0) = true := beq_iff_eq.2 hl
              have tl' : ((cons.length : Int) == 0) = true := by rw [hl]; rfl
              have hr : refFo ⟨1, fa, fb, cons⟩ N = true := by unfold refFo; simp [ha, hb, hl]
              rw [hr] at HD
              clear hr HXC ha hb hl
              go_wp2_with fail
              exact ⟨⟨j + 1, by omega, by go_num, by rw [HD.out, Bool.true_and], HX.out⟩, by simp [Go.RowKit.intOf]; omega⟩
            · have tl : (cons.length == 0) = false := beq_false_of_ne hl
              have tl' : ((cons.length : Int) == 0) = false := beq_false_of_ne (by omega)
              have hr : refFo ⟨1, fa, fb, cons⟩ N = false := by unfold refFo; simp [hl]
              rw [hr] at HD
              clear hr HXC ha hb hl
              go_wp2_with fail
              go_ret
              exact ⟨by rw [HD.out, Bool.false_and]; rfl, HX.out⟩
          · have tb : (fb == 0) = false := beq_false_of_ne hb
            have hr : refFo ⟨1, fa, fb, cons⟩ N = false := by unfold refFo; simp [hb]
            rw [hr] at HD
            clear hr HXC ha hb
            go_wp2_with fail
            go_ret
            exact ⟨by rw [HD.out, Bool.false_and]; rfl, HX.out⟩
        · have ta : (fa == 0) = false := beq_false_of_ne ha
          have hr : refFo ⟨1, fa, fb, cons⟩ N = false := by unfold refFo; simp [ha]
          rw [hr] at HD
          clear hr HXC ha
          go_wp2_with fail
          go_ret
          exact ⟨by rw [HD.out, Bool.false_and]; rfl, HX.out⟩
      by_cases k2 : kd = 2
      · subst k2
        clear k1
        by_cases ha : fa = 0
        · have ta : (fa == 0) = true := beq_iff_eq.2 ha
          by_cases hb : fb = 0
          · have tb : (fb == 0) = true := beq_iff_eq.2 hb
            by_cases hl : cons.length = 0
            · have tl : (cons.length == 0) = true := beq_iff_eq.2 hl
              have tl' : ((cons.length : Int) == 0) = true := by rw [hl]; rfl
              have hr : refFo ⟨2, fa, fb, cons⟩ N = true := by unfold refFo; simp [ha, hb, hl]
              rw [hr] at HD
              clear hr HXC ha hb hl
              go_wp2_with fail
              exact ⟨⟨j + 1, by omega, by go_num, by rw [HD.out, Bool.true_and], HX.out⟩, by simp [Go.RowKit.intOf]; omega⟩
            · have tl : (cons.length == 0) = false := beq_false_of_ne hl
              have tl' : ((cons.length : Int) == 0) = false := beq_false_of_ne (by omega)
              have hr : refFo ⟨2, fa, fb, cons⟩ N = false := by unfold refFo; simp [hl]
              rw [hr] at HD
              clear hr HXC ha hb hl
              go_wp2_with fail
              go_ret
              exact ⟨by rw [HD.out, Bool.false_and]; rfl, HX.out⟩
          · have tb : (fb == 0) = false := beq_false_of_ne hb
            have hr : refFo ⟨2, fa, fb, cons⟩ N = false := by unfold refFo; simp [hb]
            rw [hr] at HD
            clear hr HXC ha hb
            go_wp2_with fail
            go_ret
            exact ⟨by rw [HD.out, Bool.false_and]; rfl, HX.out⟩
        · have ta : (fa == 0) = false := beq_false_of_ne ha
          have hr : refFo ⟨2, fa, fb, cons⟩ N = false := by unfold refFo; simp [ha]
          rw [hr] at HD
          clear hr HXC ha
          go_wp2_with fail
          go_ret
          exact ⟨by rw [HD.out, Bool.false_and]; rfl, HX.out⟩
      by_cases k3 : kd = 3
      · subst k3
        clear k1 k2
        by_cases ha : fa = 0
        · have ta : (fa == 0) = true := beq_iff_eq.2 ha
          by_cases hb : fb = 0
          · have tb : (fb == 0) = true := beq_iff_eq.2 hb
            by_cases hl : cons.length = 0
            · have tl : (cons.length == 0) = true := beq_iff_eq.2 hl
              have tl' : ((cons.length : Int) == 0) = true := by rw [hl]; rfl
              have hr : refFo ⟨3, fa, fb, cons⟩ N = true := by unfold refFo; simp [ha, hb, hl]
              rw [hr] at HD
              clear hr HXC ha hb hl
              go_wp2_with fail
              exact ⟨⟨j + 1, by omega, by go_num, by rw [HD.out, Bool.true_and], HX.out⟩, by simp [Go.RowKit.intOf]; omega⟩
            · have tl : (cons.length == 0) = false := beq_false_of_ne hl
              have tl' : ((cons.length : Int) == 0) = false := beq_false_of_ne (by omega)
              have hr : refFo ⟨3, fa, fb, cons⟩ N = false := by unfold refFo; simp [hl]
              rw [hr] at HD
              clear hr HXC ha hb hl
              go_wp2_with fail
              go_ret
              exact ⟨by rw [HD.out, Bool.false_and]; rfl, HX.out⟩
          · have tb : (fb == 0) = false := beq_false_of_ne hb
            have hr : refFo ⟨3, fa, fb, cons⟩ N = false := by unfold refFo; simp [hb]
            rw [hr] at HD
            clear hr HXC ha hb
            go_wp2_with fail
            go_ret
            exact ⟨by rw [HD.out, Bool.false_and]; rfl, HX.out⟩
        · have ta : (fa == 0) = false := beq_false_of_ne ha
          have hr : refFo ⟨3, fa, fb, cons⟩ N = false := by unfold refFo; simp [ha]
          rw [hr] at HD
          clear hr HXC ha
          go_wp2_with fail
          go_ret
          exact ⟨by rw [HD.out, Bool.false_and]; rfl, HX.out⟩
      by_cases k4 : kd = 4
      · subst k4
        clear k1 k2 k3
        by_cases ha : fa = 0
        · have ta : (fa == 0) = true := beq_iff_eq.2 ha
          by_cases hb : fb = 0
          · have tb : (fb == 0) = true := beq_iff_eq.2 hb
            by_cases hl : cons.length = 0
            · have tl : (cons.length == 0) = true := beq_iff_eq.2 hl
              have tl' : ((cons.length : Int) == 0) = true := by rw [hl]; rfl
              have hr : refFo ⟨4, fa, fb, cons⟩ N = true := by unfold refFo; simp [ha, hb, hl]
              rw [hr] at HD
              clear hr HXC ha hb hl
              go_wp2_with fail
              exact ⟨⟨j + 1, by omega, by go_num, by rw [HD.out, Bool.true_and], HX.out⟩, by simp [Go.RowKit.intOf]; omega⟩
            · have tl : (cons.length == 0) = false := beq_false_of_ne hl
              have tl' : ((cons.length : Int) == 0) = false := beq_false_of_ne (by omega)
              have hr : refFo ⟨4, fa, fb, cons⟩ N = false := by unfold refFo; simp [hl]
              rw [hr] at HD
              clear hr HXC ha hb hl
              go_wp2_with fail
              go_ret
              exact ⟨by rw [HD.out, Bool.false_and]; rfl, HX.out⟩
          · have tb : (fb == 0) = false := beq_false_of_ne hb
            have hr : refFo ⟨4, fa, fb, cons⟩ N = false := by unfold refFo; simp [hb]
            rw [hr] at HD
            clear hr HXC ha hb
            go_wp2_with fail
            go_ret
            exact ⟨by rw [HD.out, Bool.false_and]; rfl, HX.out⟩
        · have ta : (fa == 0) = false := beq_false_of_ne ha
          have hr : refFo ⟨4, fa, fb, cons⟩ N = false := by unfold refFo; simp [ha]
          rw [hr] at HD
          clear hr HXC ha
          go_wp2_with fail
          go_ret
          exact ⟨by rw [HD.out, Bool.false_and]; rfl, HX.out⟩
      by_cases k5 : kd = 5
      · subst k5
        clear k1 k2 k3 k4
        by_cases va0 : 0 ≤ fa
        · have tva0 : decide (0 ≤ fa) = true := decide_eq_true va0
          by_cases va1 : fa < N
          · have tva1 : decide (fa < N) = true := decide_eq_true va1
            by_cases vb0 : 0 ≤ fb
            · have tvb0 : decide (0 ≤ fb) = true := decide_eq_true vb0
              by_cases vb1 : fb < N
              · have tvb1 : decide (fb < N) = true := decide_eq_true vb1
                by_cases hl : cons.length = 0
                · have tl : (cons.length == 0) = true := beq_iff_eq.2 hl
                  have tl' : ((cons.length : Int) == 0) = true := by rw [hl]; rfl
                  have hr : refFo ⟨5, fa, fb, cons⟩ N = true := by unfold refFo; simp [hl]; omega
                  rw [hr] at HD
                  clear hr HXC va0 va1 vb0 vb1 hl
                  go_upto_region 14 with fail
                  go_big_quiet (fail)
                  go_wp2_with fail
                  exact ⟨⟨j + 1, by omega, by go_num, by rw [HD.out, Bool.true_and], HX.out.trans (Ext.drewN _ _)⟩, by simp [Go.RowKit.intOf]; omega⟩
                · have tl : (cons.length == 0) = false := beq_false_of_ne hl
                  have tl' : ((cons.length : Int) == 0) = false := beq_false_of_ne (by omega)
                  have hr : refFo ⟨5, fa, fb, cons⟩ N = false := by unfold refFo; simp [hl]
                  rw [hr] at HD
                  clear hr HXC va0 va1 vb0 vb1 hl
                  go_upto_region 14 with fail
                  go_big_quiet (fail)
                  go_wp2_with fail
                  go_ret
                  exact ⟨by rw [HD.out, Bool.false_and]; rfl, HX.out.trans (Ext.drewN _ _)⟩
              · have tvb1 : decide (fb < N) = false := decide_eq_false vb1
                have hr : refFo ⟨5, fa, fb, cons⟩ N = false := by unfold refFo; simp; omega
                rw [hr] at HD
                clear hr HXC va0 va1 vb0 vb1
                go_upto_region 14 with fail
                go_big_quiet (fail)
                go_wp2_with fail
                go_ret
                exact ⟨by rw [HD.out, Bool.false_and]; rfl, HX.out.trans (Ext.drewN _ _)⟩
            · have tvb0 : decide (0 ≤ fb) = false := decide_eq_false vb0
              have hr : refFo ⟨5, fa, fb, cons⟩ N = false := by unfold refFo; simp; omega
              rw [hr] at HD
              clear hr HXC va0 va1 vb0
              go_upto_region 14 with fail
              go_big_quiet (fail)
              go_wp2_with fail
              go_ret
              exact ⟨by rw [HD.out, Bool.false_and]; rfl, HX.out.trans (Ext.drewN _ _)⟩
          · have tva1 : decide (fa < N) = false := decide_eq_false va1
            by_cases vb0 : 0 ≤ fb
            · have tvb0 : decide (0 ≤ fb) = true := decide_eq_true vb0
              by_cases vb1 : fb < N
              · have tvb1 : decide (fb < N) = true := decide_eq_true vb1
                have hr : refFo ⟨5, fa, fb, cons⟩ N = false := by unfold refFo; simp; omega
                rw [hr] at HD
                clear hr HXC va0 va1 vb0 vb1
                go_upto_region 14 with fail
                go_big_quiet (fail)
                go_wp2_with fail
                go_ret
                exact ⟨by rw [HD.out, Bool.false_and]; rfl, HX.out.trans (Ext.drewN _ _)⟩
              · have tvb1 : decide (fb < N) = false := decide_eq_false vb1
                have hr : refFo ⟨5, fa, fb, cons⟩ N = false := by unfold refFo; simp; omega
                rw [hr] at HD
                clear hr HXC va0 va1 vb0 vb1
                go_upto_region 14 with fail
                go_big_quiet (fail)
                go_wp2_with fail
                go_ret
                exact ⟨by rw [HD.out, Bool.false_and]; rfl, HX.out.trans (Ext.drewN _ _)⟩
            · have tvb0 : decide (0 ≤ fb) = false := decide_eq_false vb0
              have hr : refFo ⟨5, fa, fb, cons⟩ N = false := by unfold refFo; simp; omega
              rw [hr] at HD
              clear hr HXC va0 va1 vb0
              go_upto_region 14 with fail
              go_big_quiet (fail)
              go_wp2_with fail
              go_ret
              exact ⟨by rw [HD.out, Bool.false_and]; rfl, HX.out.trans (Ext.drewN _ _)⟩
        · have tva0 : decide (0 ≤ fa) = false := decide_eq_false va0
          by_cases vb0 : 0 ≤ fb
          · have tvb0 : decide (0 ≤ fb) = true := decide_eq_true vb0
            by_cases vb1 : fb < N
            · have tvb1 : decide (fb < N) = true := decide_eq_true vb1
              have hr : refFo ⟨5, fa, fb, cons⟩ N = false := by unfold refFo; simp; omega
              rw [hr] at HD
              clear hr HXC va0 vb0 vb1
              go_upto_region 14 with fail
              go_big_quiet (fail)
              go_wp2_with fail
              go_ret
              exact ⟨by rw [HD.out, Bool.false_and]; rfl, HX.out.trans (Ext.drewN _ _)⟩
            · have tvb1 : decide (fb < N) = false := decide_eq_false vb1
              have hr : refFo ⟨5, fa, fb, cons⟩ N = false := by unfold refFo; simp; omega
              rw [hr] at HD
              clear hr HXC va0 vb0 vb1
              go_upto_region 14 with fail
              go_big_quiet (fail)
              go_wp2_with fail
              go_ret
              exact ⟨by rw [HD.out, Bool.false_and]; rfl, HX.out.trans (Ext.drewN _ _)⟩
          · have tvb0 : decide (0 ≤ fb) = false := decide_eq_false vb0
            have hr : refFo ⟨5, fa, fb, cons⟩ N = false := by unfold refFo; simp; omega
            rw [hr] at HD
            clear hr HXC va0 vb0
            go_upto_region 14 with fail
            go_big_quiet (fail)
            go_wp2_with fail
            go_ret
            exact ⟨by rw [HD.out, Bool.false_and]; rfl, HX.out.trans (Ext.drewN _ _)⟩
      by_cases k6 : kd = 6
      · subst k6
        clear k1 k2 k3 k4 k5
        by_cases va0 : 0 ≤ fa
        · have tva0 : decide (0 ≤ fa) = true := decide_eq_true va0
          by_cases va1 : fa < N
          · have tva1 : decide (fa < N) = true := decide_eq_true va1
            by_cases hb : fb = 0
            · have tb : (fb == 0) = true := beq_iff_eq.2 hb
              by_cases hl : cons.length = 0
              · have tl : (cons.length == 0) = true := beq_iff_eq.2 hl
                have tl' : ((cons.length : Int) == 0) = true := by rw [hl]; rfl
                have hr : refFo ⟨6, fa, fb, cons⟩ N = true := by unfold refFo; simp [hb, hl]; omega
                rw [hr] at HD
                clear hr HXC va0 va1 hb hl
                go_wp2_with fail
                exact ⟨⟨j + 1, by omega, by go_num, by rw [HD.out, Bool.true_and], HX.out⟩, by simp [Go.RowKit.intOf]; omega⟩
              · have tl : (cons.length == 0) = false := beq_false_of_ne hl
                have tl' : ((cons.length : Int) == 0) = false := beq_false_of_ne (by omega)
                have hr : refFo ⟨6, fa, fb, cons⟩ N = false := by unfold refFo; simp [hl]
                rw [hr] at HD
                clear hr HXC va0 va1 hb hl
                go_wp2_with fail
                go_ret
                exact ⟨by rw [HD.out, Bool.false_and]; rfl, HX.out⟩
            · have tb : (fb == 0) = false := beq_false_of_ne hb
              have hr : refFo ⟨6, fa, fb, cons⟩ N = false := by unfold refFo; simp [hb]
              rw [hr] at HD
              clear hr HXC va0 va1 hb
              go_wp2_with fail
              go_ret
              exact ⟨by rw [HD.out, Bool.false_and]; rfl, HX.out⟩
          · have tva1 : decide (fa < N) = false := decide_eq_false va1
            have hr : refFo ⟨6, fa, fb, cons⟩ N = false := by unfold refFo; simp; omega
            rw [hr] at HD
            clear hr HXC va0 va1
            go_wp2_with fail
            go_ret
            exact ⟨by rw [HD.out, Bool.false_and]; rfl, HX.out⟩
        · have tva0 : decide (0 ≤ fa) = false := decide_eq_false va0
          have hr : refFo ⟨6, fa, fb, cons⟩ N = false := by unfold refFo; simp; omega
          rw [hr] at HD
          clear hr HXC va0
          go_wp2_with fail
          go_ret
          exact ⟨by rw [HD.out, Bool.false_and]; rfl, HX.out⟩
      by_cases k7 : kd = 7
      · subst k7
        clear k1 k2 k3 k4 k5 k6
        obtain ⟨Q, hQ⟩ : ∃ Q : Int → Bool, Q = fun c => decide (-1 ≤ c) && decide (c < (N : Int)) := ⟨_, rfl⟩
        have hr : refFo ⟨7, fa, fb, cons⟩ N = ((fa == 0) && (fb == 0) && ((decide (1 ≤ cons.length) && decide (cons.length ≤ 20)) && cons.all Q)) := by
          rw [hQ]
          unfold refFo
          simp [Bool.and_assoc]
          rfl
        rw [hr] at HD
        clear hr
        obtain ⟨r0, hr0⟩ : ∃ r0, (decide (1 ≤ cons.length) && decide (cons.length ≤ 20)) = r0 := ⟨_, rfl⟩
        rw [hr0] at HD
        by_cases l1 : 1 ≤ cons.length
        · have l1' : (1 : Int) ≤ cons.length := by omega
          by_cases l20 : cons.length ≤ 20
          · have l20a : (cons.length : Int) ≤ 20 := by omega
            rw [decide_eq_true l1, decide_eq_true l20] at hr0
            clear l1 l20
            go_wp2_with fail
            go_loopw [8, 9] (fun s i wx => ∃ (k : Nat) (bv : Bool), k ≤ cons.length ∧ i = .int .i64 k ∧ s = .bool bv ∧ (r0 && cons.all Q) = (bv && (cons.drop k).all Q) ∧ wx = W2) (fun _ i _ => cons.length - (Go.RowKit.intOf i).toNat)
            case atStart => exact ⟨0, _, by omega, rfl, rfl, by rw [← hr0]; rfl, by first | rfl | trivial⟩
            case round =>
              obtain ⟨k, bv, hk, rfl, rfl, hb, rfl⟩ := hrel
              have HB := Lib.hid hb
              clear hb hr0
              by_cases hlt2 : k < cons.length
              · obtain ⟨y, hyk⟩ : ∃ y, cons[k]? = some y := ⟨_, List.getElem?_eq_getElem hlt2⟩
                obtain ⟨b2, off2, rfl, hcell⟩ := HXC.out k (ncC y) (by rw [List.getElem?_map, hyk]; rfl)
                have z0 := HX.out.cell (hcell 0 _ rfl)
                rw [Nat.add_zero, Nat.mul_one] at z0
                have i2 : (k : Int) < (cons.length : Int) := by omega
                have HE := Lib.hid (all_drop (p := Q) hyk)
                clear hcell hyk HXC
                cases bv with
                | false =>
                  go_wp2_with fail
                  exact ⟨⟨k + 1, false, by omega, by go_num, rfl, by rw [HB.out]; rfl, by first | rfl | trivial⟩, by simp [Go.RowKit.intOf]; omega⟩
                | true =>
                  by_cases g1 : -1 ≤ y
                  · have u1 : decide (-1 ≤ y) = true := decide_eq_true g1
                    by_cases g2 : y < N
                    · have u2 : decide (y < (N : Int)) = true := decide_eq_true g2
                      have HQ := Lib.hid (show Q y = true by rw [hQ]; simp [g1, g2])
                      go_wp2_with fail
                      exact ⟨⟨k + 1, true, by omega, by go_num, by first | rfl | simp [g1, g2], by rw [HB.out, HE.out, HQ.out]; rfl, by first | rfl | trivial⟩, by simp [Go.RowKit.intOf]; omega⟩
                    · have u2 : decide (y < (N : Int)) = false := decide_eq_false g2
                      have HQ := Lib.hid (show Q y = false by rw [hQ]; simp [g2])
                      go_wp2_with fail
                      exact ⟨⟨k + 1, false, by omega, by go_num, by first | rfl | simp [g2], by rw [HB.out, HE.out, HQ.out]; rfl, by first | rfl | trivial⟩, by simp [Go.RowKit.intOf]; omega⟩
                  · have u1 : decide (-1 ≤ y) = false := decide_eq_false g1
                    have HQ := Lib.hid (show Q y = false by rw [hQ]; simp [g1])
                    clear g1
                    go_wp2_with fail
                    exact ⟨⟨k + 1, false, by omega, by go_num, rfl, by rw [HB.out, HE.out, HQ.out]; rfl, by first | rfl | trivial⟩, by simp [Go.RowKit.intOf]; omega⟩
              · obtain rfl : k = cons.length := by omega
                have hb : (r0 && cons.all Q) = bv := by rw [HB.out, List.drop_length]; simp
                rw [hb] at HD
                clear hb HB HXC
                by_cases ha : fa = 0
                · have ta : (fa == 0) = true := beq_iff_eq.2 ha
                  by_cases hb : fb = 0
                  · have tb : (fb == 0) = true := beq_iff_eq.2 hb
                    rw [ta, tb] at HD
                    clear ha hb
                    cases bv with
                    | true =>
                      go_wp2_with fail
                      exact ⟨⟨j + 1, by omega, by go_num, by rw [HD.out]; rfl, HX.out⟩, by simp [Go.RowKit.intOf]; omega⟩
                    | false =>
                      go_wp2_with fail
                      go_ret
                      exact ⟨by rw [HD.out]; rfl, HX.out⟩
                  · have tb : (fb == 0) = false := beq_false_of_ne hb
                    rw [ta, tb] at HD
                    clear ha hb
                    go_wp2_with fail
                    go_ret
                    exact ⟨by rw [HD.out]; rfl, HX.out⟩
                · have ta : (fa == 0) = false := beq_false_of_ne ha
                  rw [ta] at HD
                  clear ha
                  go_wp2_with fail
                  go_ret
                  exact ⟨by rw [HD.out]; rfl, HX.out⟩
          · have l20a : ¬ (cons.length : Int) ≤ 20 := by omega
            rw [decide_eq_true l1, decide_eq_false l20] at hr0
            clear l1 l20
            go_wp2_with fail
            go_loopw [8, 9] (fun s i wx => ∃ (k : Nat) (bv : Bool), k ≤ cons.length ∧ i = .int .i64 k ∧ s = .bool bv ∧ (r0 && cons.all Q) = (bv && (cons.drop k).all Q) ∧ wx = W2) (fun _ i _ => cons.length - (Go.RowKit.intOf i).toNat)
            case atStart => exact ⟨0, _, by omega, rfl, rfl, by rw [← hr0]; rfl, by first | rfl | trivial⟩
            case round =>
              obtain ⟨k, bv, hk, rfl, rfl, hb, rfl⟩ := hrel
              have HB := Lib.hid hb
              clear hb hr0
              by_cases hlt2 : k < cons.length
              · obtain ⟨y, hyk⟩ : ∃ y, cons[k]? = some y := ⟨_, List.getElem?_eq_getElem hlt2⟩
                obtain ⟨b2, off2, rfl, hcell⟩ := HXC.out k (ncC y) (by rw [List.getElem?_map, hyk]; rfl)
                have z0 := HX.out.cell (hcell 0 _ rfl)
                rw [Nat.add_zero, Nat.mul_one] at z0
                have i2 : (k : Int) < (cons.length : Int) := by omega
                have HE := Lib.hid (all_drop (p := Q) hyk)
                clear hcell hyk HXC
                cases bv with
                | false =>
                  go_wp2_with fail
                  exact ⟨⟨k + 1, false, by omega, by go_num, rfl, by rw [HB.out]; rfl, by first | rfl | trivial⟩, by simp [Go.RowKit.intOf]; omega⟩
                | true =>
                  by_cases g1 : -1 ≤ y
                  · have u1 : decide (-1 ≤ y) = true := decide_eq_true g1
                    by_cases g2 : y < N
                    · have u2 : decide (y < (N : Int)) = true := decide_eq_true g2
                      have HQ := Lib.hid (show Q y = true by rw [hQ]; simp [g1, g2])
                      go_wp2_with fail
                      exact ⟨⟨k + 1, true, by omega, by go_num, by first | rfl | simp [g1, g2], by rw [HB.out, HE.out, HQ.out]; rfl, by first | rfl | trivial⟩, by simp [Go.RowKit.intOf]; omega⟩
                    · have u2 : decide (y < (N : Int)) = false := decide_eq_false g2
                      have HQ := Lib.hid (show Q y = false by rw [hQ]; simp [g2])
                      go_wp2_with fail
                      exact ⟨⟨k + 1, false, by omega, by go_num, by first | rfl | simp [g2], by rw [HB.out, HE.out, HQ.out]; rfl, by first | rfl | trivial⟩, by simp [Go.RowKit.intOf]; omega⟩
                  · have u1 : decide (-1 ≤ y) = false := decide_eq_false g1
                    have HQ := Lib.hid (show Q y = false by rw [hQ]; simp [g1])
                    clear g1
                    go_wp2_with fail
                    exact ⟨⟨k + 1, false, by omega, by go_num, rfl, by rw [HB.out, HE.out, HQ.out]; rfl, by first | rfl | trivial⟩, by simp [Go.RowKit.intOf]; omega⟩
              · obtain rfl : k = cons.length := by omega
                have hb : (r0 && cons.all Q) = bv := by rw [HB.out, List.drop_length]; simp
                rw [hb] at HD
                clear hb HB HXC
                by_cases ha : fa = 0
                · have ta : (fa == 0) = true := beq_iff_eq.2 ha
                  by_cases hb : fb = 0
                  · have tb : (fb == 0) = true := beq_iff_eq.2 hb
                    rw [ta, tb] at HD
                    clear ha hb
                    cases bv with
                    | true =>
                      go_wp2_with fail
                      exact ⟨⟨j + 1, by omega, by go_num, by rw [HD.out]; rfl, HX.out⟩, by simp [Go.RowKit.intOf]; omega⟩
                    | false =>
                      go_wp2_with fail
                      go_ret
                      exact ⟨by rw [HD.out]; rfl, HX.out⟩
                  · have tb : (fb == 0) = false := beq_false_of_ne hb
                    rw [ta, tb] at HD
                    clear ha hb
                    go_wp2_with fail
                    go_ret
                    exact ⟨by rw [HD.out]; rfl, HX.out⟩
                · have ta : (fa == 0) = false := beq_false_of_ne ha
                  rw [ta] at HD
                  clear ha
                  go_wp2_with fail
                  go_ret
                  exact ⟨by rw [HD.out]; rfl, HX.out⟩
        · have l20 := l1
          have l1' : ¬ (1 : Int) ≤ cons.length := by omega
          rw [decide_eq_false l1] at hr0
          clear l1 l20
          go_wp2_with fail
          go_loopw [8, 9] (fun s i wx => ∃ (k : Nat) (bv : Bool), k ≤ cons.length ∧ i = .int .i64 k ∧ s = .bool bv ∧ (r0 && cons.all Q) = (bv && (cons.drop k).all Q) ∧ wx = W2) (fun _ i _ => cons.length - (Go.RowKit.intOf i).toNat)
          case atStart => exact ⟨0, _, by omega, rfl, rfl, by rw [← hr0]; rfl, by first | rfl | trivial⟩
          case round =>
            obtain ⟨k, bv, hk, rfl, rfl, hb, rfl⟩ := hrel
            have HB := Lib.hid hb
            clear hb hr0
            by_cases hlt2 : k < cons.length
            · exact absurd hlt2 (by omega)
            · obtain rfl : k = cons.length := by omega
              have hb : (r0 && cons.all Q) = bv := by rw [HB.out, List.drop_length]; simp
              rw [hb] at HD
              clear hb HB HXC
              by_cases ha : fa = 0
              · have ta : (fa == 0) = true := beq_iff_eq.2 ha
                by_cases hb : fb = 0
                · have tb : (fb == 0) = true := beq_iff_eq.2 hb
                  rw [ta, tb] at HD
                  clear ha hb
                  cases bv with
                  | true =>
                    go_wp2_with fail
                    exact ⟨⟨j + 1, by omega, by go_num, by rw [HD.out]; rfl, HX.out⟩, by simp [Go.RowKit.intOf]; omega⟩
                  | false =>
                    go_wp2_with fail
                    go_ret
                    exact ⟨by rw [HD.out]; rfl, HX.out⟩
                · have tb : (fb == 0) = false := beq_false_of_ne hb
                  rw [ta, tb] at HD
                  clear ha hb
                  go_wp2_with fail
                  go_ret
                  exact ⟨by rw [HD.out]; rfl, HX.out⟩
              · have ta : (fa == 0) = false := beq_false_of_ne ha
                rw [ta] at HD
                clear ha
                go_wp2_with fail
                go_ret
                exact ⟨by rw [HD.out]; rfl, HX.out⟩
      have hr : refFo ⟨kd, fa, fb, cons⟩ N = false := by unfold refFo; simp [k1, k2, k3, k4, k5, k6, k7]
      have e1 : (kd == 1) = false := beq_false_of_ne k1
      have e2 : (kd == 2) = false := beq_false_of_ne k2
      have e3 : (kd == 3) = false := beq_false_of_ne k3
      have e4 : (kd == 4) = false := beq_false_of_ne k4
      have e5 : (kd == 5) = false := beq_false_of_ne k5
      have e6 : (kd == 6) = false := beq_false_of_ne k6
      have e7 : (kd == 7) = false := beq_false_of_ne k7
      rw [hr] at HD
      clear hr HXC k1 k2 k3 k4 k5 k6 k7
      go_wp2_with fail
      go_ret
      exact ⟨by rw [HD.out, Bool.false_and]; rfl, HX.out⟩
    · obtain rfl : j = N := by omega
      have HD := Lib.hid (show L.all P = true by rw [HA.out, ← HN.out, List.drop_length]; rfl)
      clear HA HC HM HN
      by_cases h40 : j ≤ 40
      · have t40 : (j : Int) ≤ 40 := by omega
        have t40' : decide (j ≤ 40) = true := decide_eq_true h40
        go_wp2_with fail
        go_ret
        exact ⟨by first | (rw [HD.out, t40']; rfl) | rfl, HX.out⟩
      · have t40 : ¬ (j : Int) ≤ 40 := by omega
        have t40' : decide (j ≤ 40) = false := decide_eq_false h40
        go_wp2_with fail
        go_ret
        exact ⟨by first | (rw [HD.out, t40']; rfl) | rfl, HX.out⟩
end Go.Proofs.YtgiopklnielglaaDoor
/- stockpotref06.Good: which instruction may be, by the reference. -/
namespace Go.Proofs.YtgiopklnielglaaDoor
open Go.RowKit
set_option maxHeartbeats 4000000
set_option maxRecDepth 100000
theorem rin_is (v a b : Int) (w : World) : Calls Tryd.prog 45 #[.int .i64 v, .int .i64 a, .int .i64 b] w fun e w' => e = .returned (.bool (inB v a b)) ∧ w = w' := by
  unfold inB
  by_cases h : a ≤ v
  · have h1 : decide (a ≤ v) = true := decide_eq_true h
    rw [h1]
    go_enter Tryd.func45, Tryd.ntmps45
    go_wp2
    go_ret
    exact ⟨rfl, rfl⟩
  · have h1 : decide (a ≤ v) = false := decide_eq_false h
    rw [h1]
    go_enter Tryd.func45, Tryd.ntmps45
    go_wp2
    go_ret
    exact ⟨rfl, rfl⟩
theorem name_yes (op : Int) (h0 : 0 ≤ op) (h1 : op < 38) (w : World) : Calls Tryd.prog 46 #[.int .i64 op] w fun e w' => ∃ s, e = .returned (.string s) ∧ s.toList.isEmpty = false ∧ w = w' := by
  have h : op = 0 ∨ op = 1 ∨ op = 2 ∨ op = 3 ∨ op = 4 ∨ op = 5 ∨ op = 6 ∨ op = 7 ∨ op = 8 ∨ op = 9 ∨ op = 10 ∨ op = 11 ∨ op = 12 ∨ op = 13 ∨ op = 14 ∨ op = 15 ∨ op = 16 ∨ op = 17 ∨ op = 18 ∨ op = 19 ∨ op = 20 ∨ op = 21 ∨ op = 22 ∨ op = 23 ∨ op = 24 ∨ op = 25 ∨ op = 26 ∨ op = 27 ∨ op = 28 ∨ op = 29 ∨ op = 30 ∨ op = 31 ∨ op = 32 ∨ op = 33 ∨ op = 34 ∨ op = 35 ∨ op = 36 ∨ op = 37 := by omega
  clear h0 h1
  rcases h with rfl | rfl | rfl | rfl | rfl | rfl | rfl | rfl | rfl | rfl | rfl | rfl | rfl | rfl | rfl | rfl | rfl | rfl | rfl | rfl | rfl | rfl | rfl | rfl | rfl | rfl | rfl | rfl | rfl | rfl | rfl | rfl | rfl | rfl | rfl | rfl | rfl | rfl
  all_goals
    go_enter Tryd.func46, Tryd.ntmps46
    go_wp2
    go_ret
    exact ⟨_, rfl, by rw [ByteArray.toList_eq]; rfl, rfl⟩
theorem name_no (op : Int) (h : op < 0 ∨ 38 ≤ op) (w : World) : Calls Tryd.prog 46 #[.int .i64 op] w fun e w' => e = .returned (.string ⟨#[]⟩) ∧ w = w' := by
  have k0 : (op == 0) = false := beq_false_of_ne (by omega)
  have k1 : (op == 1) = false := beq_false_of_ne (by omega)
  have k2 : (op == 2) = false := beq_false_of_ne (by omega)
  have k3 : (op == 3) = false := beq_false_of_ne (by omega)
  have k4 : (op == 4) = false := beq_false_of_ne (by omega)
  have k5 : (op == 5) = false := beq_false_of_ne (by omega)
  have k6 : (op == 6) = false := beq_false_of_ne (by omega)
  have k7 : (op == 7) = false := beq_false_of_ne (by omega)
  have k8 : (op == 8) = false := beq_false_of_ne (by omega)
  have k9 : (op == 9) = false := beq_false_of_ne (by omega)
  have k10 : (op == 10) = false := beq_false_of_ne (by omega)
  have k11 : (op == 11) = false := beq_false_of_ne (by omega)
  have k12 : (op == 12) = false := beq_false_of_ne (by omega)
  have k13 : (op == 13) = false := beq_false_of_ne (by omega)
  have k14 : (op == 14) = false := beq_false_of_ne (by omega)
  have k15 : (op == 15) = false := beq_false_of_ne (by omega)
  have k16 : (op == 16) = false := beq_false_of_ne (by omega)
  have k17 : (op == 17) = false := beq_false_of_ne (by omega)
  have k18 : (op == 18) = false := beq_false_of_ne (by omega)
  have k19 : (op == 19) = false := beq_false_of_ne (by omega)
  have k20 : (op == 20) = false := beq_false_of_ne (by omega)
  have k21 : (op == 21) = false := beq_false_of_ne (by omega)
  have k22 : (op == 22) = false := beq_false_of_ne (by omega)
  have k23 : (op == 23) = false := beq_false_of_ne (by omega)
  have k24 : (op == 24) = false := beq_false_of_ne (by omega)
  have k25 : (op == 25) = false := beq_false_of_ne (by omega)
  have k26 : (op == 26) = false := beq_false_of_ne (by omega)
  have k27 : (op == 27) = false := beq_false_of_ne (by omega)
  have k28 : (op == 28) = false := beq_false_of_ne (by omega)
  have k29 : (op == 29) = false := beq_false_of_ne (by omega)
  have k30 : (op == 30) = false := beq_false_of_ne (by omega)
  have k31 : (op == 31) = false := beq_false_of_ne (by omega)
  have k32 : (op == 32) = false := beq_false_of_ne (by omega)
  have k33 : (op == 33) = false := beq_false_of_ne (by omega)
  have k34 : (op == 34) = false := beq_false_of_ne (by omega)
  have k35 : (op == 35) = false := beq_false_of_ne (by omega)
  have k36 : (op == 36) = false := beq_false_of_ne (by omega)
  have k37 : (op == 37) = false := beq_false_of_ne (by omega)
  clear h
  go_enter Tryd.func46, Tryd.ntmps46
  go_wp2
  go_ret
  exact ⟨rfl, rfl⟩
theorem rgood_1 (a b : Int) (w : World) : Calls Tryd.prog 29 #[.agg #[.int .i64 1, .int .i64 a, .int .i64 b]] w fun e w' => e = .returned (.bool (refI ⟨1, a, b⟩)) ∧ Ext w w' := by
  rw [show refI ⟨1, a, b⟩ = (decide (b = 0) && inB a 0 39) from rfl]
  have HA := Lib.hid (fun W => rin_is a 0 39 W)
  by_cases hb : b = 0
  · have tb : (b == 0) = true := beq_iff_eq.2 hb
    rw [decide_eq_true hb, Bool.true_and]
    clear hb
    go_enter Tryd.func29, Tryd.ntmps29
    go_wp2_with fail
    refine (HA.out _).mono ?_; rintro e' w1 ⟨rfl, rfl⟩
    go_wp2_with fail
    go_ret
    exact ⟨rfl, Ext.alloc _ _⟩
  · have tb : (b == 0) = false := beq_false_of_ne hb
    rw [decide_eq_false hb, Bool.false_and]
    clear hb HA
    go_enter Tryd.func29, Tryd.ntmps29
    go_wp2_with fail
    go_ret
    exact ⟨rfl, Ext.alloc _ _⟩
theorem rgood_2 (a b : Int) (w : World) : Calls Tryd.prog 29 #[.agg #[.int .i64 2, .int .i64 a, .int .i64 b]] w fun e w' => e = .returned (.bool (refI ⟨2, a, b⟩)) ∧ Ext w w' := by
  rw [show refI ⟨2, a, b⟩ = (decide (b = 0) && inB a 0 59) from rfl]
  have HA := Lib.hid (fun W => rin_is a 0 59 W)
  by_cases hb : b = 0
  · have tb : (b == 0) = true := beq_iff_eq.2 hb
    rw [decide_eq_true hb, Bool.true_and]
    clear hb
    go_enter Tryd.func29, Tryd.ntmps29
    go_wp2_with fail
    refine (HA.out _).mono ?_; rintro e' w1 ⟨rfl, rfl⟩
    go_wp2_with fail
    go_ret
    exact ⟨rfl, Ext.alloc _ _⟩
  · have tb : (b == 0) = false := beq_false_of_ne hb
    rw [decide_eq_false hb, Bool.false_and]
    clear hb HA
    go_enter Tryd.func29, Tryd.ntmps29
    go_wp2_with fail
    go_ret
    exact ⟨rfl, Ext.alloc _ _⟩
theorem rgood_3 (a b : Int) (w : World) : Calls Tryd.prog 29 #[.agg #[.int .i64 3, .int .i64 a, .int .i64 b]] w fun e w' => e = .returned (.bool (refI ⟨3, a, b⟩)) ∧ Ext w w' := by
  rw [show refI ⟨3, a, b⟩ = (decide (b = 0) && inB a 0 59) from rfl]
  have HA := Lib.hid (fun W => rin_is a 0 59 W)
  by_cases hb : b = 0
  · have tb : (b == 0) = true := beq_iff_eq.2 hb
    rw [decide_eq_true hb, Bool.true_and]
    clear hb
    go_enter Tryd.func29, Tryd.ntmps29
    go_wp2_with fail
    refine (HA.out _).mono ?_; rintro e' w1 ⟨rfl, rfl⟩
    go_wp2_with fail
    go_ret
    exact ⟨rfl, Ext.alloc _ _⟩
  · have tb : (b == 0) = false := beq_false_of_ne hb
    rw [decide_eq_false hb, Bool.false_and]
    clear hb HA
    go_enter Tryd.func29, Tryd.ntmps29
    go_wp2_with fail
    go_ret
    exact ⟨rfl, Ext.alloc _ _⟩
theorem rgood_4 (a b : Int) (w : World) : Calls Tryd.prog 29 #[.agg #[.int .i64 4, .int .i64 a, .int .i64 b]] w fun e w' => e = .returned (.bool (refI ⟨4, a, b⟩)) ∧ Ext w w' := by
  rw [show refI ⟨4, a, b⟩ = (decide (b = 0) && inB a 0 29) from rfl]
  have HA := Lib.hid (fun W => rin_is a 0 29 W)
  by_cases hb : b = 0
  · have tb : (b == 0) = true := beq_iff_eq.2 hb
    rw [decide_eq_true hb, Bool.true_and]
    clear hb
    go_enter Tryd.func29, Tryd.ntmps29
    go_wp2_with fail
    refine (HA.out _).mono ?_; rintro e' w1 ⟨rfl, rfl⟩
    go_wp2_with fail
    go_ret
    exact ⟨rfl, Ext.alloc _ _⟩
  · have tb : (b == 0) = false := beq_false_of_ne hb
    rw [decide_eq_false hb, Bool.false_and]
    clear hb HA
    go_enter Tryd.func29, Tryd.ntmps29
    go_wp2_with fail
    go_ret
    exact ⟨rfl, Ext.alloc _ _⟩
theorem rgood_10 (a b : Int) (w : World) : Calls Tryd.prog 29 #[.agg #[.int .i64 10, .int .i64 a, .int .i64 b]] w fun e w' => e = .returned (.bool (refI ⟨10, a, b⟩)) ∧ Ext w w' := by
  rw [show refI ⟨10, a, b⟩ = (decide (b = 0) && inB a 0 599) from rfl]
  have HA := Lib.hid (fun W => rin_is a 0 599 W)
  by_cases hb : b = 0
  · have tb : (b == 0) = true := beq_iff_eq.2 hb
    rw [decide_eq_true hb, Bool.true_and]
    clear hb
    go_enter Tryd.func29, Tryd.ntmps29
    go_wp2_with fail
    refine (HA.out _).mono ?_; rintro e' w1 ⟨rfl, rfl⟩
    go_wp2_with fail
    go_ret
    exact ⟨rfl, Ext.alloc _ _⟩
  · have tb : (b == 0) = false := beq_false_of_ne hb
    rw [decide_eq_false hb, Bool.false_and]
    clear hb HA
    go_enter Tryd.func29, Tryd.ntmps29
    go_wp2_with fail
    go_ret
    exact ⟨rfl, Ext.alloc _ _⟩
theorem rgood_11 (a b : Int) (w : World) : Calls Tryd.prog 29 #[.agg #[.int .i64 11, .int .i64 a, .int .i64 b]] w fun e w' => e = .returned (.bool (refI ⟨11, a, b⟩)) ∧ Ext w w' := by
  rw [show refI ⟨11, a, b⟩ = (decide (b = 0) && inB a 0 599) from rfl]
  have HA := Lib.hid (fun W => rin_is a 0 599 W)
  by_cases hb : b = 0
  · have tb : (b == 0) = true := beq_iff_eq.2 hb
    rw [decide_eq_true hb, Bool.true_and]
    clear hb
    go_enter Tryd.func29, Tryd.ntmps29
    go_wp2_with fail
    refine (HA.out _).mono ?_; rintro e' w1 ⟨rfl, rfl⟩
    go_wp2_with fail
    go_ret
    exact ⟨rfl, Ext.alloc _ _⟩
  · have tb : (b == 0) = false := beq_false_of_ne hb
    rw [decide_eq_false hb, Bool.false_and]
    clear hb HA
    go_enter Tryd.func29, Tryd.ntmps29
    go_wp2_with fail
    go_ret
    exact ⟨rfl, Ext.alloc _ _⟩
theorem rgood_33 (a b : Int) (w : World) : Calls Tryd.prog 29 #[.agg #[.int .i64 33, .int .i64 a, .int .i64 b]] w fun e w' => e = .returned (.bool (refI ⟨33, a, b⟩)) ∧ Ext w w' := by
  rw [show refI ⟨33, a, b⟩ = (decide (b = 0) && inB a 0 599) from rfl]
  have HA := Lib.hid (fun W => rin_is a 0 599 W)
  by_cases hb : b = 0
  · have tb : (b == 0) = true := beq_iff_eq.2 hb
    rw [decide_eq_true hb, Bool.true_and]
    clear hb
    go_enter Tryd.func29, Tryd.ntmps29
    go_wp2_with fail
    refine (HA.out _).mono ?_; rintro e' w1 ⟨rfl, rfl⟩
    go_wp2_with fail
    go_ret
    exact ⟨rfl, Ext.alloc _ _⟩
  · have tb : (b == 0) = false := beq_false_of_ne hb
    rw [decide_eq_false hb, Bool.false_and]
    clear hb HA
    go_enter Tryd.func29, Tryd.ntmps29
    go_wp2_with fail
    go_ret
    exact ⟨rfl, Ext.alloc _ _⟩
theorem rgood_20 (a b : Int) (w : World) : Calls Tryd.prog 29 #[.agg #[.int .i64 20, .int .i64 a, .int .i64 b]] w fun e w' => e = .returned (.bool (refI ⟨20, a, b⟩)) ∧ Ext w w' := by
  rw [show refI ⟨20, a, b⟩ = (decide (b = 0) && inB a 0 7) from rfl]
  have HA := Lib.hid (fun W => rin_is a 0 7 W)
  by_cases hb : b = 0
  · have tb : (b == 0) = true := beq_iff_eq.2 hb
    rw [decide_eq_true hb, Bool.true_and]
    clear hb
    go_enter Tryd.func29, Tryd.ntmps29
    go_wp2_with fail
    refine (HA.out _).mono ?_; rintro e' w1 ⟨rfl, rfl⟩
    go_wp2_with fail
    go_ret
    exact ⟨rfl, Ext.alloc _ _⟩
  · have tb : (b == 0) = false := beq_false_of_ne hb
    rw [decide_eq_false hb, Bool.false_and]
    clear hb HA
    go_enter Tryd.func29, Tryd.ntmps29
    go_wp2_with fail
    go_ret
    exact ⟨rfl, Ext.alloc _ _⟩
theorem rgood_22 (a b : Int) (w : World) : Calls Tryd.prog 29 #[.agg #[.int .i64 22, .int .i64 a, .int .i64 b]] w fun e w' => e = .returned (.bool (refI ⟨22, a, b⟩)) ∧ Ext w w' := by
  rw [show refI ⟨22, a, b⟩ = (decide (b = 0) && inB a 0 255) from rfl]
  have HA := Lib.hid (fun W => rin_is a 0 255 W)
  by_cases hb : b = 0
  · have tb : (b == 0) = true := beq_iff_eq.2 hb
    rw [decide_eq_true hb, Bool.true_and]
    clear hb
    go_enter Tryd.func29, Tryd.ntmps29
    go_wp2_with fail
    refine (HA.out _).mono ?_; rintro e' w1 ⟨rfl, rfl⟩
    go_wp2_with fail
    go_ret
    exact ⟨rfl, Ext.alloc _ _⟩
  · have tb : (b == 0) = false := beq_false_of_ne hb
    rw [decide_eq_false hb, Bool.false_and]
    clear hb HA
    go_enter Tryd.func29, Tryd.ntmps29
    go_wp2_with fail
    go_ret
    exact ⟨rfl, Ext.alloc _ _⟩
theorem rgood_0 (a b : Int) (w : World) : Calls Tryd.prog 29 #[.agg #[.int .i64 0, .int .i64 a, .int .i64 b]] w fun e w' => e = .returned (.bool (refI ⟨0, a, b⟩)) ∧ Ext w w' := by
  rw [show refI ⟨0, a, b⟩ = (decide (b = 0) && (decide (-4611686018427387904 ≤ a) && decide (a ≤ 4611686018427387903))) from rfl]
  by_cases hb : b = 0
  · have tb : (b == 0) = true := beq_iff_eq.2 hb
    rw [decide_eq_true hb, Bool.true_and]
    clear hb
    by_cases h1 : -4611686018427387904 ≤ a
    · have t1 : decide (-4611686018427387904 ≤ a) = true := decide_eq_true h1
      rw [t1, Bool.true_and]
      clear h1
      go_enter Tryd.func29, Tryd.ntmps29
      go_wp2_with fail
      go_ret
      exact ⟨rfl, Ext.alloc _ _⟩
    · have t1 : decide (-4611686018427387904 ≤ a) = false := decide_eq_false h1
      rw [t1, Bool.false_and]
      clear h1
      go_enter Tryd.func29, Tryd.ntmps29
      go_wp2_with fail
      go_ret
      exact ⟨rfl, Ext.alloc _ _⟩
  · have tb : (b == 0) = false := beq_false_of_ne hb
    rw [decide_eq_false hb, Bool.false_and]
    clear hb
    go_enter Tryd.func29, Tryd.ntmps29
    go_wp2_with fail
    go_ret
    exact ⟨rfl, Ext.alloc _ _⟩
theorem rgood_21 (a b : Int) (w : World) : Calls Tryd.prog 29 #[.agg #[.int .i64 21, .int .i64 a, .int .i64 b]] w fun e w' => e = .returned (.bool (refI ⟨21, a, b⟩)) ∧ Ext w w' := by
  rw [show refI ⟨21, a, b⟩ = (decide (b = 0) && (decide (-4611686018427387904 ≤ a) && decide (a ≤ 4611686018427387903))) from rfl]
  by_cases hb : b = 0
  · have tb : (b == 0) = true := beq_iff_eq.2 hb
    rw [decide_eq_true hb, Bool.true_and]
    clear hb
    by_cases h1 : -4611686018427387904 ≤ a
    · have t1 : decide (-4611686018427387904 ≤ a) = true := decide_eq_true h1
      rw [t1, Bool.true_and]
      clear h1
      go_enter Tryd.func29, Tryd.ntmps29
      go_wp2_with fail
      go_ret
      exact ⟨rfl, Ext.alloc _ _⟩
    · have t1 : decide (-4611686018427387904 ≤ a) = false := decide_eq_false h1
      rw [t1, Bool.false_and]
      clear h1
      go_enter Tryd.func29, Tryd.ntmps29
      go_wp2_with fail
      go_ret
      exact ⟨rfl, Ext.alloc _ _⟩
  · have tb : (b == 0) = false := beq_false_of_ne hb
    rw [decide_eq_false hb, Bool.false_and]
    clear hb
    go_enter Tryd.func29, Tryd.ntmps29
    go_wp2_with fail
    go_ret
    exact ⟨rfl, Ext.alloc _ _⟩
theorem rgood_6 (a b : Int) (w : World) : Calls Tryd.prog 29 #[.agg #[.int .i64 6, .int .i64 a, .int .i64 b]] w fun e w' => e = .returned (.bool (refI ⟨6, a, b⟩)) ∧ Ext w w' := by
  rw [show refI ⟨6, a, b⟩ = (inB a 1 59 && inB b 0 30) from rfl]
  have HA := Lib.hid (fun W => rin_is a 1 59 W)
  have HB := Lib.hid (fun W => rin_is b 0 30 W)
  generalize inB a 1 59 = A at HA ⊢
  generalize inB b 0 30 = B at HB ⊢
  obtain ⟨tb, htb⟩ : ∃ t, (b == 0) = t := ⟨_, rfl⟩
  cases A with
  | false =>
    go_enter Tryd.func29, Tryd.ntmps29
    go_wp2_with fail
    refine (HA.out _).mono ?_; rintro e' w1 ⟨rfl, rfl⟩
    go_wp2_with fail
    go_ret
    exact ⟨rfl, Ext.alloc _ _⟩
  | true =>
    go_enter Tryd.func29, Tryd.ntmps29
    go_wp2_with fail
    refine (HA.out _).mono ?_; rintro e' w1 ⟨rfl, rfl⟩
    go_wp2_with fail
    refine (HB.out _).mono ?_; rintro e' w2 ⟨rfl, rfl⟩
    go_wp2_with fail
    go_ret
    exact ⟨rfl, Ext.alloc _ _⟩
theorem rgood_19 (a b : Int) (w : World) : Calls Tryd.prog 29 #[.agg #[.int .i64 19, .int .i64 a, .int .i64 b]] w fun e w' => e = .returned (.bool (refI ⟨19, a, b⟩)) ∧ Ext w w' := by
  rw [show refI ⟨19, a, b⟩ = (inB a 0 255 && inB b 1 8) from rfl]
  have HA := Lib.hid (fun W => rin_is a 0 255 W)
  have HB := Lib.hid (fun W => rin_is b 1 8 W)
  generalize inB a 0 255 = A at HA ⊢
  generalize inB b 1 8 = B at HB ⊢
  obtain ⟨tb, htb⟩ : ∃ t, (b == 0) = t := ⟨_, rfl⟩
  cases A with
  | false =>
    go_enter Tryd.func29, Tryd.ntmps29
    go_wp2_with fail
    refine (HA.out _).mono ?_; rintro e' w1 ⟨rfl, rfl⟩
    go_wp2_with fail
    go_ret
    exact ⟨rfl, Ext.alloc _ _⟩
  | true =>
    go_enter Tryd.func29, Tryd.ntmps29
    go_wp2_with fail
    refine (HA.out _).mono ?_; rintro e' w1 ⟨rfl, rfl⟩
    go_wp2_with fail
    refine (HB.out _).mono ?_; rintro e' w2 ⟨rfl, rfl⟩
    go_wp2_with fail
    go_ret
    exact ⟨rfl, Ext.alloc _ _⟩
theorem rgood_36 (a b : Int) (w : World) : Calls Tryd.prog 29 #[.agg #[.int .i64 36, .int .i64 a, .int .i64 b]] w fun e w' => e = .returned (.bool (refI ⟨36, a, b⟩)) ∧ Ext w w' := by
  rw [show refI ⟨36, a, b⟩ = (inB a 0 3 && (decide (b = 0) || decide (a = 3) && inB b 0 39)) from rfl]
  have HA := Lib.hid (fun W => rin_is a 0 3 W)
  have HB := Lib.hid (fun W => rin_is b 0 39 W)
  generalize inB a 0 3 = A at HA ⊢
  generalize inB b 0 39 = B at HB ⊢
  by_cases hb : b = 0
  · have tb : (b == 0) = true := beq_iff_eq.2 hb
    rw [decide_eq_true hb, Bool.true_or, Bool.and_true]
    clear hb HB
    cases A with
    | false =>
      go_enter Tryd.func29, Tryd.ntmps29
      go_wp2_with fail
      refine (HA.out _).mono ?_; rintro e' w1 ⟨rfl, rfl⟩
      go_wp2_with fail
      go_ret
      exact ⟨rfl, Ext.alloc _ _⟩
    | true =>
      go_enter Tryd.func29, Tryd.ntmps29
      go_wp2_with fail
      refine (HA.out _).mono ?_; rintro e' w1 ⟨rfl, rfl⟩
      go_wp2_with fail
      go_ret
      exact ⟨rfl, Ext.alloc _ _⟩
  · have tb : (b == 0) = false := beq_false_of_ne hb
    rw [decide_eq_false hb, Bool.false_or]
    clear hb
    cases A with
    | false =>
      go_enter Tryd.func29, Tryd.ntmps29
      go_wp2_with fail
      refine (HA.out _).mono ?_; rintro e' w1 ⟨rfl, rfl⟩
      go_wp2_with fail
      go_ret
      exact ⟨rfl, Ext.alloc _ _⟩
    | true =>
      by_cases ha : a = 3
      · have ta : (a == 3) = true := beq_iff_eq.2 ha
        rw [decide_eq_true ha, Bool.true_and, Bool.true_and]
        clear ha
        go_enter Tryd.func29, Tryd.ntmps29
        go_wp2_with fail
        refine (HA.out _).mono ?_; rintro e' w1 ⟨rfl, rfl⟩
        go_wp2_with fail
        refine (HB.out _).mono ?_; rintro e' w2 ⟨rfl, rfl⟩
        go_wp2_with fail
        go_ret
        exact ⟨rfl, Ext.alloc _ _⟩
      · have ta : (a == 3) = false := beq_false_of_ne ha
        rw [decide_eq_false ha, Bool.false_and, Bool.true_and]
        clear ha
        go_enter Tryd.func29, Tryd.ntmps29
        go_wp2_with fail
        refine (HA.out _).mono ?_; rintro e' w1 ⟨rfl, rfl⟩
        go_wp2_with fail
        go_ret
        exact ⟨rfl, Ext.alloc _ _⟩
theorem rgood_rest (op a b : Int) (hn : op ≠ 0 ∧ op ≠ 1 ∧ op ≠ 2 ∧ op ≠ 3 ∧ op ≠ 4 ∧ op ≠ 6 ∧ op ≠ 10 ∧ op ≠ 11 ∧ op ≠ 19 ∧ op ≠ 20 ∧ op ≠ 21 ∧ op ≠ 22 ∧ op ≠ 33 ∧ op ≠ 36) (w : World) : Calls Tryd.prog 29 #[.agg #[.int .i64 op, .int .i64 a, .int .i64 b]] w fun e w' => e = .returned (.bool (refI ⟨op, a, b⟩)) ∧ Ext w w' := by
  have hr : refI ⟨op, a, b⟩ = (decide (0 ≤ op) && decide (op < 38) && decide (a = 0) && decide (b = 0)) := by
    unfold refI
    rw [if_neg (by dsimp only; omega), if_neg (by dsimp only; omega), if_neg (by dsimp only; omega), if_neg (by dsimp only; omega), if_neg (by dsimp only; omega), if_neg (by dsimp only; omega), if_neg (by dsimp only; omega), if_neg (by dsimp only; omega), if_neg (by dsimp only; omega), if_neg (by dsimp only; omega)]
  rw [hr]
  clear hr
  have k0 : (op == 0) = false := beq_false_of_ne (by omega)
  have k1 : (op == 1) = false := beq_false_of_ne (by omega)
  have k2 : (op == 2) = false := beq_false_of_ne (by omega)
  have k3 : (op == 3) = false := beq_false_of_ne (by omega)
  have k4 : (op == 4) = false := beq_false_of_ne (by omega)
  have k6 : (op == 6) = false := beq_false_of_ne (by omega)
  have k10 : (op == 10) = false := beq_false_of_ne (by omega)
  have k11 : (op == 11) = false := beq_false_of_ne (by omega)
  have k19 : (op == 19) = false := beq_false_of_ne (by omega)
  have k20 : (op == 20) = false := beq_false_of_ne (by omega)
  have k21 : (op == 21) = false := beq_false_of_ne (by omega)
  have k22 : (op == 22) = false := beq_false_of_ne (by omega)
  have k33 : (op == 33) = false := beq_false_of_ne (by omega)
  have k36 : (op == 36) = false := beq_false_of_ne (by omega)
  by_cases h : 0 ≤ op ∧ op < 38
  · have HN := Lib.hid (fun W => name_yes op h.1 h.2 W)
    rw [decide_eq_true h.1, decide_eq_true h.2, Bool.true_and, Bool.true_and]
    clear h hn
    by_cases ha : a = 0
    · have ta : (a == 0) = true := beq_iff_eq.2 ha
      rw [decide_eq_true ha, Bool.true_and, show decide (b = 0) = (b == 0) from rfl]
      clear ha
      generalize htb : (b == 0) = tb
      cases tb
      all_goals
        go_enter Tryd.func29, Tryd.ntmps29
        go_wp2_with fail
        refine (HN.out _).mono ?_; rintro e' w1 ⟨s, rfl, hs, rfl⟩
        go_wp2_with fail
        go_ret
        exact ⟨rfl, Ext.alloc _ _⟩
    · have ta : (a == 0) = false := beq_false_of_ne ha
      rw [decide_eq_false ha, Bool.false_and]
      clear ha
      go_enter Tryd.func29, Tryd.ntmps29
      go_wp2_with fail
      refine (HN.out _).mono ?_; rintro e' w1 ⟨s, rfl, hs, rfl⟩
      go_wp2_with fail
      go_ret
      exact ⟨rfl, Ext.alloc _ _⟩
  · have HN := Lib.hid (fun W => name_no op (by omega) W)
    have hf : (decide (0 ≤ op) && decide (op < 38)) = false := by
      rw [Bool.eq_false_iff]; intro h'; simp only [Bool.and_eq_true, decide_eq_true_eq] at h'; exact h h'
    rw [hf, Bool.false_and, Bool.false_and]
    clear h hn hf
    go_enter Tryd.func29, Tryd.ntmps29
    go_wp2_with fail
    refine (HN.out _).mono ?_; rintro e' w1 ⟨rfl, rfl⟩
    go_wp2_with fail
    go_ret
    exact ⟨rfl, Ext.alloc _ _⟩
theorem rgood_ins (op a b : Int) (w : World) : Calls Tryd.prog 29 #[.agg #[.int .i64 op, .int .i64 a, .int .i64 b]] w fun e w' => e = .returned (.bool (refI ⟨op, a, b⟩)) ∧ Ext w w' := by
  by_cases h0 : op = 0
  · subst h0; exact rgood_0 a b w
  by_cases h1 : op = 1
  · subst h1; exact rgood_1 a b w
  by_cases h2 : op = 2
  · subst h2; exact rgood_2 a b w
  by_cases h3 : op = 3
  · subst h3; exact rgood_3 a b w
  by_cases h4 : op = 4
  · subst h4; exact rgood_4 a b w
  by_cases h6 : op = 6
  · subst h6; exact rgood_6 a b w
  by_cases h10 : op = 10
  · subst h10; exact rgood_10 a b w
  by_cases h11 : op = 11
  · subst h11; exact rgood_11 a b w
  by_cases h19 : op = 19
  · subst h19; exact rgood_19 a b w
  by_cases h20 : op = 20
  · subst h20; exact rgood_20 a b w
  by_cases h21 : op = 21
  · subst h21; exact rgood_21 a b w
  by_cases h22 : op = 22
  · subst h22; exact rgood_22 a b w
  by_cases h33 : op = 33
  · subst h33; exact rgood_33 a b w
  by_cases h36 : op = 36
  · subst h36; exact rgood_36 a b w
  exact rgood_rest op a b ⟨h0, h1, h2, h3, h4, h6, h10, h11, h19, h20, h21, h22, h33, h36⟩ w
end Go.Proofs.YtgiopklnielglaaDoor
/- stockpotref07.Good: which program may be (the reference's). Printed by mkcode.py. -/
namespace Go.Proofs.YtgiopklnielglaaDoor
open Go.RowKit
set_option maxHeartbeats 8000000
set_option maxRecDepth 100000
theorem rfns_drop {F : List FnI} {k : Nat} {x : FnI} (h : F[k]? = some x) : refFns ((F.drop k).map (·.f)) k = (refFn x.f k && refFns ((F.drop (k + 1)).map (·.f)) (k + 1)) := by
  obtain ⟨hk, e⟩ := List.getElem?_eq_some_iff.1 h
  rw [List.drop_eq_getElem_cons hk, e, List.map_cons, refFns]
theorem refP_parts (x : PgI) : refP x.p = (decide (1 ≤ x.funcs.length) && decide (x.funcs.length ≤ 60) && decide (x.strs.length ≤ 40) && refForms (x.forms.map (·.f)) && x.strs.all (fun s => decide (s.size ≤ 60)) && refFns (x.funcs.map (·.f)) 0) := by
  unfold refP PgI.p
  simp only [List.length_map]
theorem rcode_good {w : World} (x : PgI) (hx : PgP w x) (hn : x.forms.length ≤ 1000000) : Calls Tryd.prog 12 #[.agg #[x.vf, x.vs, x.vo]] w fun e w' => e = .returned (.bool (goodP x.p)) ∧ Ext w w' := by
  rw [← refP_is, refP_parts]
  obtain ⟨F, S, O, vf, vs, vo⟩ := x
  obtain ⟨pf, ps, po, hf, ho⟩ := hx
  dsimp only at pf ps po hf ho hn ⊢
  have HFo := Lib.hid (fun W (e : Ext w W) => forms_is O (po.ext e) (fun y hy => (ho y hy).ext e) hn)
  obtain ⟨qf, cf, rfl, hf1, hf2, hcf⟩ := pf.at
  obtain ⟨qs, cs, rfl, hs1, hs2, hcs⟩ := ps.at
  obtain ⟨qo, no, co, rfl⟩ : ∃ q n c, vo = .slice q n c := by obtain ⟨q, c, hv, -⟩ := po.at; exact ⟨q, _, c, hv⟩
  rw [List.length_map] at hf1 hs1 ⊢
  rw [List.length_map]
  have HCF := Lib.hid hcf; have HCS := Lib.hid hcs
  have HF := Lib.hid hf
  clear pf ps po hcf hcs hf ho hn
  unfold maxLen at hf2 hs2
  generalize refForms (O.map (·.f)) = fo at HFo ⊢
  by_cases l1 : 1 ≤ F.length
  rotate_left
  · have b1 : decide (F.length < 1) = true := decide_eq_true (by omega)
    have b1' : (F.length : Int) < 1 := by omega
    rw [decide_eq_false l1]
    clear l1 HFo
    go_enter Tryd.func12, Tryd.ntmps12
    go_wp2_with fail
    go_ret
    exact ⟨rfl, Ext.alloc _ _⟩
  have b1 : decide (F.length < 1) = false := decide_eq_false (by omega)
  have b1' : ¬ (F.length : Int) < 1 := by omega
  by_cases l2 : F.length ≤ 60
  rotate_left
  · have b2 : decide (60 < F.length) = true := decide_eq_true (by omega)
    have b2' : (60 : Int) < F.length := by omega
    rw [decide_eq_true l1, decide_eq_false l2]
    clear l1 l2 HFo
    go_enter Tryd.func12, Tryd.ntmps12
    go_wp2_with fail
    go_ret
    exact ⟨rfl, Ext.alloc _ _⟩
  have b2 : decide (60 < F.length) = false := decide_eq_false (by omega)
  have b2' : ¬ (60 : Int) < F.length := by omega
  by_cases l3 : S.length ≤ 40
  rotate_left
  · have b3 : decide (40 < S.length) = true := decide_eq_true (by omega)
    have b3' : (40 : Int) < S.length := by omega
    rw [decide_eq_true l1, decide_eq_true l2, decide_eq_false l3]
    clear l1 l2 l3 HFo
    go_enter Tryd.func12, Tryd.ntmps12
    go_wp2_with fail
    go_ret
    exact ⟨rfl, Ext.alloc _ _⟩
  have b3 : decide (40 < S.length) = false := decide_eq_false (by omega)
  have b3' : ¬ (40 : Int) < S.length := by omega
  rw [decide_eq_true l1, decide_eq_true l2, decide_eq_true l3]
  cases fo with
  | false =>
    clear l1 l2 l3
    go_enter Tryd.func12, Tryd.ntmps12
    go_wp2_with fail
    refine (HFo.out _ (Ext.alloc _ _)).mono ?_
    rintro e w1 ⟨rfl, hx1⟩
    have HX := Lib.hid (((Ext.alloc _ _ : Ext w _)).trans hx1)
    clear hx1
    go_wp2_with fail
    go_ret
    exact ⟨rfl, HX.out⟩
  | true =>
    clear l1 l2 l3
    go_enter Tryd.func12, Tryd.ntmps12
    go_upto_region 1 with fail
    refine wp_alloc1 fun W hE hS b0 => ?_
    have f0 : W.cell? ⟨w.heap.size, 0, none⟩ = some (.slice qf F.length cf) := cell_at b0 rfl
    have f1 : W.cell? ⟨w.heap.size, 1, none⟩ = some (.slice qs S.length cs) := cell_at b0 rfl
    have f2 : W.cell? ⟨w.heap.size, 2, none⟩ = some (.slice qo no co) := cell_at b0 rfl
    have HE := Lib.hid hE
    have q0 : w.heap.size < W.heap.size := by omega
    clear hE hS b0
    go_wp2_with fail
    refine (HFo.out _ HE.out).mono ?_
    rintro e w1 ⟨rfl, hx1⟩
    replace f0 := hx1.cell f0; replace f1 := hx1.cell f1
    replace q0 := Nat.lt_of_lt_of_le q0 hx1.size
    have HQ := Lib.hid q0
    have HXo := Lib.hid (HE.out.trans hx1)
    clear hx1 f2 HE HFo q0
    go_wp2_with fail
    go_loopw [3] (fun i wr => ∃ j : Nat, j ≤ S.length ∧ i = .int .i64 j ∧ S.all (fun s => decide (s.size ≤ 60)) = (S.drop j).all (fun s => decide (s.size ≤ 60)) ∧ wr = w1) (fun i _ => S.length - (Go.RowKit.intOf i).toNat)
    case atStart => exact ⟨0, by omega, rfl, rfl, by first | rfl | trivial⟩
    case round =>
      obtain ⟨j, hj, rfl, ha, rfl⟩ := hrel
      have HA := Lib.hid ha
      clear ha
      by_cases hlt : j < S.length
      · have hxk := List.getElem?_eq_getElem hlt
        generalize S[j] = x at hxk
        obtain ⟨b, off, rfl, hcell⟩ := HCS.out j (stC x) (by rw [List.getElem?_map, hxk]; rfl)
        have y0 := HXo.out.cell (hcell 0 _ rfl)
        rw [Nat.add_zero, Nat.mul_one] at y0
        have HD := Lib.hid (HA.out.trans (all_drop (p := fun s : ByteArray => decide (s.size ≤ 60)) hxk))
        have i1 : (j : Int) < (S.length : Int) := by omega
        clear hcell hxk HA
        by_cases hg : x.size ≤ 60
        · have g1 : decide (60 < x.size) = false := decide_eq_false (by omega)
          have g2 : (x.size : Int) ≤ 60 := by omega
          have g3 : ¬ (60 : Int) < (x.size : Int) := by omega
          have HG := Lib.hid (decide_eq_true hg)
          clear hg
          go_wp2_with fail
          exact ⟨⟨j + 1, by omega, by go_num, by rw [HD.out, HG.out, Bool.true_and], by first | rfl | trivial⟩, by simp [Go.RowKit.intOf]; omega⟩
        · have g1 : decide (60 < x.size) = true := decide_eq_true (by omega)
          have g2 : ¬ (x.size : Int) ≤ 60 := by omega
          have g3 : (60 : Int) < (x.size : Int) := by omega
          have HG := Lib.hid (decide_eq_false hg)
          clear hg
          go_wp2_with fail
          go_ret
          exact ⟨by rw [HD.out, HG.out]; rfl, HXo.out⟩
      · obtain rfl : j = S.length := by omega
        have HD1 := Lib.hid (show S.all (fun s => decide (s.size ≤ 60)) = true by rw [HA.out, List.drop_length]; rfl)
        clear HA HCS hlt hj
        go_wp2_with fail
        generalize hwo : wr = wo at *
        clear hwo
        go_loopw [4] (fun i wr => ∃ j : Nat, j ≤ F.length ∧ i = .int .i64 j ∧ refFns (F.map (·.f)) 0 = refFns ((F.drop j).map (·.f)) j ∧ Ext wo wr) (fun i _ => F.length - (Go.RowKit.intOf i).toNat)
        case atStart => exact ⟨0, by omega, rfl, rfl, Ext.refl _⟩
        case round =>
          obtain ⟨j, hj, rfl, ha, hx⟩ := hrel
          have HA := Lib.hid ha
          replace f0 := hx.cell f0
          have HX := Lib.hid (HXo.out.trans hx)
          have HX1 := Lib.hid hx
          have HQ2 := Lib.hid (Nat.lt_of_lt_of_le HQ.out hx.size)
          clear ha hx
          by_cases hlt : j < F.length
          · have hxk := List.getElem?_eq_getElem hlt
            generalize F[j] = x at hxk
            have hxm := HF.out x (List.mem_of_getElem? hxk)
            obtain ⟨b, off, rfl, hcell⟩ := HCF.out j (fnC x) (by rw [List.getElem?_map, hxk]; rfl)
            have y0 := HX.out.cell (hcell 0 _ rfl); have y1 := HX.out.cell (hcell 1 _ rfl); have y2 := HX.out.cell (hcell 2 _ rfl)
            rw [Nat.add_zero] at y0
            have HD := Lib.hid (HA.out.trans (rfns_drop hxk))
            have i1 : (j : Int) < (F.length : Int) := by omega
            clear hcell hxk HA
            obtain ⟨⟨lo, fr, code⟩, v⟩ := x
            unfold FnP at hxm
            dsimp only at y0 y1 y2 HD hxm
            obtain ⟨qx, cx, rfl, hx1, hx2, hxc⟩ := hxm.at
            rw [List.length_map] at hx1 y2
            have HXC := Lib.hid hxc
            clear hxm hxc
            unfold maxLen at hx2
            go_upto_region 12 with fail
            refine wp_alloc1 fun W2 hE hS b0 => ?_
            obtain ⟨x0, x1, x2⟩ := cells3 b0
            have f0' := hE.cell f0
            have HE2 := Lib.hid hE
            clear hE b0 y0 y1 y2
            by_cases jl : j ≤ 1
            · have tjl : (j : Int) ≤ 1 := by omega
              by_cases m1 : (((min j 1 : Nat) : Int) ≤ lo)
              · have t1 : decide (lo < (j : Int)) = false := decide_eq_false (by omega)
                have t1' : ¬ lo < (j : Int) := by omega
                by_cases m2 : (lo ≤ 60)
                · have t2 : decide (60 < lo) = false := decide_eq_false (by omega)
                  by_cases m3 : ((0 : Int) ≤ fr)
                  · have t3 : decide (fr < 0) = false := decide_eq_false (by omega)
                    by_cases m4 : (fr ≤ 30)
                    · have t4 : decide (30 < fr) = false := decide_eq_false (by omega)
                      by_cases j0 : j = 0
                      · have tj : ((j : Int) == 0) = true := by rw [j0]; rfl
                        by_cases f0z : fr = 0
                        · have tf : (fr != 0) = false := by simp [f0z]
                          have tf2 : (fr == 0) = true := by simp [f0z]
                          obtain ⟨z, hz⟩ : ∃ z, (decide (j = 0) && decide (fr ≠ 0)) = z := ⟨_, rfl⟩
                          have hzf : z = false := by rw [← hz]; simp [f0z]
                          subst hzf
                          clear j0 f0z
                          by_cases m6 : 1 ≤ code.length
                          · have t6 : decide (code.length < 1) = false := decide_eq_false (by omega)
                            have t6' : ¬ (code.length : Int) < 1 := by omega
                            by_cases m7 : code.length ≤ 600
                            · have t7 : decide (600 < code.length) = false := decide_eq_false (by omega)
                              have t7' : ¬ (600 : Int) < code.length := by omega
                              have hr : refFn ⟨lo, fr, code⟩ j = code.all refI := by unfold refFn; dsimp only; rw [decide_eq_true m1, decide_eq_true m2, decide_eq_true m3, decide_eq_true m4, hz]; rw [decide_eq_true m6, decide_eq_true m7]; rfl
                              rw [hr] at HD
                              clear hr
                              clear hz m1 m2 m3 m4 m6 m7
                              go_wp2_with fail
                              generalize hwp : wr.heap.size = g at *
                              clear hwp
                              go_loopw [6] (fun i wx => ∃ k : Nat, k ≤ code.length ∧ i = .int .i64 k ∧ code.all refI = (code.drop k).all refI ∧ Ext W2 wx) (fun i _ => code.length - (Go.RowKit.intOf i).toNat)
                              case atStart => exact ⟨0, by omega, rfl, rfl, Ext.refl _⟩
                              case round =>
                                obtain ⟨k, hk, rfl, ha, hx⟩ := hrel
                                have HA := Lib.hid ha
                                replace x2 := hx.cell x2
                                have HXX := Lib.hid ((HX.out.trans HE2.out).trans hx)
                                have HX3 := Lib.hid hx
                                clear ha hx
                                by_cases hlt2 : k < code.length
                                · obtain ⟨y, hyk⟩ : ∃ y, code[k]? = some y := ⟨_, List.getElem?_eq_getElem hlt2⟩
                                  obtain ⟨b2, off2, rfl, hcell⟩ := HXC.out k (insC y) (by rw [List.getElem?_map, hyk]; rfl)
                                  have z0 := HXX.out.cell (hcell 0 _ rfl); have z1 := HXX.out.cell (hcell 1 _ rfl); have z2 := HXX.out.cell (hcell 2 _ rfl)
                                  rw [Nat.add_zero] at z0
                                  have HE := Lib.hid (HA.out.trans (all_drop (p := refI) hyk))
                                  have i2 : (k : Int) < (code.length : Int) := by omega
                                  clear hcell hyk HA
                                  obtain ⟨op, a, b'⟩ := y
                                  dsimp only at z0 z1 z2
                                  have HG := Lib.hid (fun W' => rgood_ins op a b' W')
                                  generalize refI ⟨op, a, b'⟩ = gb at HE HG
                                  cases gb with
                                  | true =>
                                    go_wp2_with fail
                                    refine (HG.out _).mono ?_
                                    rintro e w5 ⟨rfl, hx5⟩
                                    have HX5 := Lib.hid (HX3.out.trans hx5)
                                    clear hx5
                                    go_wp2_with fail
                                    exact ⟨⟨k + 1, by omega, by go_num, by rw [HE.out, Bool.true_and], HX5.out⟩, by simp [Go.RowKit.intOf]; omega⟩
                                  | false =>
                                    go_wp2_with fail
                                    refine (HG.out _).mono ?_
                                    rintro e w5 ⟨rfl, hx5⟩
                                    have HX5 := Lib.hid (HXX.out.trans hx5)
                                    clear hx5
                                    go_wp2_with fail
                                    go_ret
                                    exact ⟨by rw [HD1.out, HD.out, HE.out]; rfl, HX5.out⟩
                                · obtain rfl : k = code.length := by omega
                                  have HE := Lib.hid (show code.all refI = true by rw [HA.out, List.drop_length]; rfl)
                                  have HX6 := Lib.hid (HX1.out.trans (HE2.out.trans HX3.out))
                                  clear HA HXC
                                  go_wp2_with fail
                                  exact ⟨⟨j + 1, by omega, by go_num, by rw [HD.out, HE.out]; rfl, HX6.out⟩, by simp [Go.RowKit.intOf]; omega⟩
                            · have t7 : decide (600 < code.length) = true := decide_eq_true (by omega)
                              have t7' : (600 : Int) < code.length := by omega
                              have hr : refFn ⟨lo, fr, code⟩ j = false := by unfold refFn; dsimp only; rw [decide_eq_false m7]; simp
                              rw [hr] at HD
                              clear hr
                              clear hz m1 m2 m3 m4 m6 m7
                              go_wp2_with fail
                              go_ret
                              exact ⟨by rw [HD1.out, HD.out]; rfl, HX.out.trans HE2.out⟩
                          · have t6 : decide (code.length < 1) = true := decide_eq_true (by omega)
                            have t6' : (code.length : Int) < 1 := by omega
                            have hr : refFn ⟨lo, fr, code⟩ j = false := by unfold refFn; dsimp only; rw [decide_eq_false m6]; simp
                            rw [hr] at HD
                            clear hr
                            clear hz m1 m2 m3 m4 m6
                            go_wp2_with fail
                            go_ret
                            exact ⟨by rw [HD1.out, HD.out]; rfl, HX.out.trans HE2.out⟩
                        · have tf : (fr != 0) = true := by simp [f0z]
                          have tf2 : (fr == 0) = false := by simp [f0z]
                          have hr : refFn ⟨lo, fr, code⟩ j = false := by unfold refFn; dsimp only; rw [decide_eq_true j0, decide_eq_true f0z]; simp
                          rw [hr] at HD
                          clear hr
                          clear m1 m2 m3 m4 j0 f0z
                          go_wp2_with fail
                          go_ret
                          exact ⟨by rw [HD1.out, HD.out]; rfl, HX.out.trans HE2.out⟩
                      · have tj : ((j : Int) == 0) = false := beq_false_of_ne (by omega)
                        obtain ⟨z, hz⟩ : ∃ z, (decide (j = 0) && decide (fr ≠ 0)) = z := ⟨_, rfl⟩
                        have hzf : z = false := by rw [← hz]; simp [j0]
                        subst hzf
                        clear j0
                        by_cases m6 : 1 ≤ code.length
                        · have t6 : decide (code.length < 1) = false := decide_eq_false (by omega)
                          have t6' : ¬ (code.length : Int) < 1 := by omega
                          by_cases m7 : code.length ≤ 600
                          · have t7 : decide (600 < code.length) = false := decide_eq_false (by omega)
                            have t7' : ¬ (600 : Int) < code.length := by omega
                            have hr : refFn ⟨lo, fr, code⟩ j = code.all refI := by unfold refFn; dsimp only; rw [decide_eq_true m1, decide_eq_true m2, decide_eq_true m3, decide_eq_true m4, hz]; rw [decide_eq_true m6, decide_eq_true m7]; rfl
                            rw [hr] at HD
                            clear hr
                            clear hz m1 m2 m3 m4 m6 m7
                            go_wp2_with fail
                            generalize hwp : wr.heap.size = g at *
                            clear hwp
                            go_loopw [6] (fun i wx => ∃ k : Nat, k ≤ code.length ∧ i = .int .i64 k ∧ code.all refI = (code.drop k).all refI ∧ Ext W2 wx) (fun i _ => code.length - (Go.RowKit.intOf i).toNat)
                            case atStart => exact ⟨0, by omega, rfl, rfl, Ext.refl _⟩
                            case round =>
                              obtain ⟨k, hk, rfl, ha, hx⟩ := hrel
                              have HA := Lib.hid ha
                              replace x2 := hx.cell x2
                              have HXX := Lib.hid ((HX.out.trans HE2.out).trans hx)
                              have HX3 := Lib.hid hx
                              clear ha hx
                              by_cases hlt2 : k < code.length
                              · obtain ⟨y, hyk⟩ : ∃ y, code[k]? = some y := ⟨_, List.getElem?_eq_getElem hlt2⟩
                                obtain ⟨b2, off2, rfl, hcell⟩ := HXC.out k (insC y) (by rw [List.getElem?_map, hyk]; rfl)
                                have z0 := HXX.out.cell (hcell 0 _ rfl); have z1 := HXX.out.cell (hcell 1 _ rfl); have z2 := HXX.out.cell (hcell 2 _ rfl)
                                rw [Nat.add_zero] at z0
                                have HE := Lib.hid (HA.out.trans (all_drop (p := refI) hyk))
                                have i2 : (k : Int) < (code.length : Int) := by omega
                                clear hcell hyk HA
                                obtain ⟨op, a, b'⟩ := y
                                dsimp only at z0 z1 z2
                                have HG := Lib.hid (fun W' => rgood_ins op a b' W')
                                generalize refI ⟨op, a, b'⟩ = gb at HE HG
                                cases gb with
                                | true =>
                                  go_wp2_with fail
                                  refine (HG.out _).mono ?_
                                  rintro e w5 ⟨rfl, hx5⟩
                                  have HX5 := Lib.hid (HX3.out.trans hx5)
                                  clear hx5
                                  go_wp2_with fail
                                  exact ⟨⟨k + 1, by omega, by go_num, by rw [HE.out, Bool.true_and], HX5.out⟩, by simp [Go.RowKit.intOf]; omega⟩
                                | false =>
                                  go_wp2_with fail
                                  refine (HG.out _).mono ?_
                                  rintro e w5 ⟨rfl, hx5⟩
                                  have HX5 := Lib.hid (HXX.out.trans hx5)
                                  clear hx5
                                  go_wp2_with fail
                                  go_ret
                                  exact ⟨by rw [HD1.out, HD.out, HE.out]; rfl, HX5.out⟩
                              · obtain rfl : k = code.length := by omega
                                have HE := Lib.hid (show code.all refI = true by rw [HA.out, List.drop_length]; rfl)
                                have HX6 := Lib.hid (HX1.out.trans (HE2.out.trans HX3.out))
                                clear HA HXC
                                go_wp2_with fail
                                exact ⟨⟨j + 1, by omega, by go_num, by rw [HD.out, HE.out]; rfl, HX6.out⟩, by simp [Go.RowKit.intOf]; omega⟩
                          · have t7 : decide (600 < code.length) = true := decide_eq_true (by omega)
                            have t7' : (600 : Int) < code.length := by omega
                            have hr : refFn ⟨lo, fr, code⟩ j = false := by unfold refFn; dsimp only; rw [decide_eq_false m7]; simp
                            rw [hr] at HD
                            clear hr
                            clear hz m1 m2 m3 m4 m6 m7
                            go_wp2_with fail
                            go_ret
                            exact ⟨by rw [HD1.out, HD.out]; rfl, HX.out.trans HE2.out⟩
                        · have t6 : decide (code.length < 1) = true := decide_eq_true (by omega)
                          have t6' : (code.length : Int) < 1 := by omega
                          have hr : refFn ⟨lo, fr, code⟩ j = false := by unfold refFn; dsimp only; rw [decide_eq_false m6]; simp
                          rw [hr] at HD
                          clear hr
                          clear hz m1 m2 m3 m4 m6
                          go_wp2_with fail
                          go_ret
                          exact ⟨by rw [HD1.out, HD.out]; rfl, HX.out.trans HE2.out⟩
                    · have t4 : decide (30 < fr) = true := decide_eq_true (by omega)
                      have hr : refFn ⟨lo, fr, code⟩ j = false := by unfold refFn; dsimp only; rw [decide_eq_false m4]; simp
                      rw [hr] at HD
                      clear hr
                      clear m1 m2 m3 m4
                      go_wp2_with fail
                      go_ret
                      exact ⟨by rw [HD1.out, HD.out]; rfl, HX.out.trans HE2.out⟩
                  · have t3 : decide (fr < 0) = true := decide_eq_true (by omega)
                    have hr : refFn ⟨lo, fr, code⟩ j = false := by unfold refFn; dsimp only; rw [decide_eq_false m3]; simp
                    rw [hr] at HD
                    clear hr
                    clear m1 m2 m3
                    go_wp2_with fail
                    go_ret
                    exact ⟨by rw [HD1.out, HD.out]; rfl, HX.out.trans HE2.out⟩
                · have t2 : decide (60 < lo) = true := decide_eq_true (by omega)
                  have hr : refFn ⟨lo, fr, code⟩ j = false := by unfold refFn; dsimp only; rw [decide_eq_false m2]; simp
                  rw [hr] at HD
                  clear hr
                  clear m1 m2
                  go_wp2_with fail
                  go_ret
                  exact ⟨by rw [HD1.out, HD.out]; rfl, HX.out.trans HE2.out⟩
              · have t1 : decide (lo < (j : Int)) = true := decide_eq_true (by omega)
                have t1' : lo < (j : Int) := by omega
                have hr : refFn ⟨lo, fr, code⟩ j = false := by unfold refFn; dsimp only; rw [decide_eq_false m1]; simp
                rw [hr] at HD
                clear hr
                clear m1
                go_wp2_with fail
                go_ret
                exact ⟨by rw [HD1.out, HD.out]; rfl, HX.out.trans HE2.out⟩
            · have tjl : ¬ (j : Int) ≤ 1 := by omega
              by_cases m1 : (((min j 1 : Nat) : Int) ≤ lo)
              · have t1 : decide (lo < 1) = false := decide_eq_false (by omega)
                have t1' : ¬ lo < 1 := by omega
                by_cases m2 : (lo ≤ 60)
                · have t2 : decide (60 < lo) = false := decide_eq_false (by omega)
                  by_cases m3 : ((0 : Int) ≤ fr)
                  · have t3 : decide (fr < 0) = false := decide_eq_false (by omega)
                    by_cases m4 : (fr ≤ 30)
                    · have t4 : decide (30 < fr) = false := decide_eq_false (by omega)
                      by_cases j0 : j = 0
                      · have tj : ((j : Int) == 0) = true := by rw [j0]; rfl
                        by_cases f0z : fr = 0
                        · have tf : (fr != 0) = false := by simp [f0z]
                          have tf2 : (fr == 0) = true := by simp [f0z]
                          obtain ⟨z, hz⟩ : ∃ z, (decide (j = 0) && decide (fr ≠ 0)) = z := ⟨_, rfl⟩
                          have hzf : z = false := by rw [← hz]; simp [f0z]
                          subst hzf
                          clear j0 f0z
                          by_cases m6 : 1 ≤ code.length
                          · have t6 : decide (code.length < 1) = false := decide_eq_false (by omega)
                            have t6' : ¬ (code.length : Int) < 1 := by omega
                            by_cases m7 : code.length ≤ 600
                            · have t7 : decide (600 < code.length) = false := decide_eq_false (by omega)
                              have t7' : ¬ (600 : Int) < code.length := by omega
                              have hr : refFn ⟨lo, fr, code⟩ j = code.all refI := by unfold refFn; dsimp only; rw [decide_eq_true m1, decide_eq_true m2, decide_eq_true m3, decide_eq_true m4, hz]; rw [decide_eq_true m6, decide_eq_true m7]; rfl
                              rw [hr] at HD
                              clear hr
                              clear hz m1 m2 m3 m4 m6 m7
                              go_wp2_with fail
                              generalize hwp : wr.heap.size = g at *
                              clear hwp
                              go_loopw [6] (fun i wx => ∃ k : Nat, k ≤ code.length ∧ i = .int .i64 k ∧ code.all refI = (code.drop k).all refI ∧ Ext W2 wx) (fun i _ => code.length - (Go.RowKit.intOf i).toNat)
                              case atStart => exact ⟨0, by omega, rfl, rfl, Ext.refl _⟩
                              case round =>
                                obtain ⟨k, hk, rfl, ha, hx⟩ := hrel
                                have HA := Lib.hid ha
                                replace x2 := hx.cell x2
                                have HXX := Lib.hid ((HX.out.trans HE2.out).trans hx)
                                have HX3 := Lib.hid hx
                                clear ha hx
                                by_cases hlt2 : k < code.length
                                · obtain ⟨y, hyk⟩ : ∃ y, code[k]? = some y := ⟨_, List.getElem?_eq_getElem hlt2⟩
                                  obtain ⟨b2, off2, rfl, hcell⟩ := HXC.out k (insC y) (by rw [List.getElem?_map, hyk]; rfl)
                                  have z0 := HXX.out.cell (hcell 0 _ rfl); have z1 := HXX.out.cell (hcell 1 _ rfl); have z2 := HXX.out.cell (hcell 2 _ rfl)
                                  rw [Nat.add_zero] at z0
                                  have HE := Lib.hid (HA.out.trans (all_drop (p := refI) hyk))
                                  have i2 : (k : Int) < (code.length : Int) := by omega
                                  clear hcell hyk HA
                                  obtain ⟨op, a, b'⟩ := y
                                  dsimp only at z0 z1 z2
                                  have HG := Lib.hid (fun W' => rgood_ins op a b' W')
                                  generalize refI ⟨op, a, b'⟩ = gb at HE HG
                                  cases gb with
                                  | true =>
                                    go_wp2_with fail
                                    refine (HG.out _).mono ?_
                                    rintro e w5 ⟨rfl, hx5⟩
                                    have HX5 := Lib.hid (HX3.out.trans hx5)
                                    clear hx5
                                    go_wp2_with fail
                                    exact ⟨⟨k + 1, by omega, by go_num, by rw [HE.out, Bool.true_and], HX5.out⟩, by simp [Go.RowKit.intOf]; omega⟩
                                  | false =>
                                    go_wp2_with fail
                                    refine (HG.out _).mono ?_
                                    rintro e w5 ⟨rfl, hx5⟩
                                    have HX5 := Lib.hid (HXX.out.trans hx5)
                                    clear hx5
                                    go_wp2_with fail
                                    go_ret
                                    exact ⟨by rw [HD1.out, HD.out, HE.out]; rfl, HX5.out⟩
                                · obtain rfl : k = code.length := by omega
                                  have HE := Lib.hid (show code.all refI = true by rw [HA.out, List.drop_length]; rfl)
                                  have HX6 := Lib.hid (HX1.out.trans (HE2.out.trans HX3.out))
                                  clear HA HXC
                                  go_wp2_with fail
                                  exact ⟨⟨j + 1, by omega, by go_num, by rw [HD.out, HE.out]; rfl, HX6.out⟩, by simp [Go.RowKit.intOf]; omega⟩
                            · have t7 : decide (600 < code.length) = true := decide_eq_true (by omega)
                              have t7' : (600 : Int) < code.length := by omega
                              have hr : refFn ⟨lo, fr, code⟩ j = false := by unfold refFn; dsimp only; rw [decide_eq_false m7]; simp
                              rw [hr] at HD
                              clear hr
                              clear hz m1 m2 m3 m4 m6 m7
                              go_wp2_with fail
                              go_ret
                              exact ⟨by rw [HD1.out, HD.out]; rfl, HX.out.trans HE2.out⟩
                          · have t6 : decide (code.length < 1) = true := decide_eq_true (by omega)
                            have t6' : (code.length : Int) < 1 := by omega
                            have hr : refFn ⟨lo, fr, code⟩ j = false := by unfold refFn; dsimp only; rw [decide_eq_false m6]; simp
                            rw [hr] at HD
                            clear hr
                            clear hz m1 m2 m3 m4 m6
                            go_wp2_with fail
                            go_ret
                            exact ⟨by rw [HD1.out, HD.out]; rfl, HX.out.trans HE2.out⟩
                        · have tf : (fr != 0) = true := by simp [f0z]
                          have tf2 : (fr == 0) = false := by simp [f0z]
                          have hr : refFn ⟨lo, fr, code⟩ j = false := by unfold refFn; dsimp only; rw [decide_eq_true j0, decide_eq_true f0z]; simp
                          rw [hr] at HD
                          clear hr
                          clear m1 m2 m3 m4 j0 f0z
                          go_wp2_with fail
                          go_ret
                          exact ⟨by rw [HD1.out, HD.out]; rfl, HX.out.trans HE2.out⟩
                      · have tj : ((j : Int) == 0) = false := beq_false_of_ne (by omega)
                        obtain ⟨z, hz⟩ : ∃ z, (decide (j = 0) && decide (fr ≠ 0)) = z := ⟨_, rfl⟩
                        have hzf : z = false := by rw [← hz]; simp [j0]
                        subst hzf
                        clear j0
                        by_cases m6 : 1 ≤ code.length
                        · have t6 : decide (code.length < 1) = false := decide_eq_false (by omega)
                          have t6' : ¬ (code.length : Int) < 1 := by omega
                          by_cases m7 : code.length ≤ 600
                          · have t7 : decide (600 < code.length) = false := decide_eq_false (by omega)
                            have t7' : ¬ (600 : Int) < code.length := by omega
                            have hr : refFn ⟨lo, fr, code⟩ j = code.all refI := by unfold refFn; dsimp only; rw [decide_eq_true m1, decide_eq_true m2, decide_eq_true m3, decide_eq_true m4, hz]; rw [decide_eq_true m6, decide_eq_true m7]; rfl
                            rw [hr] at HD
                            clear hr
                            clear hz m1 m2 m3 m4 m6 m7
                            go_wp2_with fail
                            generalize hwp : wr.heap.size = g at *
                            clear hwp
                            go_loopw [6] (fun i wx => ∃ k : Nat, k ≤ code.length ∧ i = .int .i64 k ∧ code.all refI = (code.drop k).all refI ∧ Ext W2 wx) (fun i _ => code.length - (Go.RowKit.intOf i).toNat)
                            case atStart => exact ⟨0, by omega, rfl, rfl, Ext.refl _⟩
                            case round =>
                              obtain ⟨k, hk, rfl, ha, hx⟩ := hrel
                              have HA := Lib.hid ha
                              replace x2 := hx.cell x2
                              have HXX := Lib.hid ((HX.out.trans HE2.out).trans hx)
                              have HX3 := Lib.hid hx
                              clear ha hx
                              by_cases hlt2 : k < code.length
                              · obtain ⟨y, hyk⟩ : ∃ y, code[k]? = some y := ⟨_, List.getElem?_eq_getElem hlt2⟩
                                obtain ⟨b2, off2, rfl, hcell⟩ := HXC.out k (insC y) (by rw [List.getElem?_map, hyk]; rfl)
                                have z0 := HXX.out.cell (hcell 0 _ rfl); have z1 := HXX.out.cell (hcell 1 _ rfl); have z2 := HXX.out.cell (hcell 2 _ rfl)
                                rw [Nat.add_zero] at z0
                                have HE := Lib.hid (HA.out.trans (all_drop (p := refI) hyk))
                                have i2 : (k : Int) < (code.length : Int) := by omega
                                clear hcell hyk HA
                                obtain ⟨op, a, b'⟩ := y
                                dsimp only at z0 z1 z2
                                have HG := Lib.hid (fun W' => rgood_ins op a b' W')
                                generalize refI ⟨op, a, b'⟩ = gb at HE HG
                                cases gb with
                                | true =>
                                  go_wp2_with fail
                                  refine (HG.out _).mono ?_
                                  rintro e w5 ⟨rfl, hx5⟩
                                  have HX5 := Lib.hid (HX3.out.trans hx5)
                                  clear hx5
                                  go_wp2_with fail
                                  exact ⟨⟨k + 1, by omega, by go_num, by rw [HE.out, Bool.true_and], HX5.out⟩, by simp [Go.RowKit.intOf]; omega⟩
                                | false =>
                                  go_wp2_with fail
                                  refine (HG.out _).mono ?_
                                  rintro e w5 ⟨rfl, hx5⟩
                                  have HX5 := Lib.hid (HXX.out.trans hx5)
                                  clear hx5
                                  go_wp2_with fail
                                  go_ret
                                  exact ⟨by rw [HD1.out, HD.out, HE.out]; rfl, HX5.out⟩
                              · obtain rfl : k = code.length := by omega
                                have HE := Lib.hid (show code.all refI = true by rw [HA.out, List.drop_length]; rfl)
                                have HX6 := Lib.hid (HX1.out.trans (HE2.out.trans HX3.out))
                                clear HA HXC
                                go_wp2_with fail
                                exact ⟨⟨j + 1, by omega, by go_num, by rw [HD.out, HE.out]; rfl, HX6.out⟩, by simp [Go.RowKit.intOf]; omega⟩
                          · have t7 : decide (600 < code.length) = true := decide_eq_true (by omega)
                            have t7' : (600 : Int) < code.length := by omega
                            have hr : refFn ⟨lo, fr, code⟩ j = false := by unfold refFn; dsimp only; rw [decide_eq_false m7]; simp
                            rw [hr] at HD
                            clear hr
                            clear hz m1 m2 m3 m4 m6 m7
                            go_wp2_with fail
                            go_ret
                            exact ⟨by rw [HD1.out, HD.out]; rfl, HX.out.trans HE2.out⟩
                        · have t6 : decide (code.length < 1) = true := decide_eq_true (by omega)
                          have t6' : (code.length : Int) < 1 := by omega
                          have hr : refFn ⟨lo, fr, code⟩ j = false := by unfold refFn; dsimp only; rw [decide_eq_false m6]; simp
                          rw [hr] at HD
                          clear hr
                          clear hz m1 m2 m3 m4 m6
                          go_wp2_with fail
                          go_ret
                          exact ⟨by rw [HD1.out, HD.out]; rfl, HX.out.trans HE2.out⟩
                    · have t4 : decide (30 < fr) = true := decide_eq_true (by omega)
                      have hr : refFn ⟨lo, fr, code⟩ j = false := by unfold refFn; dsimp only; rw [decide_eq_false m4]; simp
                      rw [hr] at HD
                      clear hr
                      clear m1 m2 m3 m4
                      go_wp2_with fail
                      go_ret
                      exact ⟨by rw [HD1.out, HD.out]; rfl, HX.out.trans HE2.out⟩
                  · have t3 : decide (fr < 0) = true := decide_eq_true (by omega)
                    have hr : refFn ⟨lo, fr, code⟩ j = false := by unfold refFn; dsimp only; rw [decide_eq_false m3]; simp
                    rw [hr] at HD
                    clear hr
                    clear m1 m2 m3
                    go_wp2_with fail
                    go_ret
                    exact ⟨by rw [HD1.out, HD.out]; rfl, HX.out.trans HE2.out⟩
                · have t2 : decide (60 < lo) = true := decide_eq_true (by omega)
                  have hr : refFn ⟨lo, fr, code⟩ j = false := by unfold refFn; dsimp only; rw [decide_eq_false m2]; simp
                  rw [hr] at HD
                  clear hr
                  clear m1 m2
                  go_wp2_with fail
                  go_ret
                  exact ⟨by rw [HD1.out, HD.out]; rfl, HX.out.trans HE2.out⟩
              · have t1 : decide (lo < 1) = true := decide_eq_true (by omega)
                have t1' : lo < 1 := by omega
                have hr : refFn ⟨lo, fr, code⟩ j = false := by unfold refFn; dsimp only; rw [decide_eq_false m1]; simp
                rw [hr] at HD
                clear hr
                clear m1
                go_wp2_with fail
                go_ret
                exact ⟨by rw [HD1.out, HD.out]; rfl, HX.out.trans HE2.out⟩
          · obtain rfl : j = F.length := by omega
            have HD := Lib.hid (show refFns (F.map (·.f)) 0 = true by rw [HA.out, List.drop_length]; rfl)
            go_wp2_with fail
            go_ret
            exact ⟨by rw [HD1.out, HD.out]; rfl, HX.out⟩
end Go.Proofs.YtgiopklnielglaaDoor
