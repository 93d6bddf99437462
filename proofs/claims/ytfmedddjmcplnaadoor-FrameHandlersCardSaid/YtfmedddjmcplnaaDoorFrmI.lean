/- frame.Roots. -/
import Derived.Test.YtfmedddjmcplnaaDoorFrmH
namespace Go.Proofs.YtfmedddjmcplnaaDoor
open Go.RowKit
set_option maxHeartbeats 4000000
set_option maxRecDepth 100000
/-- a frame: its function, its next instruction, its base, its closure -/
structure Fr where
  fn : Int
  pc : Int
  base : Int
  self : Int
def frC (x : Fr) : List Value := [.int .i64 x.fn, .int .i64 x.pc, .int .i64 x.base, .int .u64 x.self]
def selfs (F : List Fr) : List Int := F.map Fr.self
theorem selfs_take {F : List Fr} {k : Nat} {x : Fr} (h : F[k]? = some x) : selfs (F.take (k + 1)) = selfs (F.take k) ++ [x.self] := by
  have hk : k < F.length := (List.getElem?_eq_some_iff.1 h).1
  have hx : F[k] = x := (List.getElem?_eq_some_iff.1 h).2
  unfold selfs
  rw [List.take_succ_eq_append_getElem hk, List.map_append, hx]
  rfl
def RootsDone (w : World) (L : List Int) (e : Ending) (w' : World) : Prop := ∃ v, e = .returned v ∧ OwnP w' w.heap.size 24 v 1 (L.map wordC) ∧ Ext w w'
theorem roots_step {w' : World} {L : List Int} {x : Int} {B : Nat} {v' : Value} (h : OwnP w' B 24 v' 1 (L.map wordC ++ [[Value.int .u64 x]])) : OwnP w' B 24 v' 1 ((L ++ [x]).map wordC) := by
  have e : L.map wordC ++ [[Value.int .u64 x]] = (L ++ [x]).map wordC := by simp [wordC]
  rw [← e]; exact h
theorem roots_is {w : World} {s f h : Value} {S : List Int} {F : List Fr} (hs : RowsP w s 1 (S.map wordC)) (hf : RowsP w f 4 (F.map frC)) (lS : S.length ≤ 1000000) (lF : F.length ≤ 1000000) (a b c d st r co : Int) :
    Calls Tryd.prog 18 #[machV a b c d s f h st r co] w (RootsDone w (S ++ selfs F ++ [r])) := by
  obtain ⟨qf, kf, rfl, hkf, hkm, hcf⟩ := hf.at
  rw [List.length_map] at hkf ⊢
  have HS := Lib.hid hs; have HF := Lib.hid hcf
  clear hs hf hcf
  unfold machV
  go_enter Tryd.func18, Tryd.ntmps18
  go_wp2_with fail
  refine at_alloc1 fun W hE hS b0 => ?_
  refine (clone_w (HS.out.ext hE) (by simpa using lS)).mono ?_
  rintro e w1 ⟨v1, rfl, ho1, hx1⟩
  have c0 := (Below.block hx1 w.heap.size (by omega)).trans b0
  have hsz := hx1.size
  have HX := Lib.hid (hE.trans hx1)
  rw [hS] at ho1 hsz
  have HO := Lib.hid ho1
  clear ho1 hx1 hE b0 hS
  obtain ⟨m0, m1, m2, m3, m4, m5, m6, m7, m8, m9⟩ := cells10 c0
  have C0 := Lib.hid c0
  clear c0
  go_wp2_with fail
  go_loopw [3, 12] (fun v i wr => ∃ k : Nat, k ≤ F.length ∧ i = .int .i64 k ∧ OwnP wr (w.heap.size + 1) 24 v 1 ((S ++ selfs (F.take k)).map wordC) ∧ Below (w.heap.size + 1) w1 wr) (fun _ i _ => F.length - (intOf i).toNat)
  case atStart => exact ⟨0, by omega, rfl, by simpa [selfs] using HO.out, Below.refl _ _⟩
  case round =>
    obtain ⟨k, hk, rfl, ho, hb⟩ := hrel
    have hll : (S ++ selfs (F.take k)).length ≤ 2000000 := by simp [selfs]; omega
    have HL := Lib.hid (rfl : S ++ selfs (F.take k) = S ++ selfs (F.take k))
    generalize hL : S ++ selfs (F.take k) = L at ho hll HL
    clear HL
    have HL := Lib.hid hL
    clear hL
    obtain ⟨qv, kv, hv, _, _⟩ := ho.len
    rw [List.length_map] at hv
    subst hv
    have c0 : wr.heap[w.heap.size]? = _ := (Below.block hb w.heap.size (by omega)).trans C0.out
    have hbs := Below.size hb
    have HO' := Lib.hid ho
    have HB := Lib.hid hb
    clear ho hb m0 m1 m2 m3 m4 m5 m6 m7 m8 m9
    obtain ⟨m0, m1, m2, m3, m4, m5, m6, m7, m8, m9⟩ := cells10 c0
    clear c0
    by_cases hlt : k < F.length
    · have hx := List.getElem?_eq_getElem hlt
      generalize F[k] = x at hx
      obtain ⟨bf, off, rfl, hcell⟩ := HF.out k (frC x) (by rw [List.getElem?_map, hx]; rfl)
      have HT := Lib.hid (selfs_take hx)
      have hx2 := HX.out.go HB.out (by omega)
      have y0 := hx2.cell (hcell 0 _ rfl); have y1 := hx2.cell (hcell 1 _ rfl); have y2 := hx2.cell (hcell 2 _ rfl); have y3 := hx2.cell (hcell 3 _ rfl)
      rw [Nat.add_zero] at y0
      obtain ⟨fn, pc, bs, self⟩ := x
      dsimp only at y0 y1 y2 y3
      clear hcell hx hx2
      have i1 : (k : Int) < (F.length : Int) := by omega
      go_wp2_with (refine wpList_append_rows E64 (by rfl) _ _ (by rfl) (w.heap.size + 1) (.slice qv L.length kv) (.slice (some ⟨wr.heap.size + 1, 0, none⟩) 1 1) (L.map wordC) [[.int .u64 self]] (by rfl) (HO'.out.ext (Ext.trans (Ext.alloc _ _) (Ext.alloc _ _))) (by rfl) (rows_of_block (cs := #[.int .u64 self]) (new_block (by simp)) rfl (by intro u hu; simp at hu; subst hu; rfl)) (by simp; unfold maxLen; omega) (by simp; omega) (by simp; omega) ?_)
      intro v2 w2 ho2 hg2 _ _
      have hb2 : Below (w.heap.size + 1) w1 w2 := Below.grown (Below.alloc (Below.alloc HB.out (by omega) _) (by simp; omega) _) hg2 (by simp; omega) (fun b hb => (HO'.out.own b hb).1)
      have HO2 := Lib.hid (roots_step ho2)
      have HB2 := Lib.hid hb2
      clear ho2 hg2 hb2
      go_wp2
      refine ⟨⟨k + 1, by omega, by go_num, ?_, HB2.out⟩, by simp [intOf]; omega⟩
      rw [HT.out, ← List.append_assoc, HL.out]
      exact HO2.out
    · obtain rfl : k = F.length := by omega
      rw [List.take_length] at HL
      go_wp2_with (refine wpList_append_rows E64 (by rfl) _ _ (by rfl) (w.heap.size + 1) (.slice qv L.length kv) (.slice (some ⟨wr.heap.size, 0, none⟩) 1 1) (L.map wordC) [[.int .u64 r]] (by rfl) (HO'.out.ext (Ext.alloc _ _)) (by rfl) (rows_of_block (cs := #[.int .u64 r]) (heap_alloc_new _ _) rfl (by intro u hu; simp at hu; subst hu; rfl)) (by simp; unfold maxLen; omega) (by simp; omega) (by simp; omega) ?_)
      intro v2 w2 ho2 hg2 _ _
      have hb2 : Below (w.heap.size + 1) w1 w2 := Below.grown (Below.alloc HB.out (by omega) _) hg2 (by simp; omega) (fun b hb => (HO'.out.own b hb).1)
      have HO2 := Lib.hid (roots_step ho2)
      have HB2 := Lib.hid hb2
      clear ho2 hg2 hb2
      go_wp2
      go_ret
      rw [HL.out]
      exact ⟨v2, rfl, HO2.out.mono (by omega), HX.out.go HB2.out (by omega)⟩
end Go.Proofs.YtfmedddjmcplnaaDoor
