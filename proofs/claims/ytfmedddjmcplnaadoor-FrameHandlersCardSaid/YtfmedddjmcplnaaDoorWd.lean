/- Slices of words; the walk of keep.Words (over Sli). -/
import Derived.Test.YtfmedddjmcplnaaDoorSli
import Derived.Test.YtfmedddjmcplnaaDoorProg
import Derived.Deep.QuietTactic
import Derived.BigQuiet
namespace Go.Proofs.YtfmedddjmcplnaaDoor
open Go.RowKit Go.Maps
set_option maxHeartbeats 2000000
set_option maxRecDepth 100000
/-- a slice that reads as words, wherever it lies -/
def WordSl (w : World) (v : Value) (l : List Int) : Prop := ∃ q c, v = .slice q l.length c ∧ l.length ≤ c ∧ c ≤ maxLen ∧ ∀ (i : Nat) (x : Int), l[i]? = some x → ∃ b off, q = some ⟨b, off, none⟩ ∧ w.cell? ⟨b, off + i, none⟩ = some (.int .u64 x)
theorem WordSl.ext {w w' : World} {v : Value} {l : List Int} (h : WordSl w v l) (e : Ext w w') : WordSl w' v l := by
  obtain ⟨q, c, hv, h1, h2, hc⟩ := h
  exact ⟨q, c, hv, h1, h2, fun i x hx => by obtain ⟨b, off, hq, hcc⟩ := hc i x hx; exact ⟨b, off, hq, e.cell hcc⟩⟩
def wordC (x : Int) : List Value := [.int .u64 x]
theorem wordC_rows (S : List Int) : Rows1 1 (S.map wordC) := by
  intro cs hm
  obtain ⟨x, _, rfl⟩ := List.mem_map.1 hm
  exact ⟨rfl, fun u hu => by simp [wordC] at hu; subst hu; rfl⟩
theorem wordC_flat (S : List Int) : (S.map wordC).flatten = S.map fun x => Value.int .u64 x := by
  induction S with
  | nil => rfl
  | cons x S ih => rw [List.map_cons, List.flatten_cons, ih]; rfl
theorem E64 : ElemT Tryd.prog 31 24 1 8 := ⟨Tryd.underlying31, ⟨.int .u64 0, by kernel_rfl, rfl⟩, by decide⟩
theorem WordSl.of_rows {w : World} {v : Value} {l : List Int} (h : RowsP w v 1 (l.map wordC)) : WordSl w v l := by
  obtain ⟨q, c, rfl, h1, h2, hc⟩ := h.at
  rw [List.length_map] at h1 ⊢
  refine ⟨q, c, rfl, h1, h2, fun i x hx => ?_⟩
  obtain ⟨b, off, hq, hcc⟩ := hc i (wordC x) (by rw [List.getElem?_map, hx]; rfl)
  have := hcc 0 _ rfl
  rw [Nat.add_zero, Nat.mul_one] at this
  exact ⟨b, off, hq, this⟩
theorem keep_words {w : World} {va vb : Value} {a b : List Int} (ha : WordSl w va a) (hb : WordSl w vb b) : Calls Tryd.prog 20 #[va, vb] w fun e w' => e = .returned (.bool (decide (a = b))) ∧ Ext w w' := by
  obtain ⟨qa, ca, rfl, la1, la2, hca⟩ := ha
  obtain ⟨qb, cb, rfl, lb1, lb2, hcb⟩ := hb
  unfold maxLen at la2 lb2
  by_cases hl : a.length = b.length
  · have HA := Lib.hid hca; have HB := Lib.hid hcb
    have HL := Lib.hid hl.symm
    rw [← hl] at lb1 ⊢
    clear hca hcb hl
    go_enter Tryd.func20, Tryd.ntmps20
    go_wp2
    go_loopw [5] (fun i wr => ∃ k : Nat, k ≤ a.length ∧ i = .int .i64 k ∧ a.take k = b.take k ∧ Ext w wr) (fun i _ => a.length - (intOf i).toNat)
    case atStart => exact ⟨0, by omega, rfl, rfl, Ext.refl _⟩
    case round =>
      obtain ⟨k, hk, rfl, htk, hx⟩ := hrel
      have HT := Lib.hid htk
      clear htk
      by_cases hlt : k < a.length
      · have hltb : k < b.length := by rw [HL.out]; exact hlt
        obtain ⟨b1, o1, rfl, p0⟩ := HA.out k a[k] (List.getElem?_eq_getElem hlt)
        obtain ⟨b2, o2, rfl, q0⟩ := HB.out k b[k] (List.getElem?_eq_getElem hltb)
        have P0 := hx.cell p0; have Q0 := hx.cell q0
        clear p0 q0
        have HX := Lib.hid (show a[k] = b[k] → a.take (k + 1) = b.take (k + 1) by intro e; rw [List.take_succ_eq_append_getElem hlt, List.take_succ_eq_append_getElem hltb, e, HT.out])
        have HY := Lib.hid (show a[k] ≠ b[k] → decide (a = b) = false by intro e; exact decide_eq_false (fun h => e (by subst h; rfl)))
        generalize a[k] = x at *
        generalize b[k] = y at *
        have i1 : (k : Int) < (a.length : Int) := by omega
        by_cases hxy : x = y
        · subst hxy
          go_wp2
          go_big_quiet (fail)
          go_wp2
          exact ⟨⟨k + 1, by omega, by go_num, HX.out (by first | trivial | rfl), hx.trans (Ext.drewN _ _)⟩, by simp [intOf]; omega⟩
        · have hres := HY.out hxy
          have bne : (x == y) = false := beq_false_of_ne hxy
          have HRS := Lib.hid hres
          clear hres
          go_wp2
          go_big_quiet (fail)
          go_wp2
          go_ret
          rw [HRS.out]
          exact ⟨rfl, hx.trans (Ext.drewN _ _)⟩
      · obtain rfl : k = a.length := by omega
        have hab : a = b := by
          have := HT.out
          rw [List.take_length, ← HL.out, List.take_length] at this
          exact this
        have HAB := Lib.hid (decide_eq_true hab)
        clear hab
        go_wp2
        go_ret
        rw [HAB.out]
        exact ⟨rfl, hx⟩
  · have bl : ((a.length : Int) == (b.length : Int)) = false := beq_false_of_ne (by omega)
    have hab : decide (a = b) = false := decide_eq_false (fun e => hl (by rw [e]))
    rw [hab]
    clear hca hcb hab hl
    go_enter Tryd.func20, Tryd.ntmps20
    go_wp2
    go_ret
    exact ⟨rfl, Ext.refl _⟩
end Go.Proofs.YtfmedddjmcplnaaDoor
