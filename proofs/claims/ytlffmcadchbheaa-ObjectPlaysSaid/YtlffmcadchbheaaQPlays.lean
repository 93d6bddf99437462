/- Proved here: the contracts and laws of ObjLD, ObjLF, Tw, ObjLG, ObjLH of this claim, each beneath its own remark; conditions: those that each theorem names. -/
import Derived.Test.YtlffmcadchbheaaM9
import Derived.Deep.RegionHeld3
import Derived.Deep.CutBlock
import Derived.Laws.StructEq
/- ObjectHeads: the walk. -/
namespace Go.Proofs.Ytlffmcadchbheaa
open Go.RowKit Go.Maps Arena
set_option maxHeartbeats 8000000
set_option maxRecDepth 100000
theorem ohead_is (o : Ob) (c : Nat) (q : Option Addr) (W : World) (h : o.fields.length ≤ 9223372036854775807) : Calls Try.prog 13 #[.agg #[.int .i64 o.kind, .int .i64 o.tag, .slice q o.fields.length c, .string o.text]] W fun e w' => ∃ r, e = .returned (.tuple #[.int .u64 r, .bool (mayO o)]) ∧ (mayO o = true → r = headO o) ∧ (mayO o = false → r = 0) ∧ Ext W w' := by
  cases hm : mayO o with
  | true => exact (head_yes o.kind o.tag o.fields.length c q o.text W h hm).mono fun e w' ⟨h1, h2⟩ => ⟨_, h1, fun _ => rfl, (fun h => by cases h), h2⟩
  | false => exact (head_no o.kind o.tag o.fields.length c q o.text W h hm).mono fun e w' ⟨h1, h2⟩ => ⟨_, h1, (fun h => by cases h), fun _ => rfl, h2⟩
/-- two heads are one just if what they tell is -/
theorem heads_cases {o1 o2 : Ob} (h1 : mayO o1 = true) (h2 : mayO o2 = true) :
    ((o1.kind == o2.kind) = false ∧ (headO o1 == headO o2) = false) ∨
    ((o1.kind == o2.kind) = true ∧ (o1.tag == o2.tag) = false ∧ (headO o1 == headO o2) = false) ∨
    ((o1.kind == o2.kind) = true ∧ (o1.tag == o2.tag) = true ∧ ((o1.fields.length : Int) == (o2.fields.length : Int)) = false ∧ (headO o1 == headO o2) = false) ∨
    ((o1.kind == o2.kind) = true ∧ (o1.tag == o2.tag) = true ∧ ((o1.fields.length : Int) == (o2.fields.length : Int)) = true ∧ ((o1.text.size : Int) == (o2.text.size : Int)) = false ∧ (headO o1 == headO o2) = false) ∨
    ((o1.kind == o2.kind) = true ∧ (o1.tag == o2.tag) = true ∧ ((o1.fields.length : Int) == (o2.fields.length : Int)) = true ∧ ((o1.text.size : Int) == (o2.text.size : Int)) = true ∧ (headO o1 == headO o2) = true) := by
  unfold mayO at h1 h2
  unfold headO headK sizeK
  generalize o1.kind = k1 at *
  generalize o2.kind = k2 at *
  generalize o1.tag = t1 at *
  generalize o2.tag = t2 at *
  generalize o1.fields.length = n1 at *
  generalize o2.fields.length = n2 at *
  generalize o1.text.size = m1 at *
  generalize o2.text.size = m2 at *
  have e1 := mayK_cases h1
  have e2 := mayK_cases h2
  simp only [beq_eq_false_iff_ne, beq_iff_eq, ne_eq]
  by_cases hk : k1 = k2
  · subst hk
    by_cases ht : t1 = t2
    · subst ht
      by_cases hk2 : k1 = 2
      · subst hk2
        rw [if_pos rfl, if_pos rfl]
        omega
      · rw [if_neg hk2, if_neg hk2]
        omega
    · refine .inr (.inl ⟨rfl, ht, ?_⟩)
      split <;> omega
  · refine .inl ⟨hk, ?_⟩
    split <;> split <;> omega
theorem words_cases (o : Ob) :
    ((o.kind == 2) = false ∧ (wordsO o : Int) = 1 + (o.fields.length : Int)) ∨
    ((o.kind == 2) = true ∧ ((o.text.size : Int) % 8 == 0) = true ∧ (wordsO o : Int) = 1 + (o.text.size : Int) / 8) ∨
    ((o.kind == 2) = true ∧ ((o.text.size : Int) % 8 == 0) = false ∧ (wordsO o : Int) = 1 + (o.text.size : Int) / 8 + 1) := by
  unfold wordsO bodyK
  simp only [beq_eq_false_iff_ne, beq_iff_eq, ne_eq]
  generalize o.text.size = m
  generalize o.fields.length = n
  by_cases hk : o.kind = 2
  · rw [if_pos hk]
    refine .inr ?_
    by_cases h8 : (m : Int) % 8 = 0
    · exact .inl ⟨hk, h8, by omega⟩
    · exact .inr ⟨hk, h8, by omega⟩
  · rw [if_neg hk]
    exact .inl ⟨hk, by omega⟩
theorem head_kind {o : Ob} (h : mayO o = true) : headO o % 256 = o.kind := by
  unfold mayO at h
  unfold headO headK
  have := mayK_bounds h
  omega
theorem heads_walk (x y : ObI) (w : World) (hx : ObiP w x) (hy : ObiP w y) : Calls Try.prog 6 #[.agg (obiC x).toArray, .agg (obiC y).toArray] w (TrueExt w) := by
  obtain ⟨o1, v1⟩ := x
  obtain ⟨o2, v2⟩ := y
  obtain ⟨q1, c1, hv1, hl1, hc1, -⟩ := RowsP.at hx.p.1
  obtain ⟨q2, c2, hv2, hl2, hc2, -⟩ := RowsP.at hy.p.1
  dsimp only at hv1 hv2 hl1 hl2
  rw [List.length_map] at hv1 hl1 hv2 hl2
  subst hv1 hv2
  have hs1 := hx.text
  have hs2 := hy.text
  dsimp only at hs1 hs2
  unfold maxLen at hs1 hs2 hc1 hc2
  clear hx hy
  have HL1 := Lib.hid (fun W => long_is o1.kind o1.tag o1.fields.length c1 q1 o1.text W (by omega) (by omega))
  have HL2 := Lib.hid (fun W => long_is o2.kind o2.tag o2.fields.length c2 q2 o2.text W (by omega) (by omega))
  have HH1 := Lib.hid (fun W => ohead_is o1 c1 q1 W (by omega))
  have HH2 := Lib.hid (fun W => ohead_is o2 c2 q2 W (by omega))
  have HM1 := Lib.hid (fun W => refmay_is o1.kind o1.tag o1.fields.length c1 q1 o1.text W)
  have HM2 := Lib.hid (fun W => refmay_is o2.kind o2.tag o2.fields.length c2 q2 o2.text W)
  rw [show mayK o1.kind o1.tag o1.fields.length o1.text.size = mayO o1 from rfl] at HM1
  rw [show mayK o2.kind o2.tag o2.fields.length o2.text.size = mayO o2 from rfl] at HM2
  simp only [obiC]
  obtain ⟨l1, hl1e⟩ : ∃ b, b = (decide (600 < o1.fields.length) || decide (800 < o1.text.size)) := ⟨_, rfl⟩
  obtain ⟨l2, hl2e⟩ : ∃ b, b = (decide (600 < o2.fields.length) || decide (800 < o2.text.size)) := ⟨_, rfl⟩
  rw [← hl1e] at HL1
  rw [← hl2e] at HL2
  have HE1 := Lib.hid hl1e; have HE2 := Lib.hid hl2e
  clear hl1e hl2e hl1 hl2 hc1 hc2 hs1 hs2
  go_enter Try.func6, Try.ntmps6
  go_upto_region 1 with fail
  refine wp_alloc2 fun W hE hS b0 b1 => ?_
  have HX := Lib.hid hE
  obtain ⟨z0, z1, z2, z3⟩ := cells4 b0
  obtain ⟨u0, u1, u2, u3⟩ := cells4 b1
  clear hE hS
  go_wp2_with fail
  refine (HL1.out W).mono ?_
  rintro e w1 ⟨rfl, hx1⟩
  cases l1 with
  | true =>
    have HX1 := Lib.hid (HX.out.trans hx1)
    clear hx1 b0 b1 z0 z1 z2 z3 u0 u1 u2 u3
    go_wp2_with fail
    refine (wakes3 _).mono ?_
    rintro e w2 ⟨rfl, hx2⟩
    have HX2 := Lib.hid (HX1.out.trans hx2)
    clear hx2
    go_wp2
    go_ret
    exact ⟨rfl, HX2.out⟩
  | false =>
    have c0 := (Below.block hx1 _ (Array.getElem?_eq_some_iff.1 b0).1).trans b0
    have c1' := (Below.block hx1 _ (Array.getElem?_eq_some_iff.1 b1).1).trans b1
    have HX1 := Lib.hid (HX.out.trans hx1)
    clear hx1 b0 b1 z0 z1 z2 z3 u0 u1 u2 u3
    obtain ⟨z0, z1, z2, z3⟩ := cells4 c0
    obtain ⟨u0, u1, u2, u3⟩ := cells4 c1'
    go_wp2_with fail
    refine (HL2.out _).mono ?_
    rintro e w2 ⟨rfl, hx2⟩
    cases l2 with
    | true =>
      have HX2 := Lib.hid (HX1.out.trans hx2)
      clear hx2 c0 c1' z0 z1 z2 z3 u0 u1 u2 u3
      go_wp2_with fail
      refine (wakes3 _).mono ?_
      rintro e w3 ⟨rfl, hx3⟩
      have HX3 := Lib.hid (HX2.out.trans hx3)
      clear hx3
      go_wp2
      go_ret
      exact ⟨rfl, HX3.out⟩
    | false =>
      have b0 := (Below.block hx2 _ (Array.getElem?_eq_some_iff.1 c0).1).trans c0
      have b1 := (Below.block hx2 _ (Array.getElem?_eq_some_iff.1 c1').1).trans c1'
      have HX2 := Lib.hid (HX1.out.trans hx2)
      clear hx2 c0 c1' z0 z1 z2 z3 u0 u1 u2 u3
      obtain ⟨z0, z1, z2, z3⟩ := cells4 b0
      obtain ⟨u0, u1, u2, u3⟩ := cells4 b1
      go_wp2_with fail
      refine (HH1.out _).mono ?_
      rintro e w3 ⟨r1, rfl, hr1, -, hx3⟩
      have HR1 := Lib.hid hr1
      clear hr1
      have c0 := (Below.block hx3 _ (Array.getElem?_eq_some_iff.1 b0).1).trans b0
      have c1' := (Below.block hx3 _ (Array.getElem?_eq_some_iff.1 b1).1).trans b1
      have HX3 := Lib.hid (HX2.out.trans hx3)
      clear hx3 b0 b1 z0 z1 z2 z3 u0 u1 u2 u3
      obtain ⟨z0, z1, z2, z3⟩ := cells4 c0
      obtain ⟨u0, u1, u2, u3⟩ := cells4 c1'
      go_wp2_with fail
      refine (HH2.out _).mono ?_
      rintro e w4 ⟨r2, rfl, hr2, -, hx4⟩
      have HR2 := Lib.hid hr2
      clear hr2
      have b0 := (Below.block hx4 _ (Array.getElem?_eq_some_iff.1 c0).1).trans c0
      have b1 := (Below.block hx4 _ (Array.getElem?_eq_some_iff.1 c1').1).trans c1'
      have HX4 := Lib.hid (HX3.out.trans hx4)
      clear hx4 c0 c1' z0 z1 z2 z3 u0 u1 u2 u3
      obtain ⟨z0, z1, z2, z3⟩ := cells4 b0
      obtain ⟨u0, u1, u2, u3⟩ := cells4 b1
      generalize hm1 : mayO o1 = m1 at HM1 HH1 HR1 ⊢
      generalize hm2 : mayO o2 = m2 at HM2 HH2 HR2 ⊢
      have HM1e := Lib.hid hm1; have HM2e := Lib.hid hm2
      clear hm1 hm2
      cases m1 <;> cases m2
      all_goals
        go_wp2_with fail
        refine (HM1.out _).mono ?_
        rintro e w5 ⟨rfl, hx5⟩
        have c0 := (Below.block hx5 _ (Array.getElem?_eq_some_iff.1 b0).1).trans b0
        have c1' := (Below.block hx5 _ (Array.getElem?_eq_some_iff.1 b1).1).trans b1
        have HX5 := Lib.hid (HX4.out.trans hx5)
        clear hx5 b0 b1 z0 z1 z2 z3 u0 u1 u2 u3
        obtain ⟨z0, z1, z2, z3⟩ := cells4 c0
        obtain ⟨u0, u1, u2, u3⟩ := cells4 c1'
        go_wp2_with fail
        refine (HM2.out _).mono ?_
        rintro e w6 ⟨rfl, hx6⟩
        have b0 := (Below.block hx6 _ (Array.getElem?_eq_some_iff.1 c0).1).trans c0
        have b1 := (Below.block hx6 _ (Array.getElem?_eq_some_iff.1 c1').1).trans c1'
        have HX6 := Lib.hid (HX5.out.trans hx6)
        clear hx6 c0 c1' z0 z1 z2 z3 u0 u1 u2 u3
        obtain ⟨z0, z1, z2, z3⟩ := cells4 b0
        obtain ⟨u0, u1, u2, u3⟩ := cells4 b1
        clear HL1 HL2 HH1 HH2 HM1 HM2 HX HX1 HX2 HX3 HX4 HX5
      rotate_left 3
      · go_upto_region 9 with fail
        have hc := heads_cases HM1e.out HM2e.out
        have hw := words_cases o1
        have hkd := head_kind HM1e.out
        have hr1 := HR1.out trivial
        have hr2 := HR2.out trivial
        rw [← hr1] at hkd
        rw [← hr1, ← hr2] at hc
        have HKD := Lib.hid hkd
        have HWO := Lib.hid (fun W => owords_yes o1.kind o1.tag o1.fields.length c1 q1 o1.text W (by
          have := mayK_bounds (show mayK o1.kind o1.tag o1.fields.length o1.text.size = true from HM1e.out)
          omega) HM1e.out)
        rw [show 1 + bodyK o1.kind o1.fields.length o1.text.size = wordsO o1 from rfl] at HWO
        have hb := mayK_bounds (show mayK o1.kind o1.tag o1.fields.length o1.text.size = true from HM1e.out)
        obtain ⟨B1, B2, -, -, B3, B4, -, -⟩ := hb
        have hw64 : W64 r1 := by
          rw [hr1]
          have := mayK_bounds (show mayK o1.kind o1.tag o1.fields.length o1.text.size = true from HM1e.out)
          unfold W64 headO headK
          omega
        obtain ⟨hr64, -⟩ := hw64
        clear hr1 hr2 hkd HR1 HR2 HM1e HM2e HE1 HE2
        generalize hwn : (wordsO o1 : Int) = wn at HWO hw
        clear hwn
        rcases hc with ⟨a1, a5⟩ | ⟨a1, a2, a5⟩ | ⟨a1, a2, a3, a5⟩ | ⟨a1, a2, a3, a4, a5⟩ | ⟨a1, a2, a3, a4, a5⟩
        all_goals rcases hw with ⟨e1, e2⟩ | ⟨e1, e2, e3⟩ | ⟨e1, e2, e3⟩
        all_goals
          go_wp2_with fail
          refine (HWO.out _).mono ?_
          rintro e w7 ⟨rfl, hx7⟩
          subst_eqs
          have c0 := (Below.block hx7 _ (Array.getElem?_eq_some_iff.1 b0).1).trans b0
          have HX7 := Lib.hid (HX6.out.trans hx7)
          have hkd := HKD.out
          clear hx7 b0 b1 z0 z1 z2 z3 u0 u1 u2 u3 HKD HWO
          obtain ⟨z0, z1, z2, z3⟩ := cells4 c0
          go_wp2_with fail
          refine (wakes3 _).mono ?_
          rintro e w8 ⟨rfl, hx8⟩
          have HX8 := Lib.hid (HX7.out.trans hx8)
          clear hx8
          go_wp2
          go_ret
          exact ⟨rfl, HX8.out⟩
      all_goals
        go_wp2_with fail
        refine (wakes3 _).mono ?_
        rintro e w7 ⟨rfl, hx7⟩
        have HX7 := Lib.hid (HX6.out.trans hx7)
        clear hx7
        go_wp2
        go_ret
        exact ⟨rfl, HX7.out⟩
theorem heads_walk' {v1 v2 : Value} {x y : ObI} {w : World} (h1 : v1 = .agg (obiC x).toArray ∧ ObiP w x) (h2 : v2 = .agg (obiC y).toArray ∧ ObiP w y) : Calls Try.prog 6 #[v1, v2] w (TrueExt w) := by
  obtain ⟨rfl, hx⟩ := h1
  obtain ⟨rfl, hy⟩ := h2
  exact heads_walk x y w hx hy
end Go.Proofs.Ytlffmcadchbheaa
/- object.Good without an arena. -/
namespace Go.Proofs.Ytlffmcadchbheaa
open Go.RowKit Go.Maps Arena
set_option maxHeartbeats 8000000
set_option maxRecDepth 100000
theorem region_nil (k : Int) (w : World) : Calls Try.prog 59 #[.pointer none, .int .i64 k] w fun e w' => e = .returned (.slice none 0 0) ∧ w = w' := by
  go_enter Try.func59, Try.ntmps59
  go_wp2
  go_ret
  exact ⟨rfl, rfl⟩
theorem words_nil (k : Int) (w : World) : Calls Try.prog 50 #[.pointer none, .int .i64 k] w fun e w' => e = .returned (.tuple #[.slice none 0 0, .bool false]) ∧ w = w' := by
  have hcl : ∀ W, Calls Try.prog 65 #[.slice none 0 0] W fun e w' => e = .returned (.slice none 0 0) ∧ w' = W := fun W => AnyE.slices_Clone_nil Try.cloneA 0 0 W
  go_enter Try.func50, Try.ntmps50
  go_wp2_with fail
  refine (region_nil _ _).mono ?_; rintro e w' ⟨rfl, rfl⟩
  go_wp2_with fail
  refine (hcl _).mono ?_; rintro e w' ⟨rfl, rfl⟩
  go_wp2
  go_ret2
  exact ⟨rfl, rfl⟩
theorem there_nil (ba ha sp tp : Int) (w : World) : Calls Try.prog 61 #[.agg #[.pointer none, .int .i64 ba, .int .i64 ha, .int .i64 sp, .int .i64 tp]] w fun e w' => e = .returned (.bool false) ∧ Ext w w' := by
  rcases Bool.eq_false_or_eq_true (decide (ha < 8)) with b0 | b0
  · go_enter Try.func61, Try.ntmps61
    go_wp2
    go_ret
    exact ⟨rfl, Ext.alloc _ _⟩
  rcases Bool.eq_false_or_eq_true (decide (2000 < ha)) with b1 | b1
  · go_enter Try.func61, Try.ntmps61
    go_wp2
    go_ret
    exact ⟨rfl, Ext.alloc _ _⟩
  rcases Bool.eq_false_or_eq_true (decide (sp < 0)) with b2 | b2
  · go_enter Try.func61, Try.ntmps61
    go_wp2
    go_ret
    exact ⟨rfl, Ext.alloc _ _⟩
  rcases Bool.eq_false_or_eq_true (decide (1 < sp)) with b3 | b3
  · go_enter Try.func61, Try.ntmps61
    go_wp2
    go_ret
    exact ⟨rfl, Ext.alloc _ _⟩
  rcases Bool.eq_false_or_eq_true (decide (tp < 0)) with b4 | b4
  · go_enter Try.func61, Try.ntmps61
    go_wp2
    go_ret
    exact ⟨rfl, Ext.alloc _ _⟩
  rcases Bool.eq_false_or_eq_true (decide (ha < tp)) with b5 | b5
  · go_enter Try.func61, Try.ntmps61
    go_wp2
    go_ret
    exact ⟨rfl, Ext.alloc _ _⟩
  go_enter Try.func61, Try.ntmps61
  go_wp2_with fail
  refine (words_nil _ _).mono ?_
  rintro e w1 ⟨rfl, rfl⟩
  go_wp2
  go_ret
  exact ⟨rfl, Ext.alloc _ _⟩
theorem all_nil (ba ha sp tp : Int) (w : World) : Calls Try.prog 47 #[.agg #[.pointer none, .int .i64 ba, .int .i64 ha, .int .i64 sp, .int .i64 tp]] w (AllNo w) := by
  go_enter Try.func47, Try.ntmps47
  go_wp2_with fail
  refine (there_nil ba ha sp tp _).mono ?_
  rintro e w1 ⟨rfl, hx⟩
  have HX := Lib.hid ((Ext.alloc _ _).trans hx)
  clear hx
  go_wp2
  go_ret3
  exact ⟨rfl, HX.out⟩
theorem good_nil (ba ha sp tp : Int) (w : World) : Calls Try.prog 24 #[.pointer none, .agg #[.int .i64 ba, .int .i64 ha, .int .i64 sp, .int .i64 tp]] w fun e w' => e = .returned (.bool false) ∧ Ext w w' := by
  have HA := Lib.hid (fun W => all_nil ba ha sp tp W)
  unfold AllNo at HA
  go_enter Try.func24, Try.ntmps24
  go_wp2_with fail
  refine (HA.out _).mono ?_
  rintro e w1 ⟨rfl, hx⟩
  have HX := Lib.hid ((Ext.alloc _ _).trans hx)
  clear hx
  go_wp2
  go_ret
  exact ⟨rfl, HX.out⟩
end Go.Proofs.Ytlffmcadchbheaa
/- A rig in use: both arenas, the block that holds them, and a heap's numbers. -/
namespace Go.Proofs.Ytlffmcadchbheaa
open Go.RowKit Go.Maps Arena
set_option maxHeartbeats 4000000
set_option maxRecDepth 100000
/-- what is newer turns, too -/
theorem Turn.newer {bs cs : List Nat} {a b c : World} (h : Turn bs a b) (k : Turn cs b c) (hc : ∀ x ∈ cs, a.heap.size ≤ x) : Turn bs a c :=
  ⟨k.os.trans h.os, k.tape.trans h.tape, k.output.trans h.output, Nat.le_trans h.size k.size, fun i hi hb => (k.block i (Nat.lt_of_lt_of_le hi h.size) (fun hm => by have := hc i hm; omega)).trans (h.block i hi hb)⟩
structure Tw (w3 W : World) (p g bm q gq B n t0 t1 : Nat) (vR : Value) (ws : List Int) (R : List (Nat × Nat)) (h : Hp) : Prop where
  a : ArenaAt W p g bm n ws R
  r : RefAt W q gq B n ws vR R
  r0 : ∃ ws0, RefAt w3 q gq B n ws0 vR R
  two : W.heap[t0]? = some (.cells #[.pointer (some ⟨p, 0, none⟩), .pointer (some ⟨q, 0, none⟩)] 36 (0, 0))
  hp : W.heap[t1]? = some (.cells #[.int .i64 h.base, .int .i64 h.half, .int .i64 h.space, .int .i64 h.top] 24 (0, 0))
  t : Turn [g, gq] w3 W
  lt : p < q ∧ g < q ∧ bm < q ∧ p < gq ∧ g < gq ∧ bm < gq
  st : w3.heap.size ≤ t0 ∧ t0 < t1
  bs : B ≤ w3.heap.size
section
variable {w3 W W' : World} {p g bm q gq B n t0 t1 : Nat} {vR : Value} {ws ws' : List Int} {R : List (Nat × Nat)} {h h' : Hp}
theorem Tw.low (k : Tw w3 W p g bm q gq B n t0 t1 vR ws R h) : p < w3.heap.size ∧ g < w3.heap.size ∧ bm < w3.heap.size ∧ q < w3.heap.size ∧ gq < w3.heap.size := by
  obtain ⟨ws0, h0⟩ := k.r0
  obtain ⟨h1, h2⟩ := h0.lt
  obtain ⟨l1, l2, l3, l4, l5, l6⟩ := k.lt
  omega
theorem Tw.ext (k : Tw w3 W p g bm q gq B n t0 t1 vR ws R h) (e : Ext W W') : Tw w3 W' p g bm q gq B n t0 t1 vR ws R h :=
  ⟨k.a.ext e, k.r.ext e, k.r0, (Below.block e _ (Array.getElem?_eq_some_iff.1 k.two).1).trans k.two, (Below.block e _ (Array.getElem?_eq_some_iff.1 k.hp).1).trans k.hp, k.t.trans (Turn.of_ext e), k.lt, k.st, k.bs⟩
/-- what is newer than the rig turns -/
theorem Tw.other (k : Tw w3 W p g bm q gq B n t0 t1 vR ws R h) {bs : List Nat} (t : Turn bs W W') (hb : ∀ b ∈ bs, w3.heap.size ≤ b ∧ b ≠ t0 ∧ b ≠ t1) : Tw w3 W' p g bm q gq B n t0 t1 vR ws R h := by
  obtain ⟨m1, m2, m3, m4, m5⟩ := k.low
  obtain ⟨ws0, h0⟩ := k.r0
  refine ⟨k.a.turn t (fun hm => ?_) (fun hm => ?_) (fun hm => ?_), k.r.turn_new h0 t fun b hm => (hb b hm).1, k.r0, (t.block _ (Array.getElem?_eq_some_iff.1 k.two).1 fun hm => (hb _ hm).2.1 rfl).trans k.two,
    (t.block _ (Array.getElem?_eq_some_iff.1 k.hp).1 fun hm => (hb _ hm).2.2 rfl).trans k.hp, ⟨t.os.trans k.t.os, t.tape.trans k.t.tape, t.output.trans k.t.output, Nat.le_trans k.t.size t.size, fun i hi hn => (t.block i (Nat.lt_of_lt_of_le hi k.t.size) fun hm => ?_).trans (k.t.block i hi hn)⟩, k.lt, k.st, k.bs⟩
  · have := (hb _ hm).1; omega
  · have := (hb _ hm).1; omega
  · have := (hb _ hm).1; omega
  · have := (hb _ hm).1; omega
/-- the heap's numbers are written -/
theorem Tw.fill (k : Tw w3 W p g bm q gq B n t0 t1 vR ws R h) (c : W'.heap[t1]? = some (.cells #[.int .i64 h'.base, .int .i64 h'.half, .int .i64 h'.space, .int .i64 h'.top] 24 (0, 0))) (t : Turn [t1] W W') : Tw w3 W' p g bm q gq B n t0 t1 vR ws R h' := by
  obtain ⟨m1, m2, m3, m4, m5⟩ := k.low
  obtain ⟨s1, s2⟩ := k.st
  obtain ⟨ws0, h0⟩ := k.r0
  refine ⟨k.a.turn t (by simp; omega) (by simp; omega) (by simp; omega), k.r.turn_new h0 t fun b hm => by rw [List.mem_singleton.1 hm]; omega, k.r0, t.keep k.two (by omega), c,
    ⟨t.os.trans k.t.os, t.tape.trans k.t.tape, t.output.trans k.t.output, Nat.le_trans k.t.size t.size, fun i hi hn => (t.block i (Nat.lt_of_lt_of_le hi k.t.size) fun hm => ?_).trans (k.t.block i hi hn)⟩, k.lt, k.st, k.bs⟩
  rw [List.mem_singleton.1 hm] at hi; omega
/-- behind the program's writing, ahead of the reference's -/
theorem Tw.mid (k : Tw w3 W p g bm q gq B n t0 t1 vR ws R h) (t : Turn [g] W W') : RefAt W' q gq B n ws vR R ∧ W'.heap[t0]? = some (.cells #[.pointer (some ⟨p, 0, none⟩), .pointer (some ⟨q, 0, none⟩)] 36 (0, 0)) ∧
    W'.heap[t1]? = some (.cells #[.int .i64 h.base, .int .i64 h.half, .int .i64 h.space, .int .i64 h.top] 24 (0, 0)) ∧ B ≤ W'.heap.size := by
  obtain ⟨m1, m2, m3, m4, m5⟩ := k.low
  obtain ⟨l1, l2, l3, l4, l5, l6⟩ := k.lt
  obtain ⟨s1, s2⟩ := k.st
  have := k.r.qB
  refine ⟨k.r.turn t (by simp; omega) (by simp; omega) (by simp; omega), t.keep k.two (by omega), t.keep k.hp (by omega), ?_⟩
  have := k.bs
  have := k.t.size
  have := t.size
  omega
/-- both have written -/
theorem Tw.both {W5 W6 : World} (k : Tw w3 W p g bm q gq B n t0 t1 vR ws R h) (a : ArenaAt W5 p g bm n ws' R) (t : Turn [g] W W5) (r : RefAt W6 q gq B n ws' vR R) (u : Turn [gq] W5 W6) : Tw w3 W6 p g bm q gq B n t0 t1 vR ws' R h := by
  obtain ⟨m1, m2, m3, m4, m5⟩ := k.low
  obtain ⟨l1, l2, l3, l4, l5, l6⟩ := k.lt
  obtain ⟨s1, s2⟩ := k.st
  exact ⟨a.turn u (by simp; omega) (by simp; omega) (by simp; omega), r, k.r0, u.keep (t.keep k.two (by omega)) (by omega), u.keep (t.keep k.hp (by omega)) (by omega), (k.t.trans (t.mono (by simp))).trans (u.mono (by simp)), k.lt, k.st, k.bs⟩
/-- the rig is used up: what was ahead of it is as it was -/
theorem Tw.done {w : World} (k : Tw w3 W p g bm q gq B n t0 t1 vR ws R h) (e : Ext w w3) (hg : w.heap.size ≤ g) : Ext w W := by
  obtain ⟨l1, l2, l3, l4, l5, l6⟩ := k.lt
  exact Turn.after e k.t (by intro b hb; simp at hb; omega)
end
/-- the same words on both sides -/
theorem same_tw {w3 W : World} {p g bm q gq B n t0 t1 m : Nat} {vR : Value} {ws : List Int} {h : Hp} (k : Tw w3 W p g bm q gq B n t0 t1 vR ws (rigR m) h) (hm : 1 ≤ m) (hz : ws.take 3 = [0, 0, 0]) : Calls Try.prog 25 #[.agg #[.pointer (some ⟨p, 0, none⟩), .pointer (some ⟨q, 0, none⟩)], .int .i64 3] W fun e w' => e = .returned (.bool true) ∧ Ext W w' := by
  obtain ⟨m1, m2, m3, m4, m5⟩ := k.low
  refine same_yes (w0 := { W with heap := #[] }) (B := B) ⟨k.a, ⟨vR, k.r⟩, k.lt, ?_, Nat.le_trans k.bs k.t.size, ?_⟩ hm hz
  · exact ⟨Nat.zero_le _, Nat.zero_le _, Nat.zero_le _⟩
  · exact ⟨rfl, rfl, rfl, Nat.zero_le _, fun i hi => absurd hi (Nat.not_lt_zero _)⟩
end Go.Proofs.Ytlffmcadchbheaa
/- ObjectTells: the walk. -/
namespace Go.Proofs.Ytlffmcadchbheaa
open Go.RowKit Go.Maps Arena
set_option maxHeartbeats 8000000
set_option maxRecDepth 100000
/-- what 'Get' tells, whichever way: an object's parts -/
def obK (r : Option Ob) : Int := match r with | none => 0 | some o => o.kind
def obT (r : Option Ob) : Int := match r with | none => 0 | some o => o.tag
def obF (r : Option Ob) : List Int := match r with | none => [] | some o => o.fields
def obS (r : Option Ob) : ByteArray := match r with | none => ⟨#[]⟩ | some o => o.text
theorem get_said {w : World} {p g bm n : Nat} {ws : List Int} {R : List (Nat × Nat)} (H : ArenaAt w p g bm n ws R) (h : Hp) (hw : (Lit.int .i64 h.base).wf = true) (hW : ∀ x ∈ ws, W64 x) {x : Int} (hx : W64 x) :
    Calls Try.prog 14 #[.pointer (some ⟨p, 0, none⟩), .agg #[.int .i64 h.base, .int .i64 h.half, .int .i64 h.space, .int .i64 h.top], .int .u64 x] w fun e w' =>
      ∃ q l c, e = .returned (.tuple #[.agg #[.int .i64 (obK ((getH ws R h x).map (·.2))), .int .i64 (obT ((getH ws R h x).map (·.2))), .slice q l c, .string (obS ((getH ws R h x).map (·.2)))], .bool (getH ws R h x).isSome]) ∧ WordSl w' (.slice q l c) (obF ((getH ws R h x).map (·.2))) ∧ Ext w w' := by
  refine (get_is H h hw hW hx).mono ?_
  rintro e w' ⟨v, rfl, hx, h0, h1⟩
  cases hg : getH ws R h x with
  | none =>
    rw [h0 hg]
    exact ⟨none, 0, 0, rfl, wordSl_nil _, hx⟩
  | some y =>
    obtain ⟨q, c, rfl, ho⟩ := h1 y hg
    exact ⟨q, y.2.fields.length, c, rfl, WordSl.of_rows ho.p, hx⟩
theorem rget_said {w : World} {q gq B n : Nat} {ws : List Int} {vR : Value} {R : List (Nat × Nat)} (H : RefAt w q gq B n ws vR R) (h : Hp) (hW : ∀ x ∈ ws, W64 x) {x : Int} (hx : W64 x) :
    Calls Try.prog 15 #[.pointer (some ⟨q, 0, none⟩), .agg #[.int .i64 h.base, .int .i64 h.half, .int .i64 h.space, .int .i64 h.top], .int .u64 x] w fun e w' =>
      ∃ q l c, e = .returned (.agg #[.int .i64 (obK ((getH ws R h x).map (·.2))), .int .i64 (obT ((getH ws R h x).map (·.2))), .slice q l c, .string (obS ((getH ws R h x).map (·.2))), .bool (getH ws R h x).isSome]) ∧ WordSl w' (.slice q l c) (obF ((getH ws R h x).map (·.2))) ∧ Ext w w' := by
  refine (rget_is H h hW hx).mono ?_
  cases getH ws R h x with
  | none =>
    rintro e w' ⟨rfl, hx⟩
    exact ⟨none, 0, 0, rfl, wordSl_nil _, hx⟩
  | some y =>
    rintro e w' ⟨q, c, rfl, ho, hx⟩
    exact ⟨q, y.2.fields.length, c, rfl, WordSl.of_rows ho.p, hx⟩
/-- the places of all objects, as numbers -/
def plL (first : Nat) (r : Option (List (Nat × Ob))) : List Int := match r with | none => [] | some L => L.map fun y => ((first + y.1 : Nat) : Int)
theorem numSl_nil (w : World) : NumSl w (.slice none 0 0) [] := ⟨none, 0, rfl, Nat.le_refl _, Nat.zero_le _, fun i x h => by simp at h⟩
theorem plC_num (first : Nat) (L : List (Nat × Ob)) : L.map (plC first) = (plL first (some L)).map numC := by unfold plL; rw [List.map_map]; rfl
theorem oall_said {w : World} {p g bm n : Nat} {ws : List Int} {R : List (Nat × Nat)} (H : ArenaAt w p g bm n ws R) (h : Hp) (hw : (Lit.int .i64 h.base).wf = true) (hW : ∀ x ∈ ws, W64 x) :
    Calls Try.prog 16 #[.pointer (some ⟨p, 0, none⟩), .agg #[.int .i64 h.base, .int .i64 h.half, .int .i64 h.space, .int .i64 h.top]] w fun e w' =>
      ∃ q l c, e = .returned (.tuple #[.slice q l c, .bool (allH ws R h).isSome]) ∧ NumSl w' (.slice q l c) (plL (firstN h) (allH ws R h)) ∧ Ext w w' := by
  refine (oall_is H h hw hW).mono ?_
  rintro e w' ⟨q, l, c, rfl, hx, h0, h1⟩
  cases ha : allH ws R h with
  | none =>
    obtain ⟨rfl, rfl, rfl⟩ := h0 ha
    exact ⟨none, 0, 0, rfl, numSl_nil _, hx⟩
  | some L =>
    obtain ⟨rfl, ho⟩ := h1 L ha
    rw [plC_num] at ho
    exact ⟨q, _, c, rfl, NumSl.of_rows ho.p, hx⟩
theorem rall_said {w : World} {q gq B n : Nat} {ws : List Int} {vR : Value} {R : List (Nat × Nat)} (H : RefAt w q gq B n ws vR R) (h : Hp) (hW : ∀ x ∈ ws, W64 x) :
    Calls Try.prog 17 #[.pointer (some ⟨q, 0, none⟩), .agg #[.int .i64 h.base, .int .i64 h.half, .int .i64 h.space, .int .i64 h.top]] w fun e w' =>
      ∃ q l c, e = .returned (.agg #[.slice q l c, .bool (allH ws R h).isSome]) ∧ NumSl w' (.slice q l c) (plL (firstN h) (allH ws R h)) ∧ Ext w w' := by
  refine (rall_is H h hW).mono ?_
  intro e w' hs
  obtain ⟨q, l, c, rfl, hx, h0, h1⟩ := hs.open
  cases ha : allH ws R h with
  | none =>
    obtain ⟨rfl, rfl, rfl⟩ := h0 ha
    exact ⟨none, 0, 0, rfl, numSl_nil _, hx⟩
  | some L =>
    obtain ⟨rfl, ho⟩ := h1 L ha
    rw [plC_num] at ho
    exact ⟨q, _, c, rfl, NumSl.of_rows ho.p, hx⟩
theorem large_flat {w : World} {v : Value} {l : List Int} {a b c d : Int} (hv : WordSl w v l) : Calls Try.prog 8 #[.agg #[v, .int .i64 a, .int .i64 b, .int .i64 c, .int .i64 d]] w fun e w' => e = .returned (.bool (decide (400 < l.length))) ∧ Ext w w' := by
  obtain ⟨qv, cv, rfl, hd1, hd2, hcell⟩ := hv
  unfold maxLen at hd2
  clear hcell
  by_cases h : 400 < l.length
  · rw [decide_eq_true h]
    have i1 : (400 : Int) < (l.length : Int) := by omega
    clear h
    go_enter Try.func8, Try.ntmps8
    go_wp2_with fail
    go_ret
    exact ⟨rfl, Ext.alloc _ _⟩
  · rw [decide_eq_false h]
    have i1 : ¬ (400 : Int) < (l.length : Int) := by omega
    clear h
    go_enter Try.func8, Try.ntmps8
    go_wp2_with fail
    go_ret
    exact ⟨rfl, Ext.alloc _ _⟩
theorem wsl_cap {w : World} {q : Option Addr} {l c : Nat} {L : List Int} (h : WordSl w (.slice q l c) L) : l ≤ c ∧ c ≤ 9223372036854775807 := by
  obtain ⟨_, _, e1, e2, e3, _⟩ := h
  obtain ⟨_, rfl, rfl⟩ := Value.slice.inj e1
  unfold maxLen at e3
  exact ⟨e2, e3⟩
theorem nsl_cap {w : World} {q : Option Addr} {l c : Nat} {L : List Int} (h : NumSl w (.slice q l c) L) : l ≤ c ∧ c ≤ 9223372036854775807 := by
  obtain ⟨_, _, e1, e2, e3, _⟩ := h
  obtain ⟨_, rfl, rfl⟩ := Value.slice.inj e1
  unfold maxLen at e3
  exact ⟨e2, e3⟩
theorem cells5' {w : World} {b : Nat} {x0 x1 x2 x3 x4 : Value} {T : TypeId} {fr : Nat × Nat} (h : w.heap[b]? = some (.cells #[x0, x1, x2, x3, x4] T fr)) (i : Nat) (v : Value) (hi : (#[x0, x1, x2, x3, x4] : Array Value)[i]? = some v) : w.cell? ⟨b, i, none⟩ = some v := cell_at h hi
theorem tells_walk (r : RawI) (x : ObI) (wd : Int) (w : World) (hr : RawP w r) (hx : ObiP w x) (hwd : W64 wd) : Calls Try.prog 3 #[.agg (rawC r).toArray, .agg (obiC x).toArray, .int .u64 wd] w (TrueExt w) := by
  obtain ⟨o, v⟩ := x
  obtain ⟨rv, rl, rh⟩ := r
  have HR := Lib.hid hr; have HO := Lib.hid hx
  obtain ⟨q1, c1, hv1, hl1, hc1, -⟩ := RowsP.at hx.p.1
  obtain ⟨q2, c2, hv2, hl2, hc2, -⟩ := RowsP.at hr.p.1
  dsimp only at hv1 hl1 hv2 hl2
  rw [List.length_map] at hv1 hl1 hv2 hl2
  subst hv1 hv2
  have hs1 := hx.text
  dsimp only at hs1
  unfold maxLen at hs1 hc1 hc2
  clear hx hr
  have HL1 := Lib.hid (fun W => long_is o.kind o.tag o.fields.length c1 q1 o.text W (by omega) (by omega))
  have HLG := Lib.hid (fun W (e : Ext w W) => large_flat (a := rh.base) (b := rh.half) (c := rh.space) (d := rh.top) (WordSl.of_rows (HR.out.p.ext e).1))
  simp only [obiC, rawC]
  dsimp only at HLG
  obtain ⟨l1, hl1e⟩ : ∃ b, b = (decide (600 < o.fields.length) || decide (800 < o.text.size)) := ⟨_, rfl⟩
  obtain ⟨l2, hl2e⟩ : ∃ b, b = decide (400 < rl.length) := ⟨_, rfl⟩
  rw [← hl1e] at HL1
  rw [← hl2e] at HLG
  have HE1 := Lib.hid hl1e; have HE2 := Lib.hid hl2e
  clear hl1e hl2e hl1 hl2 hc1 hc2 hs1
  go_enter Try.func3, Try.ntmps3
  go_upto_region 1 with fail
  refine wp_alloc2 fun W hE hS b0 b1 => ?_
  have HX := Lib.hid hE
  clear hE hS
  obtain ⟨z0, z1, z2, z3, z4⟩ := cells5 b0
  obtain ⟨u0, u1, u2, u3⟩ := cells4 b1
  go_wp2_with fail
  refine (HLG.out W HX.out).mono ?_
  rintro e w1 ⟨rfl, hx1⟩
  cases l2 with
  | true =>
    have HX1 := Lib.hid (HX.out.trans hx1)
    clear hx1 b0 b1 z0 z1 z2 z3 z4 u0 u1 u2 u3
    go_wp2_with fail
    refine (wakes3 _).mono ?_
    rintro e w2 ⟨rfl, hx2⟩
    have HX2 := Lib.hid (HX1.out.trans hx2)
    clear hx2
    go_wp2
    go_ret
    exact ⟨rfl, HX2.out⟩
  | false =>
    have c0 := (Below.block hx1 _ (Array.getElem?_eq_some_iff.1 b0).1).trans b0
    have c1' := (Below.block hx1 _ (Array.getElem?_eq_some_iff.1 b1).1).trans b1
    have HX1 := Lib.hid (HX.out.trans hx1)
    clear hx1 b0 b1 z0 z1 z2 z3 z4 u0 u1 u2 u3
    obtain ⟨z0, z1, z2, z3, z4⟩ := cells5 c0
    obtain ⟨u0, u1, u2, u3⟩ := cells4 c1'
    go_wp2_with fail
    refine (HL1.out _).mono ?_
    rintro e w2 ⟨rfl, hx2⟩
    cases l1 with
    | true =>
      have HX2 := Lib.hid (HX1.out.trans hx2)
      clear hx2 c0 c1' z0 z1 z2 z3 z4 u0 u1 u2 u3
      go_wp2_with fail
      refine (wakes3 _).mono ?_
      rintro e w3 ⟨rfl, hx3⟩
      have HX3 := Lib.hid (HX2.out.trans hx3)
      clear hx3
      go_wp2
      go_ret
      exact ⟨rfl, HX3.out⟩
    | false =>
      have b0 := (Below.block hx2 _ (Array.getElem?_eq_some_iff.1 c0).1).trans c0
      have b1 := (Below.block hx2 _ (Array.getElem?_eq_some_iff.1 c1').1).trans c1'
      have HX2 := Lib.hid (HX1.out.trans hx2)
      clear hx2 c0 c1' z0 z1 z2 z3 z4 u0 u1 u2 u3
      obtain ⟨z0, z1, z2, z3, z4⟩ := cells5 b0
      have hrl : rl.length ≤ 400 := by have := HE2.out; simp at this; omega
      have hof : o.fields.length ≤ 600 ∧ o.text.size ≤ 800 := by
        have := HE1.out
        simp at this
        omega
      obtain ⟨hof, hos⟩ := hof
      have hbase := (Array.getElem?_eq_some_iff.1 b0).1
      have hbase1 := (Array.getElem?_eq_some_iff.1 b1).1
      clear HL1 HLG HE1 HE2 HX HX1
      go_wp2_with fail
      refine (lay_words (WordSl.of_rows (HR.out.p.ext HX2.out).1) (by dsimp only; omega)).mono ?_
      rintro e w3 ⟨p, g, bm, q, gq, B, rfl, hB⟩
      dsimp only at hB
      have HB := Lib.hid hB
      have c0 := (Below.block hB.ext _ hbase).trans b0
      have c1' := (Below.block hB.ext _ hbase1).trans b1
      have HX3 := Lib.hid (HX2.out.trans hB.ext)
      clear hB b0 b1 z0 z1 z2 z3 z4
      obtain ⟨z0, z1, z2, z3, z4⟩ := cells5 c0
      have n0 := (Array.getElem?_eq_some_iff.1 c0).1
      go_upto_region 7 with fail
      refine wp_alloc2 fun W4 hE4 hS4 b2 b3 => ?_
      have b0 := (Below.block hE4 _ n0).trans c0
      have b1 := (Below.block hE4 _ (Array.getElem?_eq_some_iff.1 c1').1).trans c1'
      obtain ⟨vR, hR3⟩ := HB.out.r
      have hgw : w.heap.size ≤ g := by have := HB.out.ge.2.1; omega
      have T0 := Lib.hid (show Tw w3 W4 p g bm q gq B (rl.length + 10) w3.heap.size (w3.heap.size + 1) vR (rigW rl rl.length) (rigR (max 1 rl.length)) rh from
        ⟨HB.out.a.ext hE4, hR3.ext hE4, ⟨_, hR3⟩, b2, b3, Turn.of_ext hE4, HB.out.lt, ⟨Nat.le_refl _, by omega⟩, HB.out.size⟩)
      have hnew0 : w.heap.size + 1 < w3.heap.size := (Array.getElem?_eq_some_iff.1 c1').1
      have hW := rigW_mem (l := rl) (HR.out.p.2) rl.length
      have HW := Lib.hid hW
      clear hE4 hS4 c0 c1' z0 z1 z2 z3 z4 n0 HB b2 b3 hR3 hW
      have hst0 : w3.heap.size ≤ w3.heap.size := Nat.le_refl _
      generalize ht0 : w3.heap.size = t0 at T0 ⊢
      generalize ht1 : t0 + 1 = t1 at T0 ⊢
      have HT0 := Lib.hid ht0; have HT1 := Lib.hid ht1
      have hb0t : w.heap.size < t1 ∧ w.heap.size + 1 < t1 := by omega
      clear ht0 ht1 hst0
      obtain ⟨x0, x1⟩ := cells2 T0.out.two
      obtain ⟨y0, y1, y2, y3⟩ := cells4 T0.out.hp
      have f0 := free_at T0.out.hp (i := 0)
      go_upto_region 8 with fail
      refine wp_fill1 T0.out.hp fun W5 h5 hT5 hS5 => ?_
      have T1 := Lib.hid (T0.out.fill (h' := ⟨3, rh.half, rh.space, rh.top⟩) h5 hT5)
      have b0' := hT5.keep b0 (by omega)
      have b1' := hT5.keep b1 (by omega)
      clear hS5 h5 T0 b0 b1 x0 x1 y0 y1 y2 y3 f0
      obtain ⟨u0, u1, u2, u3⟩ := cells4 b1'
      have HX5 := Lib.hid (HX2.out.trans (Ext.refl _))
      have hof2 : RowsP W5 (.slice q1 o.fields.length c1) 1 (o.fields.map wordC) := (HO.out.p.1.ext (T1.out.done HX3.out hgw))
      have HOF := Lib.hid hof2
      clear hof2 HX5
      go_wp2_with fail
      refine (own_object HOF.out (by omega)).mono ?_
      rintro e w6 ⟨vo, rfl, hoo, hx6⟩
      obtain ⟨qo, co, rfl, hlo, hco⟩ := hoo.len
      rw [List.length_map] at hlo hoo
      unfold maxLen at hco
      have T2 := Lib.hid (T1.out.ext hx6)
      have b0 := (Below.block hx6 _ (Array.getElem?_eq_some_iff.1 b0').1).trans b0'
      have b1 := (Below.block hx6 _ (Array.getElem?_eq_some_iff.1 b1').1).trans b1'
      have HOO := Lib.hid (WordSl.of_rows hoo.p)
      have HOF6 := Lib.hid (HOF.out.ext hx6)
      rw [List.length_map]
      clear hx6 T1 b0' b1' u0 u1 u2 u3 hoo HOF
      go_upto_region 9 with fail
      refine wp_alloc1 fun W7 hE7 hS7 b7 => ?_
      have T3 := Lib.hid (T2.out.ext hE7)
      have b0' := (Below.block hE7 _ (Array.getElem?_eq_some_iff.1 b0).1).trans b0
      have b1' := (Below.block hE7 _ (Array.getElem?_eq_some_iff.1 b1).1).trans b1
      have HOO7 := Lib.hid (HOO.out.ext hE7)
      have HOF7 := Lib.hid (HOF6.out.ext hE7)
      have hlo7 : w.heap.size + 1 < w6.heap.size := (Array.getElem?_eq_some_iff.1 b1).1
      clear hE7 hS7 T2 b0 b1 HOO HOF6
      generalize hb7 : w6.heap.size = t2 at *
      clear hb7
      obtain ⟨v0, v1, v2, v3⟩ := cells4 b7
      go_wp2_with fail
      refine (ohead_is o co qo _ (by omega)).mono ?_
      rintro e w8 ⟨hd, rfl, hd1, hd0, hx8⟩
      have HD1 := Lib.hid hd1; have HD0 := Lib.hid hd0
      have T4 := Lib.hid (T3.out.ext hx8)
      have b1 := (Below.block hx8 _ (Array.getElem?_eq_some_iff.1 b1').1).trans b1'
      have b2 := (Below.block hx8 _ (Array.getElem?_eq_some_iff.1 b7).1).trans b7
      have HOO8 := Lib.hid (HOO7.out.ext hx8)
      have HOF8 := Lib.hid (HOF7.out.ext hx8)
      generalize hmm : mayO o = m
      rw [hmm] at HD1 HD0
      have HM := Lib.hid hmm
      clear hx8 T3 b0' b1' b7 v0 v1 v2 v3 HOO7 HOF7 hd1 hd0 hmm hT5
      obtain ⟨x0, x1⟩ := cells2 T4.out.two
      obtain ⟨y0, y1, y2, y3⟩ := cells4 T4.out.hp
      go_wp2_with fail
      have hwh : (Lit.int .i64 (3 : Int)).wf = true := by decide
      have HWH := Lib.hid hwh
      clear hwh
      refine (get_said T4.out.a ⟨3, rh.half, rh.space, rh.top⟩ HWH.out HW.out hwd).mono ?_
      rintro e w9 ⟨qg, lg, cg, rfl, hsg, hx9⟩
      obtain ⟨hlg1, hlg2⟩ := wsl_cap hsg
      have T5 := Lib.hid (T4.out.ext hx9)
      have b1' := (Below.block hx9 _ (Array.getElem?_eq_some_iff.1 b1).1).trans b1
      have b2' := (Below.block hx9 _ (Array.getElem?_eq_some_iff.1 b2).1).trans b2
      have HOO9 := Lib.hid (HOO8.out.ext hx9)
      have HOF9 := Lib.hid (HOF8.out.ext hx9)
      have HSG := Lib.hid hsg
      have hlo8 : t2 < w8.heap.size := (Array.getElem?_eq_some_iff.1 b2).1
      have hlt8 : t1 < w8.heap.size := (Array.getElem?_eq_some_iff.1 T4.out.hp).1
      generalize hgr : getH (rigW rl rl.length) (rigR (max 1 rl.length)) ⟨3, rh.half, rh.space, rh.top⟩ wd = gr at *
      have HGR := Lib.hid hgr
      clear hx9 T4 b1 b2 x0 x1 y0 y1 y2 y3 HOO8 HOF8 hsg hgr
      go_upto_region 11 with fail
      refine wp_alloc1 fun W10 hE10 hS10 b10 => ?_
      have T6 := Lib.hid (T5.out.ext hE10)
      have b1 := (Below.block hE10 _ (Array.getElem?_eq_some_iff.1 b1').1).trans b1'
      have b2 := (Below.block hE10 _ (Array.getElem?_eq_some_iff.1 b2').1).trans b2'
      have HOO10 := Lib.hid (HOO9.out.ext hE10)
      have HOF10 := Lib.hid (HOF9.out.ext hE10)
      have HSG10 := Lib.hid (HSG.out.ext hE10)
      have hlo9 : t2 < w9.heap.size := (Array.getElem?_eq_some_iff.1 b2').1
      have hlt9 : t1 < w9.heap.size := (Array.getElem?_eq_some_iff.1 T5.out.hp).1
      clear hE10 hS10 T5 b1' b2' HOO9 HOF9 HSG hlo8 hlt8
      generalize hg3 : w9.heap.size = t3 at *
      clear hg3
      obtain ⟨x0, x1⟩ := cells2 T6.out.two
      obtain ⟨y0, y1, y2, y3⟩ := cells4 T6.out.hp
      go_wp2_with fail
      refine (rget_said T6.out.r ⟨3, rh.half, rh.space, rh.top⟩ HW.out hwd).mono ?_
      rintro e w11 ⟨qr, lr, cr, rfl, hsr, hx11⟩
      rw [HGR.out] at hsr ⊢
      obtain ⟨hlr1, hlr2⟩ := wsl_cap hsr
      have T7 := Lib.hid (T6.out.ext hx11)
      have b1' := (Below.block hx11 _ (Array.getElem?_eq_some_iff.1 b1).1).trans b1
      have b2' := (Below.block hx11 _ (Array.getElem?_eq_some_iff.1 b2).1).trans b2
      have b10' := (Below.block hx11 _ (Array.getElem?_eq_some_iff.1 b10).1).trans b10
      have HOO11 := Lib.hid (HOO10.out.ext hx11)
      have HOF11 := Lib.hid (HOF10.out.ext hx11)
      have HSG11 := Lib.hid (HSG10.out.ext hx11)
      have HSR := Lib.hid hsr
      clear hx11 T6 b1 b2 b10 x0 x1 y0 y1 y2 y3 HOO10 HOF10 HSG10 hsr
      go_upto_region 12 with fail
      refine wp_alloc1 fun W12 hE12 hS12 b12 => ?_
      have T8 := Lib.hid (T7.out.ext hE12)
      have b1 := (Below.block hE12 _ (Array.getElem?_eq_some_iff.1 b1').1).trans b1'
      have b2 := (Below.block hE12 _ (Array.getElem?_eq_some_iff.1 b2').1).trans b2'
      have b10 := (Below.block hE12 _ (Array.getElem?_eq_some_iff.1 b10').1).trans b10'
      have HOO12 := Lib.hid (HOO11.out.ext hE12)
      have HOF12 := Lib.hid (HOF11.out.ext hE12)
      have HSG12 := Lib.hid (HSG11.out.ext hE12)
      have HSR12 := Lib.hid (HSR.out.ext hE12)
      have hlo11 : t3 < w11.heap.size := (Array.getElem?_eq_some_iff.1 b10').1
      have hlt11 : t1 < w11.heap.size := (Array.getElem?_eq_some_iff.1 T7.out.hp).1
      clear hE12 hS12 T7 b1' b2' b10' HOO11 HOF11 HSG11 HSR
      generalize hg4 : w11.heap.size = t4 at *
      clear hg4
      obtain ⟨x0, x1⟩ := cells2 T8.out.two
      obtain ⟨y0, y1, y2, y3⟩ := cells4 T8.out.hp
      generalize hal : allH (rigW rl rl.length) (rigR (max 1 rl.length)) ⟨3, rh.half, rh.space, rh.top⟩ = al at *
      have HAL := Lib.hid hal
      clear hal
      go_wp2_with fail
      refine (oall_said T8.out.a ⟨3, rh.half, rh.space, rh.top⟩ HWH.out HW.out).mono ?_
      rintro e w13 ⟨ql, ll, cl, rfl, hsl, hx13⟩
      rw [HAL.out] at hsl ⊢
      obtain ⟨hll1, hll2⟩ := nsl_cap hsl
      have T9 := Lib.hid (T8.out.ext hx13)
      have b1' := (Below.block hx13 _ (Array.getElem?_eq_some_iff.1 b1).1).trans b1
      have b2' := (Below.block hx13 _ (Array.getElem?_eq_some_iff.1 b2).1).trans b2
      have b10' := (Below.block hx13 _ (Array.getElem?_eq_some_iff.1 b10).1).trans b10
      have b12' := (Below.block hx13 _ (Array.getElem?_eq_some_iff.1 b12).1).trans b12
      have HOO13 := Lib.hid (HOO12.out.ext hx13)
      have HOF13 := Lib.hid (HOF12.out.ext hx13)
      have HSG13 := Lib.hid (HSG12.out.ext hx13)
      have HSR13 := Lib.hid (HSR12.out.ext hx13)
      have HSL := Lib.hid hsl
      clear hx13 T8 b1 b2 b10 b12 x0 x1 y0 y1 y2 y3 HOO12 HOF12 HSG12 HSR12 hsl
      obtain ⟨x0, x1⟩ := cells2 T9.out.two
      obtain ⟨y0, y1, y2, y3⟩ := cells4 T9.out.hp
      go_wp2_with fail
      refine (rall_said T9.out.r ⟨3, rh.half, rh.space, rh.top⟩ HW.out).mono ?_
      rintro e w14 ⟨qs, ls, cs, rfl, hss, hx14⟩
      rw [HAL.out] at hss ⊢
      obtain ⟨hls1, hls2⟩ := nsl_cap hss
      have T10 := Lib.hid (T9.out.ext hx14)
      have b1 := (Below.block hx14 _ (Array.getElem?_eq_some_iff.1 b1').1).trans b1'
      have b2 := (Below.block hx14 _ (Array.getElem?_eq_some_iff.1 b2').1).trans b2'
      have b10 := (Below.block hx14 _ (Array.getElem?_eq_some_iff.1 b10').1).trans b10'
      have b12 := (Below.block hx14 _ (Array.getElem?_eq_some_iff.1 b12').1).trans b12'
      have HOO14 := Lib.hid (HOO13.out.ext hx14)
      have HOF14 := Lib.hid (HOF13.out.ext hx14)
      have HSG14 := Lib.hid (HSG13.out.ext hx14)
      have HSR14 := Lib.hid (HSR13.out.ext hx14)
      have HSL14 := Lib.hid (HSL.out.ext hx14)
      have HSS := Lib.hid hss
      clear hx14 T9 b1' b2' b10' b12' x0 x1 y0 y1 y2 y3 HOO13 HOF13 HSG13 HSR13 HSL hss
      go_upto_region 14 with fail
      refine wp_alloc1 fun W15 hE15 hS15 b15 => ?_
      have T11 := Lib.hid (T10.out.ext hE15)
      have b1' := (Below.block hE15 _ (Array.getElem?_eq_some_iff.1 b1).1).trans b1
      have b2' := (Below.block hE15 _ (Array.getElem?_eq_some_iff.1 b2).1).trans b2
      have b10' := (Below.block hE15 _ (Array.getElem?_eq_some_iff.1 b10).1).trans b10
      have b12' := (Below.block hE15 _ (Array.getElem?_eq_some_iff.1 b12).1).trans b12
      have HOO15 := Lib.hid (HOO14.out.ext hE15)
      have HOF15 := Lib.hid (HOF14.out.ext hE15)
      have HSG15 := Lib.hid (HSG14.out.ext hE15)
      have HSR15 := Lib.hid (HSR14.out.ext hE15)
      have HSL15 := Lib.hid (HSL14.out.ext hE15)
      have HSS15 := Lib.hid (HSS.out.ext hE15)
      have hlo14 : t4 < w14.heap.size := (Array.getElem?_eq_some_iff.1 b12).1
      have hlt14 : t1 < w14.heap.size := (Array.getElem?_eq_some_iff.1 T10.out.hp).1
      clear hE15 hS15 T10 b1 b2 b10 b12 HOO14 HOF14 HSG14 HSR14 HSL14 HSS
      generalize hg5 : w14.heap.size = t5 at *
      clear hg5
      have CK := Lib.hid (fun d os => quiet_ext (keep_object (k1 := obK (gr.map (·.2))) (k2 := obK (gr.map (·.2))) (t1 := obT (gr.map (·.2))) (t2 := obT (gr.map (·.2))) (s1 := obS (gr.map (·.2))) (s2 := obS (gr.map (·.2))) (HSG15.out.ext (Ext.regrown W15 d os)) (HSR15.out.ext (Ext.regrown W15 d os))))
      rw [show decide (obK (gr.map (·.2)) = obK (gr.map (·.2)) ∧ obT (gr.map (·.2)) = obT (gr.map (·.2)) ∧ obS (gr.map (·.2)) = obS (gr.map (·.2)) ∧ obF (gr.map (·.2)) = obF (gr.map (·.2))) = true by simp] at CK
      have CI := Lib.hid (fun d os => quiet_ext (keep_ints (HSL15.out.ext (Ext.regrown W15 d os)) (HSS15.out.ext (Ext.regrown W15 d os))))
      rw [show decide (plL (firstN ⟨3, rh.half, rh.space, rh.top⟩) al = plL (firstN ⟨3, rh.half, rh.space, rh.top⟩) al) = true by simp] at CI
      have CG := Lib.hid (fun d os => quiet_ext (good_is (T11.out.a.ext (Ext.regrown W15 d os)) ⟨3, rh.half, rh.space, rh.top⟩ HWH.out HW.out))
      rw [HAL.out] at CG
      have CM := Lib.hid (fun d os => quiet_ext (refmay_is o.kind o.tag o.fields.length c1 q1 o.text (Go.Sort.grow (redrawn W15 d) os)))
      rw [show mayK o.kind o.tag o.fields.length o.text.size = mayO o from rfl, HM.out] at CM
      generalize obK (gr.map (·.2)) = gk at *
      generalize obT (gr.map (·.2)) = gt at *
      generalize obS (gr.map (·.2)) = gs at *
      generalize gr.isSome = gb at *
      generalize al.isSome = ab at *
      have hgb : (gb != gb) = false := by cases gb <;> rfl
      have hab : (ab != ab) = false := by cases ab <;> rfl
      obtain ⟨x0, x1⟩ := cells2 T11.out.two
      obtain ⟨y0, y1, y2, y3⟩ := cells4 T11.out.hp
      obtain ⟨u0, u1, u2, u3⟩ := cells4 b1'
      obtain ⟨v0, v1, v2, v3⟩ := cells4 b2'
      obtain ⟨a0, a1, a2, a3⟩ := cells4 b10'
      obtain ⟨e0, e1, e2, e3, e4⟩ := cells5 b12'
      obtain ⟨i0, i1⟩ := cells2 b15
      have rx0 := fun d os => cell_regrown x0 d os
      have rx1 := fun d os => cell_regrown x1 d os
      have ry0 := fun d os => cell_regrown y0 d os
      have ry1 := fun d os => cell_regrown y1 d os
      have ry2 := fun d os => cell_regrown y2 d os
      have ry3 := fun d os => cell_regrown y3 d os
      have ru0 := fun d os => cell_regrown u0 d os
      have ru1 := fun d os => cell_regrown u1 d os
      have ru2 := fun d os => cell_regrown u2 d os
      have ru3 := fun d os => cell_regrown u3 d os
      have rv0 := fun d os => cell_regrown v0 d os
      have rv1 := fun d os => cell_regrown v1 d os
      have rv2 := fun d os => cell_regrown v2 d os
      have rv3 := fun d os => cell_regrown v3 d os
      have ra0 := fun d os => cell_regrown a0 d os
      have ra1 := fun d os => cell_regrown a1 d os
      have ra2 := fun d os => cell_regrown a2 d os
      have ra3 := fun d os => cell_regrown a3 d os
      have re0 := fun d os => cell_regrown e0 d os
      have re1 := fun d os => cell_regrown e1 d os
      have re2 := fun d os => cell_regrown e2 d os
      have re3 := fun d os => cell_regrown e3 d os
      have re4 := fun d os => cell_regrown e4 d os
      have ri0 := fun d os => cell_regrown i0 d os
      have ri1 := fun d os => cell_regrown i1 d os
      clear x0 x1 y0 y1 y2 y3 u0 u1 u2 u3 v0 v1 v2 v3 a0 a1 a2 a3 e0 e1 e2 e3 e4 i0 i1
      obtain ⟨wn, hwn⟩ : ∃ wn : Int, wn = if m = true then (wordsO o : Int) else 0 := ⟨_, rfl⟩
      have CW := Lib.hid (fun d os => show Calls Try.prog 20 #[.agg #[.int .i64 o.kind, .int .i64 o.tag, .slice qo o.fields.length co, .string o.text]] (Go.Sort.grow (redrawn W15 d) os) fun e w'' => e = .returned (.int .i64 wn) ∧ ∃ p : Regrown, w'' = Go.Sort.grow (redrawn W15 p.d) p.os from quiet_ext (by
        have h1 := owords_is o co qo (Go.Sort.grow (redrawn W15 d) os) (by omega)
        rw [HM.out] at h1
        rw [hwn]
        cases m <;> exact h1))
      have CR := Lib.hid (fun d os => show Calls Try.prog 21 #[.agg #[.int .i64 o.kind, .int .i64 o.tag, .slice q1 o.fields.length c1, .string o.text]] (Go.Sort.grow (redrawn W15 d) os) fun e w'' => e = .returned (.int .i64 wn) ∧ ∃ p : Regrown, w'' = Go.Sort.grow (redrawn W15 p.d) p.os from quiet_ext (by
        rw [hwn]
        have hm := HM.out
        cases m
        · exact rwords_no o.kind o.tag o.fields.length c1 q1 o.text _ hm
        · exact rwords_yes o.kind o.tag o.fields.length c1 q1 o.text _ hm))
      clear hwn
      have hwb : (wn != wn) = false := by simp
      have hdb : (hd != hd) = false := by simp
      cases m with
      | false =>
        obtain rfl : hd = 0 := HD0.out rfl
        refine wp_region_quiet_below (by kernel_rfl) (by kernel_rfl) ?_
        repeat (first | go_big_quiet_step (first | exact CM.out _ _ | exact CW.out _ _ | exact CR.out _ _ | exact CK.out _ _ | exact CI.out _ _ | exact CG.out _ _) | quiet_step (first | exact CM.out _ _ | exact CW.out _ _ | exact CR.out _ _ | exact CK.out _ _ | exact CI.out _ _ | exact CG.out _ _))
        refine wpQuiet_nil ?_
        intro _ hw'
        obtain ⟨⟨dq, osq⟩, hw''⟩ := hw'
        subst hw''
        obtain ⟨W16, hW16, hx16⟩ : ∃ W16, W16 = Go.Sort.grow (redrawn W15 dq) osq ∧ Ext W15 W16 := ⟨_, rfl, Ext.regrown W15 dq osq⟩
        rw [← hW16]
        have T12 := Lib.hid (T11.out.ext hx16)
        have b1 := (Below.block hx16 _ (Array.getElem?_eq_some_iff.1 b1').1).trans b1'
        have b2 := (Below.block hx16 _ (Array.getElem?_eq_some_iff.1 b2').1).trans b2'
        have HOO16 := Lib.hid (HOO15.out.ext hx16)
        have HOF16 := Lib.hid (WordSl.of_rows (HOF15.out.ext hx16))
        clear hW16 hx16 rx0 rx1 ry0 ry1 ry2 ry3 ru0 ru1 ru2 ru3 rv0 rv1 rv2 rv3 ra0 ra1 ra2 ra3 re0 re1 re2 re3 re4 ri0 ri1 CM CW CR CK CI CG T11 b1' b2' b10' b12' b15 HOO15 HOF15 HSG15 HSR15 HSL15 HSS15
        obtain ⟨x0, x1⟩ := cells2 T12.out.two
        obtain ⟨y0, y1, y2, y3⟩ := cells4 T12.out.hp
        obtain ⟨u0, u1, u2, u3⟩ := cells4 b1
        obtain ⟨v0, v1, v2, v3⟩ := cells4 b2
        go_wp2_with fail
        refine (good_nil _ _ _ _ _).mono ?_
        rintro e w17 ⟨rfl, hx17⟩
        have T13 := Lib.hid (T12.out.ext hx17)
        have b1' := (Below.block hx17 _ (Array.getElem?_eq_some_iff.1 b1).1).trans b1
        have b2' := (Below.block hx17 _ (Array.getElem?_eq_some_iff.1 b2).1).trans b2
        have HOO17 := Lib.hid (HOO16.out.ext hx17)
        have HOF17 := Lib.hid (HOF16.out.ext hx17)
        clear hx17 T12 b1 b2 HOO16 HOF16 x0 x1 y0 y1 y2 y3 u0 u1 u2 u3 v0 v1 v2 v3
        obtain ⟨x0, x1⟩ := cells2 T13.out.two
        obtain ⟨u0, u1, u2, u3⟩ := cells4 b1'
        obtain ⟨v0, v1, v2, v3⟩ := cells4 b2'
        go_wp2_with fail
        refine (keep_object HOO17.out HOF17.out).mono ?_
        rintro e w18 ⟨rfl, hx18⟩
        rw [show decide (o.kind = o.kind ∧ o.tag = o.tag ∧ o.text = o.text ∧ o.fields = o.fields) = true by simp]
        have T14 := Lib.hid (T13.out.ext hx18)
        clear hx18 T13 b1' b2' HOO17 HOF17 x0 x1 u0 u1 u2 u3 v0 v1 v2 v3
        obtain ⟨x0, x1⟩ := cells2 T14.out.two
        go_wp2_with fail
        refine (same_tw T14.out (by omega) (rigW_take _ _)).mono ?_
        rintro e w19 ⟨rfl, hx19⟩
        have T15 := Lib.hid (T14.out.ext hx19)
        clear hx19 T14 x0 x1
        go_wp2_with fail
        refine (wakes3 _).mono ?_
        rintro e w20 ⟨rfl, hx20⟩
        have T16 := Lib.hid (T15.out.ext hx20)
        clear hx20 T15
        go_wp2
        go_ret
        exact ⟨rfl, T16.out.done HX3.out hgw⟩
      | true =>
        have CH := Lib.hid (fun d os => quiet_ext (refhead_is o.kind o.tag o.fields.length c1 q1 o.text (Go.Sort.grow (redrawn W15 d) os) HM.out))
        rw [show headK o.kind o.tag o.fields.length o.text.size = hd from (HD1.out rfl).symm] at CH
        refine wp_region_quiet_below (by kernel_rfl) (by kernel_rfl) ?_
        repeat (first | go_big_quiet_step (first | exact CM.out _ _ | exact CH.out _ _ | exact CW.out _ _ | exact CR.out _ _ | exact CK.out _ _ | exact CI.out _ _ | exact CG.out _ _) | quiet_step (first | exact CM.out _ _ | exact CH.out _ _ | exact CW.out _ _ | exact CR.out _ _ | exact CK.out _ _ | exact CI.out _ _ | exact CG.out _ _))
        refine wpQuiet_nil ?_
        intro _ hw'
        obtain ⟨⟨dq, osq⟩, hw''⟩ := hw'
        subst hw''
        obtain ⟨W16, hW16, hx16⟩ : ∃ W16, W16 = Go.Sort.grow (redrawn W15 dq) osq ∧ Ext W15 W16 := ⟨_, rfl, Ext.regrown W15 dq osq⟩
        rw [← hW16]
        have T12 := Lib.hid (T11.out.ext hx16)
        have b1 := (Below.block hx16 _ (Array.getElem?_eq_some_iff.1 b1').1).trans b1'
        have b2 := (Below.block hx16 _ (Array.getElem?_eq_some_iff.1 b2').1).trans b2'
        have HOO16 := Lib.hid (HOO15.out.ext hx16)
        have HOF16 := Lib.hid (WordSl.of_rows (HOF15.out.ext hx16))
        clear hW16 hx16 rx0 rx1 ry0 ry1 ry2 ry3 ru0 ru1 ru2 ru3 rv0 rv1 rv2 rv3 ra0 ra1 ra2 ra3 re0 re1 re2 re3 re4 ri0 ri1 CM CW CR CK CI CG T11 b1' b2' b10' b12' b15 HOO15 HOF15 HSG15 HSR15 HSL15 HSS15
        obtain ⟨x0, x1⟩ := cells2 T12.out.two
        obtain ⟨y0, y1, y2, y3⟩ := cells4 T12.out.hp
        obtain ⟨u0, u1, u2, u3⟩ := cells4 b1
        obtain ⟨v0, v1, v2, v3⟩ := cells4 b2
        go_wp2_with fail
        refine (good_nil _ _ _ _ _).mono ?_
        rintro e w17 ⟨rfl, hx17⟩
        have T13 := Lib.hid (T12.out.ext hx17)
        have b1' := (Below.block hx17 _ (Array.getElem?_eq_some_iff.1 b1).1).trans b1
        have b2' := (Below.block hx17 _ (Array.getElem?_eq_some_iff.1 b2).1).trans b2
        have HOO17 := Lib.hid (HOO16.out.ext hx17)
        have HOF17 := Lib.hid (HOF16.out.ext hx17)
        clear hx17 T12 b1 b2 HOO16 HOF16 x0 x1 y0 y1 y2 y3 u0 u1 u2 u3 v0 v1 v2 v3
        obtain ⟨x0, x1⟩ := cells2 T13.out.two
        obtain ⟨u0, u1, u2, u3⟩ := cells4 b1'
        obtain ⟨v0, v1, v2, v3⟩ := cells4 b2'
        go_wp2_with fail
        refine (keep_object HOO17.out HOF17.out).mono ?_
        rintro e w18 ⟨rfl, hx18⟩
        rw [show decide (o.kind = o.kind ∧ o.tag = o.tag ∧ o.text = o.text ∧ o.fields = o.fields) = true by simp]
        have T14 := Lib.hid (T13.out.ext hx18)
        clear hx18 T13 b1' b2' HOO17 HOF17 x0 x1 u0 u1 u2 u3 v0 v1 v2 v3
        obtain ⟨x0, x1⟩ := cells2 T14.out.two
        go_wp2_with fail
        refine (same_tw T14.out (by omega) (rigW_take _ _)).mono ?_
        rintro e w19 ⟨rfl, hx19⟩
        have T15 := Lib.hid (T14.out.ext hx19)
        clear hx19 T14 x0 x1
        go_wp2_with fail
        refine (wakes3 _).mono ?_
        rintro e w20 ⟨rfl, hx20⟩
        have T16 := Lib.hid (T15.out.ext hx20)
        clear hx20 T15
        go_wp2
        go_ret
        exact ⟨rfl, T16.out.done HX3.out hgw⟩
theorem tells_walk' {v1 v2 : Value} {r : RawI} {x : ObI} {wd : Int} {w : World} (h1 : v1 = .agg (rawC r).toArray ∧ RawP w r) (h2 : v2 = .agg (obiC x).toArray ∧ ObiP w x) (h3 : (Lit.int .u64 wd).wf = true) : Calls Try.prog 3 #[v1, v2, .int .u64 wd] w (TrueExt w) := by
  obtain ⟨rfl, hr⟩ := h1
  obtain ⟨rfl, hx⟩ := h2
  exact tells_walk r x wd w hr hx (w64_of_wf h3)
end Go.Proofs.Ytlffmcadchbheaa
/- ObjectPlays: the walk. -/
namespace Go.Proofs.Ytlffmcadchbheaa
open Go Go.ChangeShapes Go.WideShapes Go.ChangeAt Go.RowKit Go.Deep Go.Maps Arena
set_option maxHeartbeats 8000000
set_option maxRecDepth 100000
/-- a step that came in -/
structure StepI where
  kind : Int
  i : Int
  x : ObI
  wd : Int
  v : Int
def stpC (s : StepI) : List Value := [.int .i64 s.kind, .int .i64 s.i, .int .i64 s.x.o.kind, .int .i64 s.x.o.tag, s.x.v, .string s.x.o.text, .int .u64 s.wd, .int .u64 s.v]
structure StepP (w : World) (s : StepI) : Prop where
  x : ObiP w s.x
  i : (Lit.int .i64 s.i).wf = true
  wd : W64 s.wd
  v : W64 s.v
theorem stp_reads {H : Type} {enc : TypeId × Value → H} {w : World} {cs : List Value} (h : ReadsAs enc Try.prog w 62 cs) : ∃ s, cs = stpC s ∧ StepP w s := by
  obtain ⟨n, y, h⟩ := h
  obtain ⟨xs, k, rfl, _, hlen, hxl, hf⟩ := DataW.trod_struct Try.underlying62 h
  have hc : Try.prog.cellsOf 62 = 8 := by kernel_rfl
  rw [hc] at hlen
  match cs, hlen, xs, hxl with
  | [v0, v1, v2, v3, v4, v5, v6, v7], _, [y0, y1, y2, y3, y4], _ =>
    have g0 := hf 0 _ rfl
    have g1 := hf 1 _ rfl
    have g2 := hf 2 _ rfl
    have g3 := hf 3 _ rfl
    have g4 := hf 4 _ rfl
    have ci : Try.prog.cellsOf 3 = 1 := by kernel_rfl
    have co : Try.prog.cellsOf 28 = 4 := by kernel_rfl
    have cu : Try.prog.cellsOf 29 = 1 := by kernel_rfl
    simp [ci, co, cu] at g0 g1 g2 g3 g4
    obtain ⟨a0, e0, _, w0⟩ := DataW.trod_int Try.underlying3 g0
    obtain ⟨a1, e1, _, w1⟩ := DataW.trod_int Try.underlying3 g1
    obtain ⟨x, e2, hp⟩ := obj_reads ⟨_, _, g2⟩
    obtain ⟨a3, e3, _, w3⟩ := DataW.trod_int Try.underlying29 g3
    obtain ⟨a4, e4, _, w4⟩ := DataW.trod_int Try.underlying29 g4
    simp [obiC] at e0 e1 e2 e3 e4
    obtain ⟨f0, f1, f2, f3⟩ := e2
    subst e0; subst e1; subst e3; subst e4; subst f0; subst f1; subst f2; subst f3
    exact ⟨⟨a0, a1, x, a3, a4⟩, rfl, hp, w1, w64_of_wf w3, w64_of_wf w4⟩
def StpsP (w : World) (v : Value) (L : List StepI) : Prop := RowsSl w v 8 (L.map stpC) ∧ ∀ s ∈ L, StepP w s
theorem open_steps {H : Type} {enc : TypeId × Value → H} {W : World} {v : Value} {d : DataW H} {ps : List MemPlace} {base : Nat} (hval : Value.okWide Try.prog W .any base 60 v) (h : DataW.Trod enc Try.prog W 0 (fun _ => true) true 60 v d ps) : ∃ L, StpsP W v L := by
  obtain ⟨l, hr, hl⟩ := open_rows Try.underlying60 (show Try.prog.cellsOf 62 = 8 by kernel_rfl) (by omega) hval h
  obtain ⟨M, rfl, hM⟩ := choose_with (StepP W) stpC l (fun cs hm => stp_reads (hl cs hm))
  exact ⟨M, hr, hM⟩
theorem own_later {w7 : World} {kd tg : Int} {q : Option Addr} {c : Nat} {t : ByteArray} {F : List Int} (h : RowsP w7 (.slice q F.length c) 1 (F.map wordC)) (hl : F.length ≤ 6000) (W : World) (e : Ext w7 W) :
    Calls Try.prog 12 #[.agg #[.int .i64 kd, .int .i64 tg, .slice q F.length c, .string t]] W fun e w' => ∃ q' c', e = .returned (.agg #[.int .i64 kd, .int .i64 tg, .slice q' F.length c', .string t]) ∧ OwnP w' w7.heap.size 29 (.slice q' F.length c') 1 (F.map wordC) ∧ Ext w7 w' ∧ Ext W w' := by
  refine (own_object (h.ext e) hl).mono ?_
  rintro e' w' ⟨v', rfl, ho, hx⟩
  obtain ⟨q', c', rfl, _, _⟩ := ho.len
  rw [List.length_map] at ho ⊢
  exact ⟨q', c', rfl, ho.mono (Below.size e), e.trans hx, hx⟩
/-- what a put leaves: the heap's numbers, the word, the region's words -/
def putH (ws : List Int) (R : List (Nat × Nat)) (h : Hp) (o : Ob) : Hp := if putB ws R h o then hpUp h o else ⟨0, 0, 0, 0⟩
def putK (ws : List Int) (R : List (Nat × Nat)) (h : Hp) (o : Ob) : Int := if putB ws R h o then ((2 * topN h : Nat) : Int) else 0
def putN (ws : List Int) (R : List (Nat × Nat)) (h : Hp) (o : Ob) : List Int := if putB ws R h o then putWs ws R h o else ws
theorem put_said {ws : List Int} {R : List (Nat × Nat)} {p g bm n : Nat} {h : Hp} {o : Ob} {w : World} {e : Ending} {w' : World} (hs : PutSaid ws R p g bm n h o w e w') :
    e = .returned (.tuple #[.agg #[.int .i64 (putH ws R h o).base, .int .i64 (putH ws R h o).half, .int .i64 (putH ws R h o).space, .int .i64 (putH ws R h o).top], .int .u64 (putK ws R h o), .bool (putB ws R h o)]) ∧ ArenaAt w' p g bm n (putN ws R h o) R ∧ Turn [g] w w' := by
  unfold PutSaid at hs
  unfold putH putK putN
  cases hb : putB ws R h o with
  | true => rw [hb] at hs; exact hs
  | false => rw [hb] at hs; exact hs
theorem rput_said {ws : List Int} {R : List (Nat × Nat)} {q gq B n : Nat} {vR : Value} {h : Hp} {o : Ob} {w : World} {e : Ending} {w' : World} (hs : RPutSaid ws R q gq B n vR h o w e w') :
    e = .returned (.agg #[.int .i64 (putH ws R h o).base, .int .i64 (putH ws R h o).half, .int .i64 (putH ws R h o).space, .int .i64 (putH ws R h o).top, .int .u64 (putK ws R h o), .bool (putB ws R h o)]) ∧ RefAt w' q gq B n (putN ws R h o) vR R ∧ Turn [gq] w w' := by
  unfold RPutSaid doneV at hs
  unfold putH putK putN
  cases hb : putB ws R h o with
  | true => rw [hb] at hs; exact hs
  | false => rw [hb] at hs; exact hs
theorem put_later {w3 w7 : World} {p g bm q gq B n t0 t1 : Nat} {vR : Value} {ws : List Int} {R : List (Nat × Nat)} {h : Hp} (k : Tw w3 w7 p g bm q gq B n t0 t1 vR ws R h) (hw : (Lit.int .i64 h.base).wf = true) (hW : ∀ x ∈ ws, W64 x) (o : Ob) (hF64 : ∀ x ∈ o.fields, W64 x) (hFn : o.fields.length ≤ 1000)
    (W : World) (e : Ext w7 W) (qf : Option Addr) (c : Nat) (ho : OwnP W w7.heap.size 29 (.slice qf o.fields.length c) 1 (o.fields.map wordC)) :
    Calls Try.prog 26 #[.pointer (some ⟨p, 0, none⟩), .agg #[.int .i64 h.base, .int .i64 h.half, .int .i64 h.space, .int .i64 h.top], .agg #[.int .i64 o.kind, .int .i64 o.tag, .slice qf o.fields.length c, .string o.text]] W fun e w' =>
      e = .returned (.tuple #[.agg #[.int .i64 (putH ws R h o).base, .int .i64 (putH ws R h o).half, .int .i64 (putH ws R h o).space, .int .i64 (putH ws R h o).top], .int .u64 (putK ws R h o), .bool (putB ws R h o)]) ∧ ArenaAt w' p g bm n (putN ws R h o) R ∧ Turn [g] w7 w' ∧ Turn [g] W w' :=
  (put_is (k.ext e).a h hw hW o c qf (ho.rowStay (by have := k.low; have := k.t.size; omega)) hF64 hFn).mono fun _ _ hs => ⟨(put_said hs).1, (put_said hs).2.1, (Turn.of_ext e).trans (put_said hs).2.2, (put_said hs).2.2⟩
/-- what the region of a put holds on to -/
structure HeldP (w' : World) (t0 t1 t6 p : Nat) (hha hsp htp k tg : Int) (qf : Option Addr) (n cf : Nat) (t : ByteArray) : Prop where
  h : w'.cell? ⟨t0, 0, none⟩ = some (.pointer (some ⟨p, 0, none⟩)) ∧ w'.cell? ⟨t1, 0, none⟩ = some (.int .i64 3) ∧ w'.cell? ⟨t1, 1, none⟩ = some (.int .i64 hha) ∧ w'.cell? ⟨t1, 2, none⟩ = some (.int .i64 hsp) ∧ w'.cell? ⟨t1, 3, none⟩ = some (.int .i64 htp) ∧
    w'.cell? ⟨t6, 2, none⟩ = some (.int .i64 k) ∧ w'.cell? ⟨t6, 3, none⟩ = some (.int .i64 tg) ∧ w'.cell? ⟨t6, 4, none⟩ = some (.slice qf n cf) ∧ w'.cell? ⟨t6, 5, none⟩ = some (.string t)
theorem HeldP.turn {w w' : World} {t0 t1 t6 p : Nat} {hha hsp htp k tg : Int} {qf : Option Addr} {n cf : Nat} {t : ByteArray} (hh : HeldP w t0 t1 t6 p hha hsp htp k tg qf n cf t) {b : Nat} (tt : Turn [b] w w') (h0 : t0 ≠ b) (h1 : t1 ≠ b) (h6 : t6 ≠ b) : HeldP w' t0 t1 t6 p hha hsp htp k tg qf n cf t := by
  obtain ⟨a1, a2, a3, a4, a5, a6, a7, a8, a9⟩ := hh.h
  exact ⟨⟨tt.cell (by simpa using h0) a1, tt.cell (by simpa using h1) a2, tt.cell (by simpa using h1) a3, tt.cell (by simpa using h1) a4, tt.cell (by simpa using h1) a5, tt.cell (by simpa using h6) a6, tt.cell (by simpa using h6) a7, tt.cell (by simpa using h6) a8, tt.cell (by simpa using h6) a9⟩⟩
theorem HeldP.ext {w w' : World} {t0 t1 t6 p : Nat} {hha hsp htp k tg : Int} {qf : Option Addr} {n cf : Nat} {t : ByteArray} (hh : HeldP w t0 t1 t6 p hha hsp htp k tg qf n cf t) (e : Ext w w') : HeldP w' t0 t1 t6 p hha hsp htp k tg qf n cf t := by
  obtain ⟨a1, a2, a3, a4, a5, a6, a7, a8, a9⟩ := hh.h
  exact ⟨⟨e.cell a1, e.cell a2, e.cell a3, e.cell a4, e.cell a5, e.cell a6, e.cell a7, e.cell a8, e.cell a9⟩⟩
theorem HeldP.set4 {w : World} {t0 t1 t6 p : Nat} {hha hsp htp k tg : Int} {qf : Option Addr} {n cf : Nat} {t : ByteArray} (hh : HeldP w t0 t1 t6 p hha hsp htp k tg qf n cf t) {b : Nat} {y0 y1 y2 y3 : Value} (h0 : t0 ≠ b) (h1 : t1 ≠ b) (h6 : t6 ≠ b) : HeldP ((((w.setCell ⟨b, 0, none⟩ y0).setCell ⟨b, 1, none⟩ y1).setCell ⟨b, 2, none⟩ y2).setCell ⟨b, 3, none⟩ y3) t0 t1 t6 p hha hsp htp k tg qf n cf t :=
  hh.turn (((((Turn.refl [b] w).setCell (.inl (by simp)) y0).setCell (.inl (by simp)) y1).setCell (.inl (by simp)) y2).setCell (.inl (by simp)) y3) h0 h1 h6
theorem then_gen {Q : Exit → Act → World → Prop} {e : Exit} {a : Act} {w : World} (F : World → Prop) (hF : F w) (h : ∀ W, F W → Q e a W) : Q e a w := h w hF
/-- behind the region of a put: the new block holds the heap's numbers, the arena is as the put leaves it -/
structure PutEnd (w7 W : World) (p g bm n b11 : Nat) (wsn : List Int) (R : List (Nat × Nat)) (hn : Hp) : Prop where
  blk : W.heap[b11]? = some (.cells #[.int .i64 hn.base, .int .i64 hn.half, .int .i64 hn.space, .int .i64 hn.top] 24 (0, 0))
  a : ArenaAt W p g bm n wsn R
  t : Turn [g] w7 W
  new : w7.heap.size ≤ b11
theorem PutEnd.fill {w7 w10 : World} {p g bm n b11 : Nat} {wsn : List Int} {R : List (Nat × Nat)} {hn : Hp} {x0 x1 x2 x3 : Value} (hA : ArenaAt w10 p g bm n wsn R) (hT : Turn [g] w7 w10) (hl : p < w7.heap.size ∧ g < w7.heap.size ∧ bm < w7.heap.size) (hb : w7.heap.size ≤ b11) (nb : w10.heap[b11]? = some (.cells #[x0, x1, x2, x3] 24 (0, 0))) :
    PutEnd w7 ((((w10.setCell ⟨b11, 0, none⟩ (.int .i64 hn.base)).setCell ⟨b11, 1, none⟩ (.int .i64 hn.half)).setCell ⟨b11, 2, none⟩ (.int .i64 hn.space)).setCell ⟨b11, 3, none⟩ (.int .i64 hn.top)) p g bm n b11 wsn R hn := by
  obtain ⟨h1, h2, -⟩ := fill4 nb (.int .i64 hn.base) (.int .i64 hn.half) (.int .i64 hn.space) (.int .i64 hn.top)
  exact ⟨h1, hA.turn h2 (by simp; omega) (by simp; omega) (by simp; omega), hT.newer h2 (by intro b hm; rw [List.mem_singleton.1 hm]; exact hb), hb⟩
theorem PutEnd.made {w7 w10 : World} {p g bm n : Nat} {wsn : List Int} {R : List (Nat × Nat)} {hn : Hp} (hA : ArenaAt w10 p g bm n wsn R) (hT : Turn [g] w7 w10) :
    PutEnd w7 (w10.alloc (.cells #[.int .i64 hn.base, .int .i64 hn.half, .int .i64 hn.space, .int .i64 hn.top] 24 (0, 0))) p g bm n w10.heap.size wsn R hn :=
  ⟨heap_alloc_new _ _, hA.ext (Ext.alloc _ _), hT.trans (Turn.of_ext (Ext.alloc _ _)), hT.size⟩
theorem run_equal_heap (a b c d a' b' c' d' : Int) (w : World) : (Op.equalIn 10000 24 (.agg #[.int .i64 a, .int .i64 b, .int .i64 c, .int .i64 d]) (.agg #[.int .i64 a', .int .i64 b', .int .i64 c', .int .i64 d'])).run Try.prog w = .ok ((a == a') && (b == b') && (c == c') && (d == d')) w := by
  rw [show (10000 : Nat) = 9999 + 1 by rfl, run_equalIn_struct w 9999 24 _ _ (by kernel_rfl) (by kernel_rfl)]
  by_cases h1 : a = a' <;> by_cases h2 : b = b' <;> by_cases h3 : c = c' <;> by_cases h4 : d = d' <;> simp [go_sem, h1, h2, h3, h4]
theorem run_same_heap (a b c d : Int) (w : World) : (Op.equalIn 10000 24 (.agg #[.int .i64 a, .int .i64 b, .int .i64 c, .int .i64 d]) (.agg #[.int .i64 a, .int .i64 b, .int .i64 c, .int .i64 d])).run Try.prog w = .ok true w := by
  rw [run_equal_heap]; simp
/-- what a put leaves is a rig again -/
theorem putN_64 {ws : List Int} {R : List (Nat × Nat)} {h : Hp} {o : Ob} (hW : ∀ x ∈ ws, W64 x) (hF : ∀ x ∈ o.fields, W64 x) : ∀ x ∈ putN ws R h o, W64 x := by
  unfold putN
  split
  · rename_i hb; exact putWs_64 hb hW hF
  · exact hW
theorem putN_take {ws : List Int} {R : List (Nat × Nat)} {h : Hp} {o : Ob} (h3 : h.base = 3) : (putN ws R h o).take 3 = ws.take 3 := by
  unfold putN
  split
  · exact putWs_take h3
  · rfl
theorem set_later {w3 w7 : World} {p g bm q gq B n t0 t1 : Nat} {vR : Value} {ws : List Int} {R : List (Nat × Nat)} {h : Hp} (k : Tw w3 w7 p g bm q gq B n t0 t1 vR ws R h) (hw : (Lit.int .i64 h.base).wf = true) (hW : ∀ x ∈ ws, W64 x) {x v i : Int} (hx : W64 x) (hv : W64 v) (hi : (Lit.int .i64 i).wf = true) (W : World) (e : Ext w7 W) :
    Calls Try.prog 28 #[.pointer (some ⟨p, 0, none⟩), .agg #[.int .i64 h.base, .int .i64 h.half, .int .i64 h.space, .int .i64 h.top], .int .u64 x, .int .i64 i, .int .u64 v] W fun e w' =>
      e = .returned (.bool (setAt ws R h x i v).isSome) ∧ ArenaAt w' p g bm n (wsOf ws R h.base (setAt ws R h x i v) v) R ∧ Turn [g] w7 w' :=
  (oset_is (k.ext e).a h hw hW hx hv hi).mono fun _ _ hs => ⟨hs.1, hs.2.1, (Turn.of_ext e).trans hs.2.2⟩
theorem rset_later {w3 w7 w9 : World} {p g bm q gq B n t0 t1 : Nat} {vR : Value} {ws : List Int} {R : List (Nat × Nat)} {h : Hp} (k : Tw w3 w7 p g bm q gq B n t0 t1 vR ws R h) (t : Turn [g] w7 w9) (hW : ∀ x ∈ ws, W64 x) {x v i : Int} (hx : W64 x) (hv : W64 v) (hi : (Lit.int .i64 i).wf = true) (W : World) (e : Ext w9 W) :
    Calls Try.prog 29 #[.pointer (some ⟨q, 0, none⟩), .agg #[.int .i64 h.base, .int .i64 h.half, .int .i64 h.space, .int .i64 h.top], .int .u64 x, .int .i64 i, .int .u64 v] W fun e w' =>
      e = .returned (.bool (setAt ws R h x i v).isSome) ∧ RefAt w' q gq B n (wsOf ws R h.base (setAt ws R h x i v) v) vR R ∧ Turn [gq] w9 w' := by
  obtain ⟨hr, _, _, hB⟩ := k.mid t
  exact (rset_is (hr.ext e) (Nat.le_trans hB (Below.size e)) h hW hx hv hi).mono fun _ _ hs => ⟨hs.1, hs.2.1, (Turn.of_ext e).trans hs.2.2⟩
structure HeldQ (w' : World) (t0 t1 t6 p q : Nat) (hha hsp htp ix wd vv : Int) : Prop where
  h : w'.cell? ⟨t0, 0, none⟩ = some (.pointer (some ⟨p, 0, none⟩)) ∧ w'.cell? ⟨t0, 1, none⟩ = some (.pointer (some ⟨q, 0, none⟩)) ∧ w'.cell? ⟨t1, 0, none⟩ = some (.int .i64 3) ∧ w'.cell? ⟨t1, 1, none⟩ = some (.int .i64 hha) ∧ w'.cell? ⟨t1, 2, none⟩ = some (.int .i64 hsp) ∧ w'.cell? ⟨t1, 3, none⟩ = some (.int .i64 htp) ∧
    w'.cell? ⟨t6, 1, none⟩ = some (.int .i64 ix) ∧ w'.cell? ⟨t6, 6, none⟩ = some (.int .u64 wd) ∧ w'.cell? ⟨t6, 7, none⟩ = some (.int .u64 vv)
theorem HeldQ.turn {w w' : World} {t0 t1 t6 p q : Nat} {hha hsp htp ix wd vv : Int} (hh : HeldQ w t0 t1 t6 p q hha hsp htp ix wd vv) {b : Nat} (tt : Turn [b] w w') (h0 : t0 ≠ b) (h1 : t1 ≠ b) (h6 : t6 ≠ b) : HeldQ w' t0 t1 t6 p q hha hsp htp ix wd vv := by
  obtain ⟨a1, a2, a3, a4, a5, a6, a7, a8, a9⟩ := hh.h
  exact ⟨⟨tt.cell (by simpa using h0) a1, tt.cell (by simpa using h0) a2, tt.cell (by simpa using h1) a3, tt.cell (by simpa using h1) a4, tt.cell (by simpa using h1) a5, tt.cell (by simpa using h1) a6, tt.cell (by simpa using h6) a7, tt.cell (by simpa using h6) a8, tt.cell (by simpa using h6) a9⟩⟩
theorem plays_walk3 (r : RawI) (v : Value) (L : List StepI) (w : World) (hr : RawP w r) (hL : StpsP w v L) : Calls Try.prog 4 #[.agg (rawC r).toArray, v] w (TrueExt w) := by
  obtain ⟨rv, rl, rh⟩ := r
  have HR := Lib.hid hr; have HL := Lib.hid hL
  obtain ⟨qs, cs, rfl, hls, hcs, -⟩ := hL.1
  rw [List.length_map] at hls HL ⊢
  obtain ⟨q2, c2, hv2, hl2, hc2, -⟩ := RowsP.at hr.p.1
  dsimp only at hv2 hl2
  rw [List.length_map] at hv2 hl2
  subst hv2
  unfold maxLen at hcs hc2
  clear hL hr
  have HLG := Lib.hid (fun W (e : Ext w W) => large_flat (a := rh.base) (b := rh.half) (c := rh.space) (d := rh.top) (WordSl.of_rows (HR.out.p.ext e).1))
  simp only [rawC]
  dsimp only at HLG
  obtain ⟨l2, hl2e⟩ : ∃ b, b = decide (400 < rl.length) := ⟨_, rfl⟩
  rw [← hl2e] at HLG
  have HE2 := Lib.hid hl2e
  clear hl2e hl2 hc2
  go_enter Try.func4, Try.ntmps4
  go_upto_region 1 with fail
  refine wp_alloc1 fun W hE hS b0 => ?_
  have HX := Lib.hid hE
  clear hE hS
  obtain ⟨z0, z1, z2, z3, z4⟩ := cells5 b0
  go_wp2_with fail
  refine (HLG.out W HX.out).mono ?_
  rintro e w1 ⟨rfl, hx1⟩
  cases l2 with
  | true =>
    have HX1 := Lib.hid (HX.out.trans hx1)
    clear hx1 b0 z0 z1 z2 z3 z4
    go_wp2_with fail
    refine (wakes3 _).mono ?_
    rintro e w2 ⟨rfl, hx2⟩
    have HX2 := Lib.hid (HX1.out.trans hx2)
    clear hx2
    go_wp2
    go_ret
    exact ⟨rfl, HX2.out⟩
  | false =>
    have c0 := (Below.block hx1 _ (Array.getElem?_eq_some_iff.1 b0).1).trans b0
    have HX1 := Lib.hid (HX.out.trans hx1)
    clear hx1 b0 z0 z1 z2 z3 z4
    obtain ⟨z0, z1, z2, z3, z4⟩ := cells5 c0
    by_cases hbig : 40 < L.length
    · have bb : decide ((40 : Int) < (L.length : Int)) = true := decide_eq_true (by omega)
      clear c0 hbig
      go_wp2_with fail
      refine (wakes3 _).mono ?_
      rintro e w2 ⟨rfl, hx2⟩
      have HX2 := Lib.hid (HX1.out.trans hx2)
      clear hx2
      go_wp2
      go_ret
      exact ⟨rfl, HX2.out⟩
    · have bb : decide ((40 : Int) < (L.length : Int)) = false := decide_eq_false (by omega)
      have hL40 : L.length ≤ 40 := by omega
      have hrl : rl.length ≤ 400 := by have := HE2.out; simp at this; omega
      have hbase := (Array.getElem?_eq_some_iff.1 c0).1
      clear HLG HE2 HX hbig
      go_wp2_with fail
      refine (lay_words (WordSl.of_rows (HR.out.p.ext HX1.out).1) (by dsimp only; omega)).mono ?_
      rintro e w3 ⟨p, g, bm, q, gq, B, rfl, hB⟩
      dsimp only at hB
      have HB := Lib.hid hB
      have b0 := (Below.block hB.ext _ hbase).trans c0
      have HX3 := Lib.hid (HX1.out.trans hB.ext)
      clear hB c0 z0 z1 z2 z3 z4 bb
      obtain ⟨z0, z1, z2, z3, z4⟩ := cells5 b0
      have n0 := (Array.getElem?_eq_some_iff.1 b0).1
      go_upto_region 7 with fail
      refine wp_alloc2 fun W4 hE4 hS4 b2 b3 => ?_
      obtain ⟨vR, hR3⟩ := HB.out.r
      have hgw : w.heap.size ≤ g := by have := HB.out.ge.2.1; have := HX1.out.size; omega
      have T0 := Lib.hid (show Tw w3 W4 p g bm q gq B (rl.length + 10) w3.heap.size (w3.heap.size + 1) vR (rigW rl rl.length) (rigR (max 1 rl.length)) rh from
        ⟨HB.out.a.ext hE4, hR3.ext hE4, ⟨_, hR3⟩, b2, b3, Turn.of_ext hE4, HB.out.lt, ⟨Nat.le_refl _, by omega⟩, HB.out.size⟩)
      have hW := rigW_mem (l := rl) (HR.out.p.2) rl.length
      have HW := Lib.hid hW
      clear hE4 hS4 z0 z1 z2 z3 z4 n0 HB b0 b2 b3 hR3 hW
      generalize ht0 : w3.heap.size = t0 at T0 ⊢
      generalize ht1 : t0 + 1 = t1 at T0 ⊢
      have HT0 := Lib.hid ht0; have HT1 := Lib.hid ht1
      clear ht0 ht1
      obtain ⟨x0, x1⟩ := cells2 T0.out.two
      obtain ⟨y0, y1, y2, y3⟩ := cells4 T0.out.hp
      have f0 := free_at T0.out.hp (i := 0)
      go_upto_region 8 with fail
      refine wp_fill1 T0.out.hp fun W5 h5 hT5 hS5 => ?_
      have T1 := Lib.hid (T0.out.fill (h' := ⟨3, rh.half, rh.space, rh.top⟩) h5 hT5)
      clear hS5 h5 hT5 T0 x0 x1 y0 y1 y2 y3 f0
      have hwh : (Lit.int .i64 (3 : Int)).wf = true := by decide
      have HWH := Lib.hid hwh
      clear hwh
      go_wp2_with fail
      go_loopw [9] (fun i wr => ∃ (j : Nat) (ws : List Int) (h : Hp), j ≤ L.length ∧ i = .int .i64 j ∧ Tw w3 wr p g bm q gq B (rl.length + 10) t0 t1 vR ws (rigR (max 1 rl.length)) h ∧ h.base = 3 ∧ (∀ x ∈ ws, W64 x) ∧ ws.take 3 = [0, 0, 0]) (fun i _ => L.length - (intOf i).toNat)
      case atStart => exact ⟨0, _, _, by omega, rfl, T1.out, rfl, HW.out, rigW_take _ _⟩
      case round =>
        obtain ⟨j, ws, h, hj, rfl, hT, hb3, hws, hz3⟩ := hrel
        obtain ⟨hba, hha, hsp, htp⟩ := h
        dsimp only at hb3
        subst hb3
        have T2 := Lib.hid hT; have HWS := Lib.hid hws; have HZ := Lib.hid hz3
        clear hT hws hz3
        by_cases hlt : j < L.length
        · have i1 : (j : Int) < (L.length : Int) := by omega
          have HS := Lib.hid (HL.out.2 _ (List.getElem_mem hlt))
          obtain ⟨q, c, e1, -, -, hcell⟩ := HL.out.1
          obtain ⟨rfl, -, rfl⟩ := Value.slice.inj e1
          obtain ⟨hl8, b8, off8, rfl, hc8⟩ := hcell j (stpC L[j]) (by rw [List.getElem?_map, List.getElem?_eq_getElem hlt]; rfl)
          clear hcell e1 hl8
          have hxw := T2.out.done HX3.out hgw
          have HXW := Lib.hid hxw
          generalize L[j] = st at *
          obtain ⟨kd, ix, ⟨o, ov⟩, wd, vv⟩ := st
          obtain ⟨qf, cf, hvf, hlf, hcf, -⟩ := RowsP.at HS.out.x.p.1
          dsimp only at hvf hlf
          rw [List.length_map] at hvf hlf
          subst hvf
          have hsf := HS.out.x.text
          dsimp only at hsf
          unfold maxLen at hsf hcf
          have s0 := hxw.cell (hc8 0 _ rfl)
          have s1 := hxw.cell (hc8 1 _ rfl)
          have s2 := hxw.cell (hc8 2 _ rfl)
          have s3 := hxw.cell (hc8 3 _ rfl)
          have s4 := hxw.cell (hc8 4 _ rfl)
          have s5 := hxw.cell (hc8 5 _ rfl)
          have s6 := hxw.cell (hc8 6 _ rfl)
          have s7 := hxw.cell (hc8 7 _ rfl)
          dsimp only at s0 s1 s2 s3 s4 s5 s6 s7
          rw [Nat.add_zero] at s0
          clear hc8 hxw
          go_upto_region 12 with fail
          refine wp_alloc1 fun W6 hE6 hS6 b6 => ?_
          have T3 := Lib.hid (T2.out.ext hE6)
          have HXW6 := Lib.hid (HXW.out.trans hE6)
          have ht1w : t1 < wr.heap.size := (Array.getElem?_eq_some_iff.1 T2.out.hp).1
          clear hE6 hS6 T2 HXW s0 s1 s2 s3 s4 s5 s6 s7
          generalize hg6 : wr.heap.size = t6 at *
          clear hg6
          have HL1 := Lib.hid (fun W => long_is o.kind o.tag o.fields.length cf qf o.text W (by omega) (by omega))
          obtain ⟨l1, hl1e⟩ : ∃ b, b = (decide (600 < o.fields.length) || decide (800 < o.text.size)) := ⟨_, rfl⟩
          rw [← hl1e] at HL1
          have HE1 := Lib.hid hl1e
          clear hl1e
          obtain ⟨z0, z1, z2, z3, z4, z5, z6, z7⟩ := cells8 b6
          go_wp2_with fail
          refine (HL1.out _).mono ?_
          rintro e w7 ⟨rfl, hx7⟩
          cases l1 with
          | true =>
            have T4 := Lib.hid (T3.out.ext hx7)
            clear hx7 b6 z0 z1 z2 z3 z4 z5 z6 z7
            go_wp2_with fail
            refine (wakes3 _).mono ?_
            rintro e w8 ⟨rfl, hx8⟩
            have T5 := Lib.hid (T4.out.ext hx8)
            clear hx8
            go_wp2
            go_ret
            exact ⟨rfl, T5.out.done HX3.out hgw⟩
          | false =>
            have hof : o.fields.length ≤ 600 ∧ o.text.size ≤ 800 := by
              have := HE1.out
              simp at this
              omega
            obtain ⟨hof, hos⟩ := hof
            have T4 := Lib.hid (T3.out.ext hx7)
            have HXW7 := Lib.hid (HXW6.out.trans hx7)
            have b7 := (Below.block hx7 _ (Array.getElem?_eq_some_iff.1 b6).1).trans b6
            clear hx7 b6 z0 z1 z2 z3 z4 z5 z6 z7 HL1 HE1 T3 HXW6
            obtain ⟨z0, z1, z2, z3, z4, z5, z6, z7⟩ := cells8 b7
            clear z0 z1 z2 z3 z4 z5 z6 z7
            obtain ⟨z0, z1, z2, z3, z4, z5, z6, z7⟩ := cells8 b7
            go_upto_block 2 with fail
            go_cut [11, 12, 13, 14, 15, 16, 17] from 39 to 146 (fun _ _ _ _ _ _ _ wx => ∃ (ws' : List Int) (h' : Hp), Tw w3 wx p g bm q gq B (rl.length + 10) t0 t1 vR ws' (rigR (max 1 rl.length)) h' ∧ h'.base = 3 ∧ (∀ x ∈ ws', W64 x) ∧ ws'.take 3 = [0, 0, 0])
            case first =>
              by_cases k0 : kd = 0
              · subst k0
                go_upto_region 16 with fail
                have HOW := Lib.hid (own_later (kd := o.kind) (tg := o.tag) (t := o.text) (HS.out.x.p.1.ext HXW7.out) (by omega))
                have HPU := Lib.hid (put_later T4.out HWH.out HWS.out o HS.out.x.p.2 (by omega))
                obtain ⟨hn, hhn⟩ : ∃ hn, hn = putH ws (rigR (max 1 rl.length)) ⟨3, hha, hsp, htp⟩ o := ⟨_, rfl⟩
                obtain ⟨kn, hkn⟩ : ∃ kn, kn = putK ws (rigR (max 1 rl.length)) ⟨3, hha, hsp, htp⟩ o := ⟨_, rfl⟩
                obtain ⟨bn, hbn⟩ : ∃ bn, bn = putB ws (rigR (max 1 rl.length)) ⟨3, hha, hsp, htp⟩ o := ⟨_, rfl⟩
                rw [← hhn, ← hkn, ← hbn] at HPU
                have HHN := Lib.hid hhn; have HKN := Lib.hid hkn; have HBN := Lib.hid hbn
                clear hhn hkn hbn
                obtain ⟨x0, x1⟩ := cells2 T4.out.two
                obtain ⟨y0, y1, y2, y3⟩ := cells4 T4.out.hp
                have n0 := (Array.getElem?_eq_some_iff.1 T4.out.two).1
                have n1 := (Array.getElem?_eq_some_iff.1 T4.out.hp).1
                have n2 := (Array.getElem?_eq_some_iff.1 b7).1
                have hgt : g < t0 ∧ t0 < t1 ∧ t1 < t6 := by have := T4.out.low; have := T4.out.st; have := HT0.out; omega
                have HK7 := Lib.hid (show HeldP w7 t0 t1 t6 p hha hsp htp o.kind o.tag qf o.fields.length cf o.text from ⟨x0, y0, y1, y2, y3, z2, z3, z4, z5⟩)
                go_region_held3 (fun w' => w'.cell? ⟨t0, 0, none⟩ = some (.pointer (some ⟨p, 0, none⟩)) ∧ w'.cell? ⟨t1, 0, none⟩ = some (.int .i64 3) ∧ w'.cell? ⟨t1, 1, none⟩ = some (.int .i64 hha) ∧ w'.cell? ⟨t1, 2, none⟩ = some (.int .i64 hsp) ∧ w'.cell? ⟨t1, 3, none⟩ = some (.int .i64 htp) ∧
                    w'.cell? ⟨t6, 2, none⟩ = some (.int .i64 o.kind) ∧ w'.cell? ⟨t6, 3, none⟩ = some (.int .i64 o.tag) ∧ w'.cell? ⟨t6, 4, none⟩ = some (.slice qf o.fields.length cf) ∧ w'.cell? ⟨t6, 5, none⟩ = some (.string o.text))
                  (first | go_keep | exact hkp9.h | exact hkp10.h | exact HeldP.h (HeldP.set4 hkp10 (by omega) (by omega) (by omega)) | exact HeldP.h (HeldP.ext hkp10 (Ext.alloc _ _)))
                  (first
                    | (go_at_call 12; refine (HOW.out _ (by first | exact Ext.refl _ | exact Ext.drew _ | exact Ext.alloc _ _ | exact (Ext.drew _).trans (Ext.alloc _ _) | exact (Ext.alloc _ _).trans (Ext.drew _))).mono ?_; rintro e w9 ⟨qo, co, rfl, ho9, hx9, hxw9⟩; have hsz9 := Below.size hx9; have hkp9 := HK7.out.ext hx9; have HO9 := Lib.hid ho9; have HX9 := Lib.hid hx9; (try (have nb9 : w9.heap[w7.heap.size]? = some (Obj.cells #[.int .i64 0, .int .i64 0, .int .i64 0, .int .i64 0] 24 (0, 0)) := (Below.block hxw9 _ (by simp)).trans (heap_alloc_new _ _))); clear ho9 hx9 hxw9)
                    | (go_at_call 26; refine (HPU.out _ (HX9.out.trans (by first | exact Ext.refl _ | exact Ext.drew _ | exact Ext.alloc _ _ | exact (Ext.drew _).trans (Ext.alloc _ _))) qo co (HO9.out.ext (by first | exact Ext.refl _ | exact Ext.drew _ | exact Ext.alloc _ _ | exact (Ext.drew _).trans (Ext.alloc _ _)))).mono ?_; rintro e w10 ⟨rfl, hA10, hT10, hTW10⟩; (try (have nb10 : w10.heap[w7.heap.size]? = some (Obj.cells #[.int .i64 0, .int .i64 0, .int .i64 0, .int .i64 0] 24 (0, 0)) := hTW10.keep nb9 (by omega); obtain ⟨k0, k1, k2, k3⟩ := cells4 nb10; have kf0 := free_at nb10 (i := 0); have kf1 := free_at nb10 (i := 1); have kf2 := free_at nb10 (i := 2); have kf3 := free_at nb10 (i := 3))); (try (have nb10 : w10.heap[w9.heap.size]? = some (Obj.cells #[.int .i64 0, .int .i64 0, .int .i64 0, .int .i64 0] 24 (0, 0)) := hTW10.keep (heap_alloc_new _ _) (by omega); obtain ⟨k0, k1, k2, k3⟩ := cells4 nb10; have kf0 := free_at nb10 (i := 0); have kf1 := free_at nb10 (i := 1); have kf2 := free_at nb10 (i := 2); have kf3 := free_at nb10 (i := 3))); have hsz10 := hT10.size; have hkp10 := HK7.out.turn hT10 (by omega) (by omega) (by omega)))
                all_goals
                  have hlow : p < w7.heap.size ∧ g < w7.heap.size ∧ bm < w7.heap.size := by have := T4.out.low; have := T4.out.t.size; omega
                  first
                    | (refine then_gen (fun W => PutEnd w7 W p g bm (rl.length + 10) w7.heap.size (putN ws (rigR (max 1 rl.length)) ⟨3, hha, hsp, htp⟩ o) (rigR (max 1 rl.length)) hn) (PutEnd.fill hA10 hT10 hlow (Nat.le_refl _) nb10) fun W11 hP => ?_; obtain ⟨hblk, hA11, hT11, hnew⟩ := hP; have ht11 : t0 < w7.heap.size ∧ t1 < w7.heap.size ∧ t6 < w7.heap.size ∧ g < w7.heap.size := (by omega); clear hnew; generalize w7.heap.size = b11 at hblk ht11 ⊢)
                    | (refine then_gen (fun W => PutEnd w7 W p g bm (rl.length + 10) w9.heap.size (putN ws (rigR (max 1 rl.length)) ⟨3, hha, hsp, htp⟩ o) (rigR (max 1 rl.length)) hn) (PutEnd.fill hA10 hT10 hlow hsz9 nb10) fun W11 hP => ?_; obtain ⟨hblk, hA11, hT11, hnew⟩ := hP; have ht11 : t0 < w9.heap.size ∧ t1 < w9.heap.size ∧ t6 < w9.heap.size ∧ g < w9.heap.size := (by omega); clear hnew; generalize w9.heap.size = b11 at hblk ht11 ⊢)
                    | (refine then_gen (fun W => PutEnd w7 W p g bm (rl.length + 10) w10.heap.size (putN ws (rigR (max 1 rl.length)) ⟨3, hha, hsp, htp⟩ o) (rigR (max 1 rl.length)) hn) (PutEnd.made hA10 hT10) fun W11 hP => ?_; obtain ⟨hblk, hA11, hT11, hnew⟩ := hP; have ht11 : t0 < w10.heap.size ∧ t1 < w10.heap.size ∧ t6 < w10.heap.size ∧ g < w10.heap.size := (by omega); clear hnew; generalize w10.heap.size = b11 at hblk ht11 ⊢)
                  have HB11 := Lib.hid hblk; have HA11 := Lib.hid hA11; have HT11 := Lib.hid hT11
                  obtain ⟨hr11, ht0c, ht1c, hB11⟩ := T4.out.mid hT11
                  have HXW11 := Lib.hid (Turn.after HXW7.out hT11 (by intro b hb; simp at hb; omega))
                  have b11' := hT11.keep b7 (by omega)
                  have HB7 := Lib.hid b11'
                  have hrp := (rput_is (w := W11) hr11 hB11 ⟨3, hha, hsp, htp⟩ HWS.out o cf qf ((HS.out.x.p.1).ext HXW11.out) HS.out.x.p.2 (by omega)).mono fun _ _ => rput_said
                  rw [← HHN.out, ← HKN.out, ← HBN.out] at hrp
                  have HRP := Lib.hid hrp
                  clear hkp9 hkp10 hA10 hT10 hTW10 HO9 HX9 hlow hr11 hB11 hrp hblk hA11 hT11 x0 x1 y0 y1 y2 y3 z0 z1 z2 z3 z4 z5 z6 z7 n0 n1 n2 HOW HPU HK7
                  obtain ⟨x0, x1⟩ := cells2 ht0c
                  obtain ⟨y0, y1, y2, y3⟩ := cells4 ht1c
                  obtain ⟨z0, z1, z2, z3, z4, z5, z6, z7⟩ := cells8 b11'
                  clear ht0c ht1c b11'
                  go_wp2_with fail
                  refine HRP.out.mono ?_
                  rintro e w12 ⟨rfl, hr12, hT12⟩
                  have T5 := Lib.hid (T4.out.both HA11.out HT11.out hr12 hT12)
                  have hgq : gq < t0 := by have := T4.out.low; have := HT0.out; omega
                  have hb12 := hT12.keep HB11.out (by omega)
                  have ht1w12 : t1 < w12.heap.size := (Array.getElem?_eq_some_iff.1 T5.out.hp).1
                  have hb11w : b11 < w12.heap.size := (Array.getElem?_eq_some_iff.1 hb12).1
                  clear hr12 hT12 x0 x1 y0 y1 y2 y3 z0 z1 z2 z3 z4 z5 z6 z7 HRP
                  go_upto_region 18 with fail
                  refine wp_alloc1 fun W13 hE13 hS13 b13 => ?_
                  have T6 := Lib.hid (T5.out.ext hE13)
                  have hb13 := (Below.block hE13 _ (Array.getElem?_eq_some_iff.1 hb12).1).trans hb12
                  clear hE13 hS13 hb12 T5
                  obtain ⟨e0, e1, e2, e3, e4, e5⟩ := cells6 b13
                  obtain ⟨v0, v1, v2, v3⟩ := cells4 hb13
                  have hkk : (kn != kn) = false := by simp
                  have hbb : (bn != bn) = false := by cases bn <;> rfl
                  have hsame := run_same_heap hn.base hn.half hn.space hn.top
                  go_upto_region 20 with fail
                  have HP64 := Lib.hid (putN_64 (R := rigR (max 1 rl.length)) (h := ⟨3, hha, hsp, htp⟩) (o := o) HWS.out HS.out.x.p.2)
                  have HPT := Lib.hid ((putN_take (ws := ws) (R := rigR (max 1 rl.length)) (h := ⟨3, hha, hsp, htp⟩) (o := o) rfl).trans HZ.out)
                  obtain ⟨y0, y1, y2, y3⟩ := cells4 T6.out.hp
                  have f0 := free_at T6.out.hp (i := 0)
                  have f1 := free_at T6.out.hp (i := 1)
                  have f2 := free_at T6.out.hp (i := 2)
                  have f3 := free_at T6.out.hp (i := 3)
                  cases bn with
                  | true =>
                    have hbase3 : hn.base = 3 := by rw [HHN.out]; unfold putH; rw [if_pos HBN.out.symm]; rfl
                    have HB3 := Lib.hid hbase3
                    clear hbase3
                    go_wp2_with fail
                    go_meet
                    obtain ⟨h1, h2, -⟩ := fill4 T6.out.hp (.int .i64 hn.base) (.int .i64 hn.half) (.int .i64 hn.space) (.int .i64 hn.top)
                    exact ⟨_, hn, T6.out.fill h1 h2, HB3.out, HP64.out, HPT.out⟩
                  | false =>
                    go_wp2_with fail
                    go_meet
                    exact ⟨_, ⟨3, hha, hsp, htp⟩, T6.out, rfl, HP64.out, HPT.out⟩
              · have hk0 : (kd == 0) = false := beq_false_of_ne k0
                by_cases k1 : kd = 1
                · subst k1
                  have hg0 : g < t0 := by have := T4.out.low; have := HT0.out; omega
                  have hgq0 : gq < t0 := by have := T4.out.low; have := HT0.out; omega
                  have hgt : t0 < t1 ∧ t1 < t6 := by have := T4.out.st; omega
                  have HSE := Lib.hid (set_later T4.out HWH.out HWS.out HS.out.wd HS.out.v HS.out.i)
                  have HRS := Lib.hid (fun w9 (t : Turn [g] w7 w9) => rset_later T4.out t HWS.out HS.out.wd HS.out.v HS.out.i)
                  dsimp only at HSE HRS
                  obtain ⟨sb, hsb⟩ : ∃ sb, sb = (setAt ws (rigR (max 1 rl.length)) ⟨3, hha, hsp, htp⟩ wd ix vv).isSome := ⟨_, rfl⟩
                  rw [← hsb] at HSE
                  simp only [← hsb] at HRS
                  clear hsb
                  obtain ⟨x0, x1⟩ := cells2 T4.out.two
                  obtain ⟨y0, y1, y2, y3⟩ := cells4 T4.out.hp
                  have HK7 := Lib.hid (show HeldQ w7 t0 t1 t6 p q hha hsp htp ix wd vv from ⟨x0, x1, y0, y1, y2, y3, z1, z6, z7⟩)
                  have hbb : (sb != sb) = false := by cases sb <;> rfl
                  go_upto_region 23 with fail
                  go_region_held3 (fun w' => w'.cell? ⟨t0, 0, none⟩ = some (.pointer (some ⟨p, 0, none⟩)) ∧ w'.cell? ⟨t0, 1, none⟩ = some (.pointer (some ⟨q, 0, none⟩)) ∧ w'.cell? ⟨t1, 0, none⟩ = some (.int .i64 3) ∧ w'.cell? ⟨t1, 1, none⟩ = some (.int .i64 hha) ∧ w'.cell? ⟨t1, 2, none⟩ = some (.int .i64 hsp) ∧ w'.cell? ⟨t1, 3, none⟩ = some (.int .i64 htp) ∧
                      w'.cell? ⟨t6, 1, none⟩ = some (.int .i64 ix) ∧ w'.cell? ⟨t6, 6, none⟩ = some (.int .u64 wd) ∧ w'.cell? ⟨t6, 7, none⟩ = some (.int .u64 vv))
                    (first | go_keep | exact hkp9.h | exact hkp10.h)
                    (first
                      | (go_at_call 28; refine (HSE.out _ (by first | exact Ext.refl _ | exact Ext.drew _)).mono ?_; rintro e w9 ⟨rfl, hA9, hT9⟩; have hkp9 := HK7.out.turn hT9 (by omega) (by omega) (by omega))
                      | (go_at_call 29; refine (HRS.out _ hT9 _ (by first | exact Ext.refl _ | exact Ext.drew _)).mono ?_; rintro e w10 ⟨rfl, hR10, hT10⟩; have hkp10 := hkp9.turn hT10 (by omega) (by omega) (by omega)))
                  all_goals
                    have T5 := Lib.hid (T4.out.both hA9 hT9 hR10 hT10)
                    clear hkp9 hkp10 hA9 hT9 hR10 hT10 x0 x1 y0 y1 y2 y3 z0 z1 z2 z3 z4 z5 z6 z7 HSE HRS HK7 b7
                    go_wp2_with fail
                    go_meet
                    exact ⟨_, ⟨3, hha, hsp, htp⟩, T5.out, rfl, wsOf_64 HWS.out HS.out.v, (wsOf_take rfl).trans HZ.out⟩
                · have hk1 : (kd == 1) = false := beq_false_of_ne k1
                  by_cases k2 : kd = 2
                  · subst k2
                    obtain ⟨x0, x1⟩ := cells2 T4.out.two
                    obtain ⟨y0, y1, y2, y3⟩ := cells4 T4.out.hp
                    have ht6w : t6 < w7.heap.size := (Array.getElem?_eq_some_iff.1 b7).1
                    go_wp2_with fail
                    refine (get_said T4.out.a ⟨3, hha, hsp, htp⟩ HWH.out HWS.out HS.out.wd).mono ?_
                    rintro e w9 ⟨qg, lg, cg, rfl, hsg, hx9⟩
                    obtain ⟨hlg1, hlg2⟩ := wsl_cap hsg
                    generalize hgr : getH ws (rigR (max 1 rl.length)) ⟨3, hha, hsp, htp⟩ wd = gr at *
                    have HGR := Lib.hid hgr
                    have T5 := Lib.hid (T4.out.ext hx9)
                    have b9 := (Below.block hx9 _ (Array.getElem?_eq_some_iff.1 b7).1).trans b7
                    have HSG := Lib.hid hsg
                    clear hx9 x0 x1 y0 y1 y2 y3 z0 z1 z2 z3 z4 z5 z6 z7 hgr hsg
                    go_upto_region 27 with fail
                    refine wp_alloc1 fun W10 hE10 hS10 b10 => ?_
                    have T6 := Lib.hid (T5.out.ext hE10)
                    have b9' := (Below.block hE10 _ (Array.getElem?_eq_some_iff.1 b9).1).trans b9
                    have HSG10 := Lib.hid (HSG.out.ext hE10)
                    have ht1w9 : t1 < w9.heap.size := (Array.getElem?_eq_some_iff.1 T5.out.hp).1
                    have ht6w9 : t6 < w9.heap.size := (Array.getElem?_eq_some_iff.1 b9).1
                    clear hE10 hS10 T5 b9 HSG
                    generalize hg9 : w9.heap.size = t7 at *
                    clear hg9
                    obtain ⟨x0, x1⟩ := cells2 T6.out.two
                    obtain ⟨y0, y1, y2, y3⟩ := cells4 T6.out.hp
                    obtain ⟨z0, z1, z2, z3, z4, z5, z6, z7⟩ := cells8 b9'
                    go_wp2_with fail
                    refine (rget_said T6.out.r ⟨3, hha, hsp, htp⟩ HWS.out HS.out.wd).mono ?_
                    rintro e w11 ⟨qr, lr, cr, rfl, hsr, hx11⟩
                    rw [HGR.out] at hsr ⊢
                    obtain ⟨hlr1, hlr2⟩ := wsl_cap hsr
                    have T7 := Lib.hid (T6.out.ext hx11)
                    have b10' := (Below.block hx11 _ (Array.getElem?_eq_some_iff.1 b10).1).trans b10
                    have HSG11 := Lib.hid (HSG10.out.ext hx11)
                    have HSR := Lib.hid hsr
                    clear hx11 T6 b9' b10 x0 x1 y0 y1 y2 y3 z0 z1 z2 z3 z4 z5 z6 z7 HSG10 hsr
                    go_upto_region 28 with fail
                    refine wp_alloc1 fun W12 hE12 hS12 b12 => ?_
                    have T8 := Lib.hid (T7.out.ext hE12)
                    have b10 := (Below.block hE12 _ (Array.getElem?_eq_some_iff.1 b10').1).trans b10'
                    have HSG12 := Lib.hid (HSG11.out.ext hE12)
                    have HSR12 := Lib.hid (HSR.out.ext hE12)
                    clear hE12 hS12 T7 b10' HSG11 HSR
                    generalize hgk : obK (gr.map (·.2)) = gk at *
                    generalize hgt : obT (gr.map (·.2)) = gt at *
                    generalize hgs : obS (gr.map (·.2)) = gs at *
                    generalize hgb : gr.isSome = gb at *
                    clear hgk hgt hgs hgb
                    have hbb : (gb != gb) = false := by cases gb <;> rfl
                    obtain ⟨a0, a1, a2, a3⟩ := cells4 b10
                    obtain ⟨e0, e1, e2, e3, e4⟩ := cells5 b12
                    go_wp2_with fail
                    refine (keep_object HSG12.out HSR12.out).mono ?_
                    rintro e w13 ⟨rfl, hx13⟩
                    rw [show decide (gk = gk ∧ gt = gt ∧ gs = gs ∧ obF (gr.map (·.2)) = obF (gr.map (·.2))) = true by simp]
                    have T9 := Lib.hid (T8.out.ext hx13)
                    have b12' := (Below.block hx13 _ (Array.getElem?_eq_some_iff.1 b12).1).trans b12
                    clear hx13 T8 b10 b12 a0 a1 a2 a3 e0 e1 e2 e3 e4 HSG12 HSR12
                    obtain ⟨e0, e1, e2, e3, e4⟩ := cells5 b12'
                    go_wp2_with fail
                    go_meet
                    exact ⟨ws, ⟨3, hha, hsp, htp⟩, T9.out, rfl, HWS.out, HZ.out⟩
                  · have hk2 : (kd == 2) = false := beq_false_of_ne k2
                    go_wp2_with fail
                    go_meet
                    exact ⟨ws, ⟨3, hha, hsp, htp⟩, T4.out, rfl, HWS.out, HZ.out⟩
            case rest =>
              obtain ⟨ws', h', hT', hb', hW', hz'⟩ := hcut
              obtain ⟨hba, hha', hsp', htp'⟩ := h'
              dsimp only at hb'
              subst hb'
              have T9 := Lib.hid hT'; have HW' := Lib.hid hW'; have HZ' := Lib.hid hz'
              clear hT' hW' hz'
              obtain ⟨x0, x1⟩ := cells2 T9.out.two
              go_wp2_with fail
              refine (same_tw T9.out (by omega) HZ'.out).mono ?_
              rintro e w12 ⟨rfl, hx12⟩
              have T10 := Lib.hid (T9.out.ext hx12)
              clear hx12 x0 x1 T9
              go_wp2_with fail
              exact ⟨⟨j + 1, ws', ⟨3, hha', hsp', htp'⟩, by omega, by go_num, T10.out, rfl, HW'.out, HZ'.out⟩, by simp [intOf]; omega⟩
        · obtain rfl : j = L.length := by omega
          go_wp2_with fail
          refine (wakes3 _).mono ?_
          rintro e w8 ⟨rfl, hx8⟩
          have T5 := Lib.hid (T2.out.ext hx8)
          clear hx8
          go_wp2
          go_ret
          exact ⟨rfl, T5.out.done HX3.out hgw⟩
theorem plays_walk' {v1 v : Value} {r : RawI} {L : List StepI} {w : World} (h1 : v1 = .agg (rawC r).toArray ∧ RawP w r) (h2 : StpsP w v L) : Calls Try.prog 4 #[v1, v] w (TrueExt w) := by
  obtain ⟨rfl, hr⟩ := h1
  exact plays_walk3 r v L w hr h2
end Go.Proofs.Ytlffmcadchbheaa
