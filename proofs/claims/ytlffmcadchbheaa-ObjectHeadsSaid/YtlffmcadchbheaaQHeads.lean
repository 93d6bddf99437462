/- Proved here: the contracts and laws of ObjLD of this claim, each beneath its own remark; conditions: those that each theorem names. -/
import Derived.Test.YtlffmcadchbheaaM9
/- ObjectHeads: the walk. -/
namespace Go.Proofs.Ytlffmcadchbheaa
open Go.RowKit Go.Maps Arena
set_option maxHeartbeats 8000000
set_option maxRecDepth 100000
theorem ohead_is (o : Ob) (c : Nat) (q : Option Addr) (W : World) (h : o.fields.length ≤ 9223372036854775807) : Calls Try.prog 13 #[.agg #[.int .i64 o.kind, .int .i64 o.tag, .slice q o.fields.length c, .string o.text]] W fun e w' => ∃ r, e = .returned (.tuple #[.int .u64 r, .bool (mayO o)]) ∧ (mayO o = true → r = headO o) ∧ (mayO o = false → r = 0) ∧ Ext W w' := by
  cases hm : mayO o with
  | true => exact (head_yes o.kind o.tag o.fields.length c q o.text W h hm).mono fun e w' ⟨h1, h2⟩ => ⟨_, h1, fun _ => rfl, (fun h => by cases h), h2⟩
  | false => exact (head_no o.kind o.tag o.fields.length c q o.text W h hm).mono fun e w' ⟨h1, h2⟩ => ⟨_, h1, (fun h => by cases h), fun _ => rfl, h2⟩
/-- two heads are one just if what they tell is -/
theorem heads_cases {o1 o2 : Ob} (h1 : mayO o1 = true) (h2 : mayO o2 = true) :
    ((o1.kind == o2.kind) = false ∧ (headO o1 == headO o2) = false) ∨
    ((o1.kind == o2.kind) = true ∧ (o1.tag == o2.tag) = false ∧ (headO o1 == headO o2) = false) ∨
    ((o1.kind == o2.kind) = true ∧ (o1.tag == o2.tag) = true ∧ ((o1.fields.length : Int) == (o2.fields.length : Int)) = false ∧ (headO o1 == headO o2) = false) ∨
    ((o1.kind == o2.kind) = true ∧ (o1.tag == o2.tag) = true ∧ ((o1.fields.length : Int) == (o2.fields.length : Int)) = true ∧ ((o1.text.size : Int) == (o2.text.size : Int)) = false ∧ (headO o1 == headO o2) = false) ∨
    ((o1.kind == o2.kind) = true ∧ (o1.tag == o2.tag) = true ∧ ((o1.fields.length : Int) == (o2.fields.length : Int)) = true ∧ ((o1.text.size : Int) == (o2.text.size : Int)) = true ∧ (headO o1 == headO o2) = true) := by
  unfold mayO at h1 h2
  unfold headO headK sizeK
  generalize o1.kind = k1 at *
  generalize o2.kind = k2 at *
  generalize o1.tag = t1 at *
  generalize o2.tag = t2 at *
  generalize o1.fields.length = n1 at *
  generalize o2.fields.length = n2 at *
  generalize o1.text.size = m1 at *
  generalize o2.text.size = m2 at *
  have e1 := mayK_cases h1
  have e2 := mayK_cases h2
  simp only [beq_eq_false_iff_ne, beq_iff_eq, ne_eq]
  by_cases hk : k1 = k2
  · subst hk
    by_cases ht : t1 = t2
    · subst ht
      by_cases hk2 : k1 = 2
      · subst hk2
        rw [if_pos rfl, if_pos rfl]
        omega
      · rw [if_neg hk2, if_neg hk2]
        omega
    · refine .inr (.inl ⟨rfl, ht, ?_⟩)
      split <;> omega
  · refine .inl ⟨hk, ?_⟩
    split <;> split <;> omega
theorem words_cases (o : Ob) :
    ((o.kind == 2) = false ∧ (wordsO o : Int) = 1 + (o.fields.length : Int)) ∨
    ((o.kind == 2) = true ∧ ((o.text.size : Int) % 8 == 0) = true ∧ (wordsO o : Int) = 1 + (o.text.size : Int) / 8) ∨
    ((o.kind == 2) = true ∧ ((o.text.size : Int) % 8 == 0) = false ∧ (wordsO o : Int) = 1 + (o.text.size : Int) / 8 + 1) := by
  unfold wordsO bodyK
  simp only [beq_eq_false_iff_ne, beq_iff_eq, ne_eq]
  generalize o.text.size = m
  generalize o.fields.length = n
  by_cases hk : o.kind = 2
  · rw [if_pos hk]
    refine .inr ?_
    by_cases h8 : (m : Int) % 8 = 0
    · exact .inl ⟨hk, h8, by omega⟩
    · exact .inr ⟨hk, h8, by omega⟩
  · rw [if_neg hk]
    exact .inl ⟨hk, by omega⟩
theorem head_kind {o : Ob} (h : mayO o = true) : headO o % 256 = o.kind := by
  unfold mayO at h
  unfold headO headK
  have := mayK_bounds h
  omega
theorem heads_walk (x y : ObI) (w : World) (hx : ObiP w x) (hy : ObiP w y) : Calls Try.prog 6 #[.agg (obiC x).toArray, .agg (obiC y).toArray] w (TrueExt w) := by
  obtain ⟨o1, v1⟩ := x
  obtain ⟨o2, v2⟩ := y
  obtain ⟨q1, c1, hv1, hl1, hc1, -⟩ := RowsP.at hx.p.1
  obtain ⟨q2, c2, hv2, hl2, hc2, -⟩ := RowsP.at hy.p.1
  dsimp only at hv1 hv2 hl1 hl2
  rw [List.length_map] at hv1 hl1 hv2 hl2
  subst hv1 hv2
  have hs1 := hx.text
  have hs2 := hy.text
  dsimp only at hs1 hs2
  unfold maxLen at hs1 hs2 hc1 hc2
  clear hx hy
  have HL1 := Lib.hid (fun W => long_is o1.kind o1.tag o1.fields.length c1 q1 o1.text W (by omega) (by omega))
  have HL2 := Lib.hid (fun W => long_is o2.kind o2.tag o2.fields.length c2 q2 o2.text W (by omega) (by omega))
  have HH1 := Lib.hid (fun W => ohead_is o1 c1 q1 W (by omega))
  have HH2 := Lib.hid (fun W => ohead_is o2 c2 q2 W (by omega))
  have HM1 := Lib.hid (fun W => refmay_is o1.kind o1.tag o1.fields.length c1 q1 o1.text W)
  have HM2 := Lib.hid (fun W => refmay_is o2.kind o2.tag o2.fields.length c2 q2 o2.text W)
  rw [show mayK o1.kind o1.tag o1.fields.length o1.text.size = mayO o1 from rfl] at HM1
  rw [show mayK o2.kind o2.tag o2.fields.length o2.text.size = mayO o2 from rfl] at HM2
  simp only [obiC]
  obtain ⟨l1, hl1e⟩ : ∃ b, b = (decide (600 < o1.fields.length) || decide (800 < o1.text.size)) := ⟨_, rfl⟩
  obtain ⟨l2, hl2e⟩ : ∃ b, b = (decide (600 < o2.fields.length) || decide (800 < o2.text.size)) := ⟨_, rfl⟩
  rw [← hl1e] at HL1
  rw [← hl2e] at HL2
  have HE1 := Lib.hid hl1e; have HE2 := Lib.hid hl2e
  clear hl1e hl2e hl1 hl2 hc1 hc2 hs1 hs2
  go_enter Try.func6, Try.ntmps6
  go_upto_region 1 with fail
  refine wp_alloc2 fun W hE hS b0 b1 => ?_
  have HX := Lib.hid hE
  obtain ⟨z0, z1, z2, z3⟩ := cells4 b0
  obtain ⟨u0, u1, u2, u3⟩ := cells4 b1
  clear hE hS
  go_wp2_with fail
  refine (HL1.out W).mono ?_
  rintro e w1 ⟨rfl, hx1⟩
  cases l1 with
  | true =>
    have HX1 := Lib.hid (HX.out.trans hx1)
    clear hx1 b0 b1 z0 z1 z2 z3 u0 u1 u2 u3
    go_wp2_with fail
    refine (wakes3 _).mono ?_
    rintro e w2 ⟨rfl, hx2⟩
    have HX2 := Lib.hid (HX1.out.trans hx2)
    clear hx2
    go_wp2
    go_ret
    exact ⟨rfl, HX2.out⟩
  | false =>
    have c0 := (Below.block hx1 _ (Array.getElem?_eq_some_iff.1 b0).1).trans b0
    have c1' := (Below.block hx1 _ (Array.getElem?_eq_some_iff.1 b1).1).trans b1
    have HX1 := Lib.hid (HX.out.trans hx1)
    clear hx1 b0 b1 z0 z1 z2 z3 u0 u1 u2 u3
    obtain ⟨z0, z1, z2, z3⟩ := cells4 c0
    obtain ⟨u0, u1, u2, u3⟩ := cells4 c1'
    go_wp2_with fail
    refine (HL2.out _).mono ?_
    rintro e w2 ⟨rfl, hx2⟩
    cases l2 with
    | true =>
      have HX2 := Lib.hid (HX1.out.trans hx2)
      clear hx2 c0 c1' z0 z1 z2 z3 u0 u1 u2 u3
      go_wp2_with fail
      refine (wakes3 _).mono ?_
      rintro e w3 ⟨rfl, hx3⟩
      have HX3 := Lib.hid (HX2.out.trans hx3)
      clear hx3
      go_wp2
      go_ret
      exact ⟨rfl, HX3.out⟩
    | false =>
      have b0 := (Below.block hx2 _ (Array.getElem?_eq_some_iff.1 c0).1).trans c0
      have b1 := (Below.block hx2 _ (Array.getElem?_eq_some_iff.1 c1').1).trans c1'
      have HX2 := Lib.hid (HX1.out.trans hx2)
      clear hx2 c0 c1' z0 z1 z2 z3 u0 u1 u2 u3
      obtain ⟨z0, z1, z2, z3⟩ := cells4 b0
      obtain ⟨u0, u1, u2, u3⟩ := cells4 b1
      go_wp2_with fail
      refine (HH1.out _).mono ?_
      rintro e w3 ⟨r1, rfl, hr1, -, hx3⟩
      have HR1 := Lib.hid hr1
      clear hr1
      have c0 := (Below.block hx3 _ (Array.getElem?_eq_some_iff.1 b0).1).trans b0
      have c1' := (Below.block hx3 _ (Array.getElem?_eq_some_iff.1 b1).1).trans b1
      have HX3 := Lib.hid (HX2.out.trans hx3)
      clear hx3 b0 b1 z0 z1 z2 z3 u0 u1 u2 u3
      obtain ⟨z0, z1, z2, z3⟩ := cells4 c0
      obtain ⟨u0, u1, u2, u3⟩ := cells4 c1'
      go_wp2_with fail
      refine (HH2.out _).mono ?_
      rintro e w4 ⟨r2, rfl, hr2, -, hx4⟩
      have HR2 := Lib.hid hr2
      clear hr2
      have b0 := (Below.block hx4 _ (Array.getElem?_eq_some_iff.1 c0).1).trans c0
      have b1 := (Below.block hx4 _ (Array.getElem?_eq_some_iff.1 c1').1).trans c1'
      have HX4 := Lib.hid (HX3.out.trans hx4)
      clear hx4 c0 c1' z0 z1 z2 z3 u0 u1 u2 u3
      obtain ⟨z0, z1, z2, z3⟩ := cells4 b0
      obtain ⟨u0, u1, u2, u3⟩ := cells4 b1
      generalize hm1 : mayO o1 = m1 at HM1 HH1 HR1 ⊢
      generalize hm2 : mayO o2 = m2 at HM2 HH2 HR2 ⊢
      have HM1e := Lib.hid hm1; have HM2e := Lib.hid hm2
      clear hm1 hm2
      cases m1 <;> cases m2
      all_goals
        go_wp2_with fail
        refine (HM1.out _).mono ?_
        rintro e w5 ⟨rfl, hx5⟩
        have c0 := (Below.block hx5 _ (Array.getElem?_eq_some_iff.1 b0).1).trans b0
        have c1' := (Below.block hx5 _ (Array.getElem?_eq_some_iff.1 b1).1).trans b1
        have HX5 := Lib.hid (HX4.out.trans hx5)
        clear hx5 b0 b1 z0 z1 z2 z3 u0 u1 u2 u3
        obtain ⟨z0, z1, z2, z3⟩ := cells4 c0
        obtain ⟨u0, u1, u2, u3⟩ := cells4 c1'
        go_wp2_with fail
        refine (HM2.out _).mono ?_
        rintro e w6 ⟨rfl, hx6⟩
        have b0 := (Below.block hx6 _ (Array.getElem?_eq_some_iff.1 c0).1).trans c0
        have b1 := (Below.block hx6 _ (Array.getElem?_eq_some_iff.1 c1').1).trans c1'
        have HX6 := Lib.hid (HX5.out.trans hx6)
        clear hx6 c0 c1' z0 z1 z2 z3 u0 u1 u2 u3
        obtain ⟨z0, z1, z2, z3⟩ := cells4 b0
        obtain ⟨u0, u1, u2, u3⟩ := cells4 b1
        clear HL1 HL2 HH1 HH2 HM1 HM2 HX HX1 HX2 HX3 HX4 HX5
      rotate_left 3
      · go_upto_region 9 with fail
        have hc := heads_cases HM1e.out HM2e.out
        have hw := words_cases o1
        have hkd := head_kind HM1e.out
        have hr1 := HR1.out trivial
        have hr2 := HR2.out trivial
        rw [← hr1] at hkd
        rw [← hr1, ← hr2] at hc
        have HKD := Lib.hid hkd
        have HWO := Lib.hid (fun W => owords_yes o1.kind o1.tag o1.fields.length c1 q1 o1.text W (by
          have := mayK_bounds (show mayK o1.kind o1.tag o1.fields.length o1.text.size = true from HM1e.out)
          omega) HM1e.out)
        rw [show 1 + bodyK o1.kind o1.fields.length o1.text.size = wordsO o1 from rfl] at HWO
        have hb := mayK_bounds (show mayK o1.kind o1.tag o1.fields.length o1.text.size = true from HM1e.out)
        obtain ⟨B1, B2, -, -, B3, B4, -, -⟩ := hb
        have hw64 : W64 r1 := by
          rw [hr1]
          have := mayK_bounds (show mayK o1.kind o1.tag o1.fields.length o1.text.size = true from HM1e.out)
          unfold W64 headO headK
          omega
        obtain ⟨hr64, -⟩ := hw64
        clear hr1 hr2 hkd HR1 HR2 HM1e HM2e HE1 HE2
        generalize hwn : (wordsO o1 : Int) = wn at HWO hw
        clear hwn
        rcases hc with ⟨a1, a5⟩ | ⟨a1, a2, a5⟩ | ⟨a1, a2, a3, a5⟩ | ⟨a1, a2, a3, a4, a5⟩ | ⟨a1, a2, a3, a4, a5⟩
        all_goals rcases hw with ⟨e1, e2⟩ | ⟨e1, e2, e3⟩ | ⟨e1, e2, e3⟩
        all_goals
          go_wp2_with fail
          refine (HWO.out _).mono ?_
          rintro e w7 ⟨rfl, hx7⟩
          subst_eqs
          have c0 := (Below.block hx7 _ (Array.getElem?_eq_some_iff.1 b0).1).trans b0
          have HX7 := Lib.hid (HX6.out.trans hx7)
          have hkd := HKD.out
          clear hx7 b0 b1 z0 z1 z2 z3 u0 u1 u2 u3 HKD HWO
          obtain ⟨z0, z1, z2, z3⟩ := cells4 c0
          go_wp2_with fail
          refine (wakes3 _).mono ?_
          rintro e w8 ⟨rfl, hx8⟩
          have HX8 := Lib.hid (HX7.out.trans hx8)
          clear hx8
          go_wp2
          go_ret
          exact ⟨rfl, HX8.out⟩
      all_goals
        go_wp2_with fail
        refine (wakes3 _).mono ?_
        rintro e w7 ⟨rfl, hx7⟩
        have HX7 := Lib.hid (HX6.out.trans hx7)
        clear hx7
        go_wp2
        go_ret
        exact ⟨rfl, HX7.out⟩
theorem heads_walk' {v1 v2 : Value} {x y : ObI} {w : World} (h1 : v1 = .agg (obiC x).toArray ∧ ObiP w x) (h2 : v2 = .agg (obiC y).toArray ∧ ObiP w y) : Calls Try.prog 6 #[v1, v2] w (TrueExt w) := by
  obtain ⟨rfl, hx⟩ := h1
  obtain ⟨rfl, hy⟩ := h2
  exact heads_walk x y w hx hy
end Go.Proofs.Ytlffmcadchbheaa
